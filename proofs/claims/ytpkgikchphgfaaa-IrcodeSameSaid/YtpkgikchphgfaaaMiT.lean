/- Texts of this claim, put together: part 20. -/
import Derived.Test.YtpkgikchphgfaaaMiR
/- A program's bytes, run once. -/
namespace Go.Proofs.Ytpkgikchphgfaaa.Ic
open Go Go.RowKit Go.Proofs.Ytpkgikchphgfaaa.Eng Go.Proofs.Ytpkgikchphgfaaa.Fl
set_option linter.unusedVariables false
set_option linter.unusedSimpArgs false
set_option maxRecDepth 20000
def ra39 : Ann := ⟨fun | 0 => 25165908 | 2 => 3377699720527956 | _ => 0, fun | 0 => 92 | 2 => 92 | _ => 0, fun _ => [], false⟩
def ra40 : Ann := ⟨fun | 0 => 15032385546 | 2 => 8264141345021879123976 | _ => 0, fun | 0 => 14 | 2 => 12 | _ => 0, fun _ => [], false⟩
def ra19 : Ann := ⟨fun _ => 0, fun _ => 0, fun _ => [], false⟩
def ra80 : Ann := ⟨fun _ => 0, fun _ => 0, fun _ => [], false⟩
def ra81 : Ann := ⟨fun | 0 => 1569 | _ => 0, fun | 0 => 48 | _ => 0, fun _ => [], false⟩
def ra82 : Ann := ⟨fun | 0 => 2083 | _ => 0, fun | 0 => 17 | _ => 0, fun _ => [], false⟩
def ra83 : Ann := ⟨fun _ => 0, fun _ => 0, fun _ => [], false⟩
def ra84 : Ann := ⟨fun _ => 0, fun _ => 0, fun _ => [], false⟩
def ra85 : Ann := ⟨fun _ => 0, fun _ => 0, fun _ => [], false⟩
def ra86 : Ann := ⟨fun _ => 0, fun _ => 0, fun _ => [], false⟩
def ra87 : Ann := ⟨fun | 0 => 7176 | _ => 0, fun | 0 => 12 | _ => 0, fun _ => [], false⟩
def ra88 : Ann := ⟨fun | 0 => 9 | _ => 0, fun | 0 => 13 | _ => 0, fun _ => [], false⟩
def ra89 : Ann := ⟨fun _ => 0, fun _ => 0, fun _ => [], false⟩
def ra90 : Ann := ⟨fun _ => 0, fun _ => 0, fun _ => [], false⟩
def ra130 : Ann := ⟨fun _ => 0, fun _ => 0, fun _ => [], false⟩
def ra131 : Ann := ⟨fun _ => 0, fun _ => 0, fun _ => [], false⟩
noncomputable def fsI : FuncId → Option (Func × Ann)
  | 39 => some (Try.f39, ra39)
  | 40 => some (Try.f40, ra40)
  | 19 => some (Try.f19, ra19)
  | 80 => some (Try.f80, ra80)
  | 81 => some (Try.f81, ra81)
  | 82 => some (Try.f82, ra82)
  | 83 => some (Try.f83, ra83)
  | 84 => some (Try.f84, ra84)
  | 85 => some (Try.f85, ra85)
  | 86 => some (Try.f86, ra86)
  | 87 => some (Try.f87, ra87)
  | 88 => some (Try.f88, ra88)
  | 89 => some (Try.f89, ra89)
  | 90 => some (Try.f90, ra90)
  | 130 => some (Try.f130, ra130)
  | 131 => some (Try.f131, ra131)
  | _ => none
theorem fsI_ok : ∀ f fn an, fsI f = some (fn, an) → Runs Try.prog f fn := fun f fn an h => by
  unfold fsI at h
  split at h
  · cases h; exact ⟨Try.func39, by kernel_rfl, by kernel_rfl, by kernel_rfl⟩
  · cases h; exact ⟨Try.func40, by kernel_rfl, by kernel_rfl, by kernel_rfl⟩
  · cases h; exact ⟨Try.func19, by kernel_rfl, by kernel_rfl, by kernel_rfl⟩
  · cases h; exact ⟨Try.func80, by kernel_rfl, by kernel_rfl, by kernel_rfl⟩
  · cases h; exact ⟨Try.func81, by kernel_rfl, by kernel_rfl, by kernel_rfl⟩
  · cases h; exact ⟨Try.func82, by kernel_rfl, by kernel_rfl, by kernel_rfl⟩
  · cases h; exact ⟨Try.func83, by kernel_rfl, by kernel_rfl, by kernel_rfl⟩
  · cases h; exact ⟨Try.func84, by kernel_rfl, by kernel_rfl, by kernel_rfl⟩
  · cases h; exact ⟨Try.func85, by kernel_rfl, by kernel_rfl, by kernel_rfl⟩
  · cases h; exact ⟨Try.func86, by kernel_rfl, by kernel_rfl, by kernel_rfl⟩
  · cases h; exact ⟨Try.func87, by kernel_rfl, by kernel_rfl, by kernel_rfl⟩
  · cases h; exact ⟨Try.func88, by kernel_rfl, by kernel_rfl, by kernel_rfl⟩
  · cases h; exact ⟨Try.func89, by kernel_rfl, by kernel_rfl, by kernel_rfl⟩
  · cases h; exact ⟨Try.func90, by kernel_rfl, by kernel_rfl, by kernel_rfl⟩
  · cases h; exact ⟨Try.func130, by kernel_rfl, by kernel_rfl, by kernel_rfl⟩
  · cases h; exact ⟨Try.func131, by kernel_rfl, by kernel_rfl, by kernel_rfl⟩
  · cases h
def rE0 : FuncId → Option (Spc U)
  | 9 => some sGiven
  | _ => none
theorem rE0_ok : ∀ f S, rE0 f = some S → SpecOk Try.prog f S := fun f S h => by
  unfold rE0 at h
  split at h
  · cases h; exact sGiven_ok
  · cases h
def ra18 : Ann := ⟨fun _ => 0, fun _ => 0, fun _ => [], false⟩
set_option maxHeartbeats 0 in
theorem e18 : evFn X (runE X rE0 fsI 60 3 20) ra18 lp0 Try.f18 [] [] (fun o v => some (o, v)) = some ([], .v (.bool true)) := by kernel_rfl
theorem sAwake18_ok : SpecOk Try.prog 18 sAwake := by
  refine fn_ok X_ok mixed (runE_ok (N := 60) (k := 3) X_ok mixed rE0_ok fsI_ok 20) ra18 lp0 Try.func18 (by kernel_rfl) (by kernel_rfl) (lp0_ok (by kernel_rfl)) fun objs args x hx hp => ?_
  obtain ⟨rfl, rfl⟩ := d0_ok hx
  exact e18
end Go.Proofs.Ytpkgikchphgfaaa.Ic


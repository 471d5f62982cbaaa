/- Texts of this claim, put together: part 11. -/
import Derived.Test.YtmcflglkfgnbbaaMtH
/- A leaf's bytes: awake. -/
namespace Go.Proofs.Ytmcflglkfgnbbaa.Nd
open Go Go.RowKit Go.Proofs.Ytmcflglkfgnbbaa.Eng
set_option linter.unusedVariables false
set_option linter.unusedSimpArgs false
set_option maxRecDepth 20000
def ra19 : Ann := ⟨fun | 0 => 458762 | 2 => 61572651155466 | _ => 0, fun | 0 => 12 | 2 => 12 | _ => 0, fun _ => [], false⟩
def ra46 : Ann := ⟨fun | 0 => 9 | _ => 0, fun | 0 => 13 | _ => 0, fun _ => [], false⟩
def ra47 : Ann := ⟨fun _ => 0, fun _ => 0, fun _ => [], false⟩
def ra78 : Ann := ⟨fun _ => 0, fun _ => 0, fun _ => [], false⟩
def an15 : Ann := ⟨fun _ => 0, fun _ => 0, fun _ => [], false⟩
noncomputable def fsN : FuncId → Option (Func × Ann)
  | 19 => some (Try.f19, ra19)
  | 46 => some (Try.f46, ra46)
  | 47 => some (Try.f47, ra47)
  | 78 => some (Try.f78, ra78)
  | _ => none
theorem fsN_ok : ∀ f fn an, fsN f = some (fn, an) → Runs Try.prog f fn := fun f fn an h => by
  unfold fsN at h
  split at h
  · cases h; exact ⟨Try.func19, by kernel_rfl, by kernel_rfl, by kernel_rfl⟩
  · cases h; exact ⟨Try.func46, by kernel_rfl, by kernel_rfl, by kernel_rfl⟩
  · cases h; exact ⟨Try.func47, by kernel_rfl, by kernel_rfl, by kernel_rfl⟩
  · cases h; exact ⟨Try.func78, by kernel_rfl, by kernel_rfl, by kernel_rfl⟩
  · cases h
set_option maxHeartbeats 0 in
theorem e15 : evFn X (runE X E0 fsN 60 3 20) an15 lp0 Try.f15 [] [] (fun o v => some (o, v)) = some ([], .v (.bool true)) := by kernel_rfl
def d0 (objs : List (TO U)) (args : List (TV U)) : Option (Unit) := match objs, args with
  | [], [] =>
    some ()
  | _, _ => none
theorem d0_ok {objs : List (TO U)} {args : List (TV U)} (h : d0 objs args = some ()) : objs = [] ∧ args = [] := by
  unfold d0 at h
  repeat' split at h
  all_goals first | (cases h; done) | (cases h; exact ⟨rfl, rfl⟩)
def sAwake : Spc U := .of d0 (fun _ => True) (fun _ => []) fun _ => .v (.bool true)
theorem sAwake15_ok : SpecOk Try.prog 15 sAwake := by
  refine fn_ok X_ok mixed (runE_ok (N := 60) (k := 3) X_ok mixed E0_ok fsN_ok 20) an15 lp0 Try.func15 (by kernel_rfl) (by kernel_rfl) (lp0_ok (by kernel_rfl)) fun objs args x hx hp => ?_
  obtain ⟨rfl, rfl⟩ := d0_ok hx
  exact e15
end Go.Proofs.Ytmcflglkfgnbbaa.Nd


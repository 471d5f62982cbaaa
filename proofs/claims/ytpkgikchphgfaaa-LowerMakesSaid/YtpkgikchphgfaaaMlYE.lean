/- Texts of this claim, put together: part 29. -/
import Derived.Test.YtpkgikchphgfaaaMlQ
import Derived.Test.YtpkgikchphgfaaaMlYD
/- The program lowers something small. -/
namespace Go.Proofs.Ytpkgikchphgfaaa.Lw
open Go Go.RowKit Go.Proofs.Ytpkgikchphgfaaa.Eng Go.Proofs.Ytpkgikchphgfaaa.Fl
set_option linter.unusedVariables false
set_option linter.unusedSimpArgs false
set_option maxRecDepth 20000
def ra23 : Ann := ⟨fun | 0 => 481036337166 | 2 => 1033017668127734890510 | _ => 0, fun | 0 => 14 | 2 => 14 | _ => 0, fun _ => [], false⟩
def ra50 : Ann := ⟨fun | 0 => 7171 | _ => 0, fun | 0 => 0 | _ => 0, fun _ => [], false⟩
def ra51 : Ann := ⟨fun _ => 0, fun _ => 0, fun _ => [], false⟩
def ra52 : Ann := ⟨fun | 0 => 449 | _ => 0, fun | 0 => 0 | _ => 0, fun _ => [], false⟩
def ra53 : Ann := ⟨fun | 0 => 204 | _ => 0, fun | 0 => 204 | _ => 0, fun _ => [], false⟩
def ra98 : Ann := ⟨fun _ => 0, fun _ => 0, fun _ => [], false⟩
def ra99 : Ann := ⟨fun | 0 => 57 | _ => 0, fun | 0 => 29 | _ => 0, fun _ => [], false⟩
def ra100 : Ann := ⟨fun _ => 0, fun _ => 0, fun _ => [], false⟩
def ra101 : Ann := ⟨fun _ => 0, fun _ => 0, fun _ => [], false⟩
def ra102 : Ann := ⟨fun _ => 0, fun _ => 0, fun _ => [], false⟩
def ra103 : Ann := ⟨fun _ => 0, fun _ => 0, fun _ => [], false⟩
def ra104 : Ann := ⟨fun _ => 0, fun _ => 0, fun _ => [], false⟩
def ra105 : Ann := ⟨fun | 0 => 49 | 2 => 49 | 4 => 49 | _ => 0, fun | 0 => 49 | 2 => 49 | 4 => 48 | _ => 0, fun _ => [], false⟩
def ra106 : Ann := ⟨fun _ => 0, fun _ => 0, fun _ => [], false⟩
def ra134 : Ann := ⟨fun _ => 0, fun _ => 0, fun _ => [], false⟩
def ra135 : Ann := ⟨fun _ => 0, fun _ => 0, fun _ => [], false⟩
def ra136 : Ann := ⟨fun _ => 0, fun _ => 0, fun _ => [], false⟩
def ra137 : Ann := ⟨fun | 0 => 7516192773 | 2 => 16924961474604808445888517 | _ => 0, fun | 0 => 64 | 2 => 2112 | _ => 0, fun _ => [], false⟩
def ra138 : Ann := ⟨fun | 0 => 3 | 3 => 3 | _ => 0, fun | 0 => 18 | 3 => 19 | _ => 0, fun _ => [], false⟩
def ra139 : Ann := ⟨fun | 1 => 65 | 3 => 65 | _ => 0, fun | 1 => 114 | 3 => 114 | _ => 0, fun _ => [], false⟩
def ra140 : Ann := ⟨fun _ => 0, fun _ => 0, fun _ => [], false⟩
def ra141 : Ann := ⟨fun | 0 => 785 | _ => 0, fun | 0 => 28 | _ => 0, fun _ => [], false⟩
def ra142 : Ann := ⟨fun _ => 0, fun _ => 0, fun _ => [], false⟩
def ra143 : Ann := ⟨fun _ => 0, fun _ => 0, fun _ => [], false⟩
def ra144 : Ann := ⟨fun _ => 0, fun _ => 0, fun _ => [], false⟩
def ra145 : Ann := ⟨fun _ => 0, fun _ => 0, fun _ => [], false⟩
def ra146 : Ann := ⟨fun _ => 0, fun _ => 0, fun _ => [], false⟩
def ra147 : Ann := ⟨fun _ => 0, fun _ => 0, fun _ => [], false⟩
def ra159 : Ann := ⟨fun _ => 0, fun _ => 0, fun _ => [], false⟩
def ra160 : Ann := ⟨fun | 0 => 9 | _ => 0, fun | 0 => 13 | _ => 0, fun _ => [], false⟩
def ra161 : Ann := ⟨fun _ => 0, fun _ => 0, fun _ => [], false⟩
def ra177 : Ann := ⟨fun _ => 0, fun _ => 0, fun _ => [], false⟩
def ra178 : Ann := ⟨fun _ => 0, fun _ => 0, fun _ => [], false⟩
def ra179 : Ann := ⟨fun _ => 0, fun _ => 0, fun _ => [], false⟩
def ra187 : Ann := ⟨fun | 0 => 9 | _ => 0, fun | 0 => 12 | _ => 0, fun _ => [], false⟩
def ra188 : Ann := ⟨fun _ => 0, fun _ => 0, fun _ => [], false⟩
def ra189 : Ann := ⟨fun _ => 0, fun _ => 0, fun _ => [], false⟩
noncomputable def fsL : FuncId → Option (Func × Ann)
  | 28 => some (Try.f28, an28)
  | 23 => some (Try.f23, ra23)
  | 50 => some (Try.f50, ra50)
  | 51 => some (Try.f51, ra51)
  | 52 => some (Try.f52, ra52)
  | 53 => some (Try.f53, ra53)
  | 98 => some (Try.f98, ra98)
  | 99 => some (Try.f99, ra99)
  | 100 => some (Try.f100, ra100)
  | 101 => some (Try.f101, ra101)
  | 102 => some (Try.f102, ra102)
  | 103 => some (Try.f103, ra103)
  | 104 => some (Try.f104, ra104)
  | 105 => some (Try.f105, ra105)
  | 106 => some (Try.f106, ra106)
  | 134 => some (Try.f134, ra134)
  | 135 => some (Try.f135, ra135)
  | 136 => some (Try.f136, ra136)
  | 137 => some (Try.f137, ra137)
  | 138 => some (Try.f138, ra138)
  | 139 => some (Try.f139, ra139)
  | 140 => some (Try.f140, ra140)
  | 141 => some (Try.f141, ra141)
  | 142 => some (Try.f142, ra142)
  | 143 => some (Try.f143, ra143)
  | 144 => some (Try.f144, ra144)
  | 145 => some (Try.f145, ra145)
  | 146 => some (Try.f146, ra146)
  | 147 => some (Try.f147, ra147)
  | 159 => some (Try.f159, ra159)
  | 160 => some (Try.f160, ra160)
  | 161 => some (Try.f161, ra161)
  | 177 => some (Try.f177, ra177)
  | 178 => some (Try.f178, ra178)
  | 179 => some (Try.f179, ra179)
  | 187 => some (Try.f187, ra187)
  | 188 => some (Try.f188, ra188)
  | 189 => some (Try.f189, ra189)
  | _ => none
theorem fsL_ok : ∀ f fn an, fsL f = some (fn, an) → Runs Try.prog f fn := fun f fn an h => by
  unfold fsL at h
  split at h
  · cases h; exact ⟨Try.func28, by kernel_rfl, by kernel_rfl, by kernel_rfl⟩
  · cases h; exact ⟨Try.func23, by kernel_rfl, by kernel_rfl, by kernel_rfl⟩
  · cases h; exact ⟨Try.func50, by kernel_rfl, by kernel_rfl, by kernel_rfl⟩
  · cases h; exact ⟨Try.func51, by kernel_rfl, by kernel_rfl, by kernel_rfl⟩
  · cases h; exact ⟨Try.func52, by kernel_rfl, by kernel_rfl, by kernel_rfl⟩
  · cases h; exact ⟨Try.func53, by kernel_rfl, by kernel_rfl, by kernel_rfl⟩
  · cases h; exact ⟨Try.func98, by kernel_rfl, by kernel_rfl, by kernel_rfl⟩
  · cases h; exact ⟨Try.func99, by kernel_rfl, by kernel_rfl, by kernel_rfl⟩
  · cases h; exact ⟨Try.func100, by kernel_rfl, by kernel_rfl, by kernel_rfl⟩
  · cases h; exact ⟨Try.func101, by kernel_rfl, by kernel_rfl, by kernel_rfl⟩
  · cases h; exact ⟨Try.func102, by kernel_rfl, by kernel_rfl, by kernel_rfl⟩
  · cases h; exact ⟨Try.func103, by kernel_rfl, by kernel_rfl, by kernel_rfl⟩
  · cases h; exact ⟨Try.func104, by kernel_rfl, by kernel_rfl, by kernel_rfl⟩
  · cases h; exact ⟨Try.func105, by kernel_rfl, by kernel_rfl, by kernel_rfl⟩
  · cases h; exact ⟨Try.func106, by kernel_rfl, by kernel_rfl, by kernel_rfl⟩
  · cases h; exact ⟨Try.func134, by kernel_rfl, by kernel_rfl, by kernel_rfl⟩
  · cases h; exact ⟨Try.func135, by kernel_rfl, by kernel_rfl, by kernel_rfl⟩
  · cases h; exact ⟨Try.func136, by kernel_rfl, by kernel_rfl, by kernel_rfl⟩
  · cases h; exact ⟨Try.func137, by kernel_rfl, by kernel_rfl, by kernel_rfl⟩
  · cases h; exact ⟨Try.func138, by kernel_rfl, by kernel_rfl, by kernel_rfl⟩
  · cases h; exact ⟨Try.func139, by kernel_rfl, by kernel_rfl, by kernel_rfl⟩
  · cases h; exact ⟨Try.func140, by kernel_rfl, by kernel_rfl, by kernel_rfl⟩
  · cases h; exact ⟨Try.func141, by kernel_rfl, by kernel_rfl, by kernel_rfl⟩
  · cases h; exact ⟨Try.func142, by kernel_rfl, by kernel_rfl, by kernel_rfl⟩
  · cases h; exact ⟨Try.func143, by kernel_rfl, by kernel_rfl, by kernel_rfl⟩
  · cases h; exact ⟨Try.func144, by kernel_rfl, by kernel_rfl, by kernel_rfl⟩
  · cases h; exact ⟨Try.func145, by kernel_rfl, by kernel_rfl, by kernel_rfl⟩
  · cases h; exact ⟨Try.func146, by kernel_rfl, by kernel_rfl, by kernel_rfl⟩
  · cases h; exact ⟨Try.func147, by kernel_rfl, by kernel_rfl, by kernel_rfl⟩
  · cases h; exact ⟨Try.func159, by kernel_rfl, by kernel_rfl, by kernel_rfl⟩
  · cases h; exact ⟨Try.func160, by kernel_rfl, by kernel_rfl, by kernel_rfl⟩
  · cases h; exact ⟨Try.func161, by kernel_rfl, by kernel_rfl, by kernel_rfl⟩
  · cases h; exact ⟨Try.func177, by kernel_rfl, by kernel_rfl, by kernel_rfl⟩
  · cases h; exact ⟨Try.func178, by kernel_rfl, by kernel_rfl, by kernel_rfl⟩
  · cases h; exact ⟨Try.func179, by kernel_rfl, by kernel_rfl, by kernel_rfl⟩
  · cases h; exact ⟨Try.func187, by kernel_rfl, by kernel_rfl, by kernel_rfl⟩
  · cases h; exact ⟨Try.func188, by kernel_rfl, by kernel_rfl, by kernel_rfl⟩
  · cases h; exact ⟨Try.func189, by kernel_rfl, by kernel_rfl, by kernel_rfl⟩
  · cases h
def rL0 : FuncId → Option (Spc U)
  | 60 => some (sNames.wkA [.l .t82])
  | 61 => some (sTypes.wkA [.l .t82])
  | 62 => some sHereR
  | 63 => some sBlk
  | 64 => some (sPutP.wkA [.no, .no, wkI])
  | _ => none
theorem rL0_ok : ∀ f S, rL0 f = some S → SpecOk Try.prog f S := fun f S h => by
  unfold rL0 at h
  split at h
  · cases h; exact sNames_ok.wkA _
  · cases h; exact sTypes_ok.wkA _
  · cases h; exact sHereR_ok
  · cases h; exact sBlk_ok
  · cases h; exact sPutP_lib_ok
  · cases h
def an26 : Ann := ⟨fun _ => 0, fun _ => 0, fun _ => [], false⟩
set_option maxHeartbeats 0 in
theorem e26 : evFn X (runE X rL0 fsL 60 3 20) an26 lp0 Try.f26 [] [] (fun o v => some (o, v)) = some ([], .v (.bool true)) := by kernel_rfl
theorem sAwake26_ok : SpecOk Try.prog 26 sAwake := by
  refine fn_ok X_ok mixed (runE_ok (N := 60) (k := 3) X_ok mixed rL0_ok fsL_ok 20) an26 lp0 Try.func26 (by kernel_rfl) (by kernel_rfl) (lp0_ok (by kernel_rfl)) fun objs args x hx hp => ?_
  obtain ⟨rfl, rfl⟩ := d0_ok hx
  exact e26
end Go.Proofs.Ytpkgikchphgfaaa.Lw

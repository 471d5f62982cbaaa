/- Texts of this claim, put together: part 21. -/
import Derived.Test.YtpkgikchphgfaaaMcT
/- The program's parser, run: what its contracts need. -/
namespace Go.Proofs.Ytpkgikchphgfaaa.Ck
open Go Go.RowKit Go.Proofs.Ytpkgikchphgfaaa.Eng Go.Proofs.Ytpkgikchphgfaaa.Fl
set_option linter.unusedVariables false
set_option linter.unusedSimpArgs false
set_option maxRecDepth 20000
def ra53 : Ann := ⟨fun | 0 => 204 | _ => 0, fun | 0 => 204 | _ => 0, fun _ => [], false⟩
def ra99 : Ann := ⟨fun | 0 => 57 | _ => 0, fun | 0 => 29 | _ => 0, fun _ => [], false⟩
def ra100 : Ann := ⟨fun _ => 0, fun _ => 0, fun _ => [], false⟩
def ra101 : Ann := ⟨fun _ => 0, fun _ => 0, fun _ => [], false⟩
def ra102 : Ann := ⟨fun _ => 0, fun _ => 0, fun _ => [], false⟩
def ra103 : Ann := ⟨fun _ => 0, fun _ => 0, fun _ => [], false⟩
def ra104 : Ann := ⟨fun _ => 0, fun _ => 0, fun _ => [], false⟩
def ra105 : Ann := ⟨fun | 0 => 49 | 2 => 49 | 4 => 49 | _ => 0, fun | 0 => 49 | 2 => 49 | 4 => 48 | _ => 0, fun _ => [], false⟩
def ra106 : Ann := ⟨fun _ => 0, fun _ => 0, fun _ => [], false⟩
def ra138 : Ann := ⟨fun | 0 => 3 | 3 => 3 | _ => 0, fun | 0 => 18 | 3 => 19 | _ => 0, fun _ => [], false⟩
def ra139 : Ann := ⟨fun | 1 => 65 | 3 => 65 | _ => 0, fun | 1 => 114 | 3 => 114 | _ => 0, fun _ => [], false⟩
def ra140 : Ann := ⟨fun _ => 0, fun _ => 0, fun _ => [], false⟩
def ra141 : Ann := ⟨fun | 0 => 785 | _ => 0, fun | 0 => 28 | _ => 0, fun _ => [], false⟩
def ra142 : Ann := ⟨fun _ => 0, fun _ => 0, fun _ => [], false⟩
def ra143 : Ann := ⟨fun _ => 0, fun _ => 0, fun _ => [], false⟩
def ra144 : Ann := ⟨fun _ => 0, fun _ => 0, fun _ => [], false⟩
def ra145 : Ann := ⟨fun _ => 0, fun _ => 0, fun _ => [], false⟩
def ra146 : Ann := ⟨fun _ => 0, fun _ => 0, fun _ => [], false⟩
def ra147 : Ann := ⟨fun _ => 0, fun _ => 0, fun _ => [], false⟩
def ra159 : Ann := ⟨fun _ => 0, fun _ => 0, fun _ => [], false⟩
def ra160 : Ann := ⟨fun | 0 => 9 | _ => 0, fun | 0 => 13 | _ => 0, fun _ => [], false⟩
def ra161 : Ann := ⟨fun _ => 0, fun _ => 0, fun _ => [], false⟩
def ra177 : Ann := ⟨fun _ => 0, fun _ => 0, fun _ => [], false⟩
def ra178 : Ann := ⟨fun _ => 0, fun _ => 0, fun _ => [], false⟩
def ra179 : Ann := ⟨fun _ => 0, fun _ => 0, fun _ => [], false⟩
def ra187 : Ann := ⟨fun | 0 => 9 | _ => 0, fun | 0 => 12 | _ => 0, fun _ => [], false⟩
def ra188 : Ann := ⟨fun _ => 0, fun _ => 0, fun _ => [], false⟩
def ra189 : Ann := ⟨fun _ => 0, fun _ => 0, fun _ => [], false⟩
noncomputable def fsP : FuncId → Option (Func × Ann)
  | 53 => some (Try.f53, ra53)
  | 99 => some (Try.f99, ra99)
  | 100 => some (Try.f100, ra100)
  | 101 => some (Try.f101, ra101)
  | 102 => some (Try.f102, ra102)
  | 103 => some (Try.f103, ra103)
  | 104 => some (Try.f104, ra104)
  | 105 => some (Try.f105, ra105)
  | 106 => some (Try.f106, ra106)
  | 138 => some (Try.f138, ra138)
  | 139 => some (Try.f139, ra139)
  | 140 => some (Try.f140, ra140)
  | 141 => some (Try.f141, ra141)
  | 142 => some (Try.f142, ra142)
  | 143 => some (Try.f143, ra143)
  | 144 => some (Try.f144, ra144)
  | 145 => some (Try.f145, ra145)
  | 146 => some (Try.f146, ra146)
  | 147 => some (Try.f147, ra147)
  | 159 => some (Try.f159, ra159)
  | 160 => some (Try.f160, ra160)
  | 161 => some (Try.f161, ra161)
  | 177 => some (Try.f177, ra177)
  | 178 => some (Try.f178, ra178)
  | 179 => some (Try.f179, ra179)
  | 187 => some (Try.f187, ra187)
  | 188 => some (Try.f188, ra188)
  | 189 => some (Try.f189, ra189)
  | _ => none
theorem fsP_ok : ∀ f fn an, fsP f = some (fn, an) → Runs Try.prog f fn := fun f fn an h => by
  unfold fsP at h
  split at h
  · cases h; exact ⟨Try.func53, by kernel_rfl, by kernel_rfl, by kernel_rfl⟩
  · cases h; exact ⟨Try.func99, by kernel_rfl, by kernel_rfl, by kernel_rfl⟩
  · cases h; exact ⟨Try.func100, by kernel_rfl, by kernel_rfl, by kernel_rfl⟩
  · cases h; exact ⟨Try.func101, by kernel_rfl, by kernel_rfl, by kernel_rfl⟩
  · cases h; exact ⟨Try.func102, by kernel_rfl, by kernel_rfl, by kernel_rfl⟩
  · cases h; exact ⟨Try.func103, by kernel_rfl, by kernel_rfl, by kernel_rfl⟩
  · cases h; exact ⟨Try.func104, by kernel_rfl, by kernel_rfl, by kernel_rfl⟩
  · cases h; exact ⟨Try.func105, by kernel_rfl, by kernel_rfl, by kernel_rfl⟩
  · cases h; exact ⟨Try.func106, by kernel_rfl, by kernel_rfl, by kernel_rfl⟩
  · cases h; exact ⟨Try.func138, by kernel_rfl, by kernel_rfl, by kernel_rfl⟩
  · cases h; exact ⟨Try.func139, by kernel_rfl, by kernel_rfl, by kernel_rfl⟩
  · cases h; exact ⟨Try.func140, by kernel_rfl, by kernel_rfl, by kernel_rfl⟩
  · cases h; exact ⟨Try.func141, by kernel_rfl, by kernel_rfl, by kernel_rfl⟩
  · cases h; exact ⟨Try.func142, by kernel_rfl, by kernel_rfl, by kernel_rfl⟩
  · cases h; exact ⟨Try.func143, by kernel_rfl, by kernel_rfl, by kernel_rfl⟩
  · cases h; exact ⟨Try.func144, by kernel_rfl, by kernel_rfl, by kernel_rfl⟩
  · cases h; exact ⟨Try.func145, by kernel_rfl, by kernel_rfl, by kernel_rfl⟩
  · cases h; exact ⟨Try.func146, by kernel_rfl, by kernel_rfl, by kernel_rfl⟩
  · cases h; exact ⟨Try.func147, by kernel_rfl, by kernel_rfl, by kernel_rfl⟩
  · cases h; exact ⟨Try.func159, by kernel_rfl, by kernel_rfl, by kernel_rfl⟩
  · cases h; exact ⟨Try.func160, by kernel_rfl, by kernel_rfl, by kernel_rfl⟩
  · cases h; exact ⟨Try.func161, by kernel_rfl, by kernel_rfl, by kernel_rfl⟩
  · cases h; exact ⟨Try.func177, by kernel_rfl, by kernel_rfl, by kernel_rfl⟩
  · cases h; exact ⟨Try.func178, by kernel_rfl, by kernel_rfl, by kernel_rfl⟩
  · cases h; exact ⟨Try.func179, by kernel_rfl, by kernel_rfl, by kernel_rfl⟩
  · cases h; exact ⟨Try.func187, by kernel_rfl, by kernel_rfl, by kernel_rfl⟩
  · cases h; exact ⟨Try.func188, by kernel_rfl, by kernel_rfl, by kernel_rfl⟩
  · cases h; exact ⟨Try.func189, by kernel_rfl, by kernel_rfl, by kernel_rfl⟩
  · cases h
def wTr : Lw U := .a [.l .t82, .l .t82, .l .t90]
def rE0 : FuncId → Option (Spc U)
  | 23 => some (sChS.wkA [wTr])
  | _ => none
theorem rE0_ok : ∀ f S, rE0 f = some S → SpecOk Try.prog f S := fun f S h => by
  unfold rE0 at h
  split at h
  · cases h; exact sChS_ok.wkA _
  · cases h
end Go.Proofs.Ytpkgikchphgfaaa.Ck


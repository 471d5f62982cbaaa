/- Texts of this claim, put together: part 23. -/
import Derived.Test.YtpkgikchphgfaaaMcT
import Derived.Test.YtpkgikchphgfaaaMcV
/- A program that is checked stays as it is: the law. -/
namespace Go.Proofs.Ytpkgikchphgfaaa.Ck
open Go Go.RowKit Go.Proofs.Ytpkgikchphgfaaa.Eng Go.Proofs.Ytpkgikchphgfaaa.Fl
set_option linter.unusedVariables false
set_option linter.unusedSimpArgs false
set_option maxRecDepth 20000
theorem e22 (s : ByteArray) : (evFn X (fun (x : FuncId) => none) an0 lp0 Try.f22 [] [TV.v (Value.string s)]
  fun (o : List (TO X.U)) (v : TV X.U) => some (o, v)) =
  (cutB s none (some (if 3000 < (↑s.size : Int) then 3000 else (↑s.size : Int)))).bind fun (c : ByteArray) =>
  some ([], TV.v (Value.string c)) := by kernel_rfl
def sFew : Spc U := .of dstr (fun _ => True) (fun _ => []) fun s => .v (.string (cut3 s))
theorem sFew_ok : SpecOk Try.prog 22 sFew := by
  refine fn_ok X_ok mixed E0_ok an0 lp0 Try.func22 (by kernel_rfl) (by kernel_rfl) (lp0_ok (by kernel_rfl)) fun objs args s hx hp => ?_
  obtain ⟨rfl, rfl⟩ := dstr_ok hx
  refine (e22 s).trans ?_
  rw [(cut3_ok s).1]
  rfl
noncomputable def Ci : FuncId → Option (Spc U)
  | 21 => some sParse
  | 22 => some sFew
  | 23 => some sChS
  | 24 => some sAwake
  | 25 => some sTrees
  | _ => none
theorem Ci_ok : ∀ f S, Ci f = some S → SpecOk Try.prog f S := fun f S h => by
  unfold Ci at h
  split at h
  · cases h; exact sParse_ok
  · cases h; exact sFew_ok
  · cases h; exact sChS_ok
  · cases h; exact sAwake24_ok
  · cases h; exact sTrees_ok
  · cases h
def an5 : Ann := ⟨fun _ => 0, fun _ => 0, fun _ => [], false⟩
theorem e5 (s : ByteArray) : (evFn X Ci an5 lp0 Try.f5 [] [TV.v (Value.string s)]
  fun (o : List (TO X.U)) (v : TV X.U) => some (o, v)) =
  if True then
  if (cut3 s).size ≤ 100000 then
    if True then
      if (cut3 s).size ≤ 100000 then
        if TrOk (parseP (cut3 s)).fst then
          if TrOk (parseP (cut3 s)).fst then
            bif !decide ((parseP (cut3 s)).snd.fst = 0) then some ([], TV.v (Value.bool true))
            else
              bif
                  decide ((chS (parseP (cut3 s)).fst).Code = (chS (parseP (cut3 s)).fst).Code) &&
                    (decide ((chS (parseP (cut3 s)).fst).At = (chS (parseP (cut3 s)).fst).At) && true) then
                if
                    PTT (parseP (cut3 s)).fst.G (parseP (cut3 s)).fst.F (parseP (cut3 s)).fst.N (parseP (cut3 s)).fst.G
                      (parseP (cut3 s)).fst.F (parseP (cut3 s)).fst.N then
                  some ([], TV.v (Value.bool true))
                else none
              else some ([], TV.v (Value.bool false))
          else none
        else none
      else none
    else none
  else none
else none := by kernel_rfl
def sLaw5 : Spc U := .of dstr (fun _ => True) (fun _ => []) fun _ => .v (.bool true)
theorem sLaw5_ok : SpecOk Try.prog 5 sLaw5 := by
  refine fn_ok X_ok mixed Ci_ok an5 lp0 Try.func5 (by kernel_rfl) (by kernel_rfl) (lp0_ok (by kernel_rfl)) fun objs args s hx hp => ?_
  obtain ⟨rfl, rfl⟩ := dstr_ok hx
  dsimp only
  refine (e5 s).trans ?_
  have h2 := (cut3_ok s).2
  have h3 : TrOk (parseP (cut3 s)).1 := parse_ok h2
  have h4 : PTT (parseP (cut3 s)).1.G (parseP (cut3 s)).1.F (parseP (cut3 s)).1.N (parseP (cut3 s)).1.G (parseP (cut3 s)).1.F (parseP (cut3 s)).1.N := ⟨h3, rfl, rfl, rfl⟩
  simp only [if_true, if_pos h2, if_pos h3, if_pos h4, decide_true, Bool.and_self, cond_true]
  cases !decide ((parseP (cut3 s)).2.1 = 0) <;> rfl
end Go.Proofs.Ytpkgikchphgfaaa.Ck


/- Texts of this claim, put together: part 30. -/
import Derived.Test.YtpkgikchphgfaaaMlYD
import Derived.Test.YtpkgikchphgfaaaMlYE
/- The instructions of any program are the document's: the function. -/
namespace Go.Proofs.Ytpkgikchphgfaaa.Lw
open Go Go.RowKit Go.Proofs.Ytpkgikchphgfaaa.Eng Go.Proofs.Ytpkgikchphgfaaa.Fl
set_option linter.unusedVariables false
set_option linter.unusedSimpArgs false
set_option maxRecDepth 20000
noncomputable def Lv : FuncId → Option (Spc U)
  | 20 => some Ic.sSameR
  | 21 => some sParse
  | 26 => some sAwake
  | 27 => some sCheck
  | 28 => some sLowP
  | 29 => some sLower
  | _ => none
theorem Lv_ok : ∀ f S, Lv f = some S → SpecOk Try.prog f S := fun f S h => by
  unfold Lv at h
  split at h
  · cases h; exact Ic.sSameR_ok
  · cases h; exact sParse_ok
  · cases h; exact sAwake26_ok
  · cases h; exact sCheck_ok
  · cases h; exact sLowP_ok
  · cases h; exact sLower_ok
  · cases h
theorem e6 (s : ByteArray) : (evFn X Lv an0 lp0 Try.f6 [] [TV.v (Value.string s)] fun (o : List (TO X.U)) (v : TV X.U) => some (o, v)) = (cutB s none (some (if 3000 < (↑s.size : Int) then 3000 else (↑s.size : Int)))).bind fun (c : ByteArray) => if c.size ≤ 100000 then bif !decide ((parseP c).snd.fst = 0) then some ([], TV.v (Value.bool true)) else if TrOk (parseP c).fst then bif !decide ((chk (parseP c).fst).Code = 0) then some ([], TV.v (Value.bool true)) else if TrOk (parseP c).fst then if TrOk (parseP c).fst then if Ic.SameOk (lowP (parseP c).fst) then some ([], TV.v (Value.bool (decide (lowP (parseP c).fst = lower (parseP c).fst)))) else none else none else none else none else none := by kernel_rfl
def dStr (objs : List (TO U)) (args : List (TV U)) : Option (ByteArray) := match objs, args with
  | [], [a0] =>
    match a0 with
    | .v (.string s) =>
      some s
    | _ => none
  | _, _ => none
theorem dStr_ok {objs : List (TO U)} {args : List (TV U)} {s : ByteArray} (h : dStr objs args = some s) : objs = [] ∧ args = [.v (.string s)] := by
  unfold dStr at h
  repeat' split at h
  all_goals first | (cases h; done) | (cases h; exact ⟨rfl, rfl⟩)
def sLaw6 : Spc U := .of dStr (fun _ => True) (fun _ => []) fun _ => .v (.bool true)
theorem sLaw6_ok : SpecOk Try.prog 6 sLaw6 := by
  refine fn_ok X_ok mixed Lv_ok an0 lp0 Try.func6 (by kernel_rfl) (by kernel_rfl) (lp0_ok (by kernel_rfl)) fun objs args s hx hp => ?_
  obtain ⟨rfl, rfl⟩ := dStr_ok hx
  dsimp only
  obtain ⟨h1, h2⟩ := cut3_ok s
  have h3 := parse_ok h2
  have h4 := Ic.parse_R h2
  refine (e6 s).trans ?_
  rw [h1, Option.bind_some, if_pos h2]
  cases decide ((parseP (cut3 s)).2.1 = 0) with
  | false => rfl
  | true =>
    simp only [Bool.not_true, cond_false]
    rw [if_pos h3]
    by_cases hc : (chk (parseP (cut3 s)).1).Code = 0
    · have he := lowP_eq h3 (chk_sound hc) h4
      rw [decide_eq_true hc, if_pos h3, if_pos h3, if_pos (by rw [he]; exact (Ic.lower_R h3 h4).2.1), decide_eq_true he]
      rfl
    · rw [decide_eq_false hc]
      rfl
end Go.Proofs.Ytpkgikchphgfaaa.Lw

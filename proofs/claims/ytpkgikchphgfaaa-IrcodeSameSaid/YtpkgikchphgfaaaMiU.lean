/- Texts of this claim, put together: part 21. -/
import Derived.Test.YtpkgikchphgfaaaMiS
import Derived.Test.YtpkgikchphgfaaaMiT
/- Programs are the same just if all of them is: the function. -/
namespace Go.Proofs.Ytpkgikchphgfaaa.Ic
open Go Go.RowKit Go.Proofs.Ytpkgikchphgfaaa.Eng Go.Proofs.Ytpkgikchphgfaaa.Fl
set_option linter.unusedVariables false
set_option linter.unusedSimpArgs false
set_option maxRecDepth 20000
def Ig : FuncId → Option (Spc U)
  | 9 => some sGiven
  | 18 => some sAwake
  | 19 => some sSameP
  | 20 => some sSameR
  | _ => none
theorem Ig_ok : ∀ f S, Ig f = some S → SpecOk Try.prog f S := fun f S h => by
  unfold Ig at h
  split at h
  · cases h; exact sGiven_ok
  · cases h; exact sAwake18_ok
  · cases h; exact sSameP_ok
  · cases h; exact sSameR_ok
  · cases h
theorem e4 (s : ByteArray) (t : ByteArray) : (evFn X Ig an0 lp0 Try.f4 [] [TV.v (Value.string s), TV.v (Value.string t)]
  fun (o : List (TO X.U)) (v : TV X.U) => some (o, v)) =
  if True then
  if True then
    bif !(given s).snd then some ([], TV.v (Value.bool true))
    else
      bif !(given t).snd then some ([], TV.v (Value.bool true))
      else
        if PutOk (given s).fst ∧ PutOk (given t).fst then
          if SameOk (given s).fst then
            some ([], TV.v (Value.bool (putE (given s).fst (given t).fst == decide ((given s).fst = (given t).fst))))
          else none
        else none
  else none
else none := by kernel_rfl
def dSS (objs : List (TO U)) (args : List (TV U)) : Option (ByteArray × ByteArray) := match objs, args with
  | [], [a0, a1] =>
    match a0 with
    | .v (.string s) =>
      match a1 with
      | .v (.string t) =>
        some (s, t)
      | _ => none
    | _ => none
  | _, _ => none
theorem dSS_ok {objs : List (TO U)} {args : List (TV U)} {s : ByteArray} {t : ByteArray} (h : dSS objs args = some (s, t)) : objs = [] ∧ args = [.v (.string s), .v (.string t)] := by
  unfold dSS at h
  repeat' split at h
  all_goals first | (cases h; done) | (cases h; exact ⟨rfl, rfl⟩)
def sLaw4 : Spc U := .of dSS (fun _ => True) (fun _ => []) fun _ => .v (.bool true)
theorem sLaw4_ok : SpecOk Try.prog 4 sLaw4 := by
  refine fn_ok X_ok mixed Ig_ok an0 lp0 Try.func4 (by kernel_rfl) (by kernel_rfl) (lp0_ok (by kernel_rfl)) fun objs args x hx hp => ?_
  obtain ⟨s, t⟩ := x
  obtain ⟨rfl, rfl⟩ := dSS_ok hx
  dsimp only
  obtain ⟨a1, a2, a3⟩ := given_R s
  obtain ⟨b1, b2, b3⟩ := given_R t
  refine (e4 s t).trans ?_
  rw [if_pos trivial, if_pos trivial]
  cases (given s).2 with
  | false => rfl
  | true =>
    cases (given t).2 with
    | false => rfl
    | true =>
      simp only [Bool.not_true, cond_false]
      rw [if_pos ⟨a1, b1⟩, if_pos a2, putE_eq a3 b3, beq_self_eq_true]
end Go.Proofs.Ytpkgikchphgfaaa.Ic


/- Texts of this claim, put together: part 14. -/
import Derived.Test.YtpkgikchphgfaaaMlJ
/- The references' instructions: of a program, its end. -/
namespace Go.Proofs.Ytpkgikchphgfaaa.Fl
open Go Go.RowKit Go.Proofs.Ytpkgikchphgfaaa.Eng
set_option linter.unusedVariables false
set_option linter.unusedSimpArgs false
set_option maxRecDepth 20000
theorem u5 (lp : Lp U) (R : Type) (K : Exit → TS U → Option R) (t : TR) (g fl w : List Int) (fs : List R69) (c : List R65) (m v : Int) (z : R90) (bg bf : List R82) (bn : List R90) (bfn : Int) (bv : List R82) (bb bfi : Int) (y : R65) (ys : List R65) (ps : List Int) (f : Int) (h : (c.length + (y :: ys).length) * 88 ≤ 140737488355328) :
    evC X Ez an36 lp (sL C25) 5 (S36c t ⟨g, fl, w, fs, c, m⟩ v z ⟨bg, bf, bn, bfn, bv, bb, bfi, y :: ys⟩ ps f []) K = K .normal (S36e t ⟨g, fl, w, fs, c ++ y :: ys, m⟩ v z ps f 0) := by
  cases c with
  | nil =>
    refine if_eq (c := (y :: ys).length * 88 ≤ 140737488355328) (b := none) ?_ (by rw [List.length_nil] at h; omega)
    cases g <;> cases fl <;> cases w <;> cases fs <;> cases ps <;> kernel_rfl
  | cons c cs =>
    refine if_eq (c := ((c :: cs).length + (y :: ys).length) * 88 ≤ 140737488355328) (b := none) ?_ h
    cases g <;> cases fl <;> cases w <;> cases fs <;> cases ps <;> kernel_rfl
end Go.Proofs.Ytpkgikchphgfaaa.Fl

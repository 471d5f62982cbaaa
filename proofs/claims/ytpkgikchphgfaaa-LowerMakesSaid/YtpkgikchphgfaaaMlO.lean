/- Texts of this claim, put together: part 15. -/
import Derived.Test.YtpkgikchphgfaaaMlJ
/- The references' instructions: of a program, functions. -/
namespace Go.Proofs.Ytpkgikchphgfaaa.Fl
open Go Go.RowKit Go.Proofs.Ytpkgikchphgfaaa.Eng
set_option linter.unusedVariables false
set_option linter.unusedSimpArgs false
set_option maxRecDepth 20000
theorem q6 (lp : Lp U) (R : Type) (K : Exit → TS U → Option R) (t : TR) (g fl w : List Int) (fs : List R69) (c : List R65) (m v : Int) (z : R90) (ps : List Int) (f : Int) :
    evC X Ez an36 lp (sL (sR C25)) 5 (S36e t ⟨g, fl, w, fs, c, m⟩ v z ps f 0) K = K .normal (S36e t ⟨g, fl, w, fs, c, m⟩ v z ps f c.length) := by
  cases g <;> cases fl <;> cases w <;> cases fs <;> cases c <;> cases ps <;> kernel_rfl
theorem q7 (lp : Lp U) (R : Type) (K : Exit → TS U → Option R) (t : TR) (g fl w : List Int) (fs : List R69) (c : List R65) (m v : Int) (z : R90) (ps : List Int) (f l : Int) :
    evC X Ez an36 lp (sL (sR (sR C25))) 5 (S36e t ⟨g, fl, w, fs, c, m⟩ v z ps f l) K = if (fs.length + 1) * 64 ≤ 140737488355328 then K .normal (S36f t ⟨g, fl, w, fs ++ [⟨z.Name, ps, z.Ret, f, l⟩], c, m⟩ v z) else none := by
  cases g <;> cases fl <;> cases w <;> cases fs <;> cases c <;> cases ps <;> kernel_rfl
end Go.Proofs.Ytpkgikchphgfaaa.Fl

/- Texts of this claim, put together: part 13. -/
import Derived.Test.YtpkgikchphgfaaaMwJ
/- The references' instructions: of a program, variables. -/
namespace Go.Proofs.Ytpkgikchphgfaaa.Fl
open Go Go.RowKit Go.Proofs.Ytpkgikchphgfaaa.Eng
set_option linter.unusedVariables false
set_option linter.unusedSimpArgs false
set_option maxRecDepth 20000
theorem q4 (lp : Lp U) (R : Type) (K : Exit → TS U → Option R) (t : TR) (o : IRs) (v : Int) (z : R90) (b : BS) (ps : List Int) (f : Int) : evC X Ez an36 lp (sL (sL (sR C16))) 5 (S36c t o v z b ps f []) K = K .normal (S36c t o v z b ps f [(11, .v (.int .i64 0))]) := by
  obtain ⟨g, fl, w, fs, c, m⟩ := o
  cases g <;> cases fl <;> cases w <;> cases fs <;> cases c <;> cases ps <;> kernel_rfl
end Go.Proofs.Ytpkgikchphgfaaa.Fl

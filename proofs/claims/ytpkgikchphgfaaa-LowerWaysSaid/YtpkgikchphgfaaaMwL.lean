/- Texts of this claim, put together: part 12. -/
import Derived.Test.YtpkgikchphgfaaaMwJ
/- The references' instructions: of a program, arguments. -/
namespace Go.Proofs.Ytpkgikchphgfaaa.Fl
open Go Go.RowKit Go.Proofs.Ytpkgikchphgfaaa.Eng
set_option linter.unusedVariables false
set_option linter.unusedSimpArgs false
set_option maxRecDepth 20000
theorem q2 (lp : Lp U) (R : Type) (K : Exit → TS U → Option R) (t : TR) (o : IRs) (v : Int) (z : R90) (b : BS) (f : Int) : evC X Ez an36 lp (sL (sL C16)) 5 (S36c t o v z b [] f []) K = K .normal (S36c t o v z b [] f [(10, .v (.int .i64 0))]) := by
  obtain ⟨g, fl, w, fs, c, m⟩ := o
  cases g <;> cases fl <;> cases w <;> cases fs <;> cases c <;> kernel_rfl
end Go.Proofs.Ytpkgikchphgfaaa.Fl

/- Texts of this claim, put together: part 12. -/
import Derived.Test.YtpkgikchphgfaaaMlJ
/- The references' instructions: of a program, arguments. -/
namespace Go.Proofs.Ytpkgikchphgfaaa.Fl
open Go Go.RowKit Go.Proofs.Ytpkgikchphgfaaa.Eng
set_option linter.unusedVariables false
set_option linter.unusedSimpArgs false
set_option maxRecDepth 20000
theorem q2 (lp : Lp U) (R : Type) (K : Exit → TS U → Option R) (t : TR) (o : IRs) (v : Int) (z : R90) (b : BS) (f : Int) : evC X Ez an36 lp (sL (sL C16)) 5 (S36c t o v z b [] f []) K = K .normal (S36c t o v z b [] f [(10, .v (.int .i64 0))]) := by
  obtain ⟨g, fl, w, fs, c, m⟩ := o
  cases g <;> cases fl <;> cases w <;> cases fs <;> cases c <;> kernel_rfl
theorem n6 (t : TR) (o : IRs) (v : Int) (z : R90) (b : BS) (f : Int) : evNorm (X := X) (an36.live 6) (S36c t o v z b [] f [(10, .v (.int .i64 0))]) = some (S36c t o v z b [] f [(10, .v (.int .i64 0))]) := by
  obtain ⟨g, fl, w, fs, c, m⟩ := o
  cases g <;> cases fl <;> cases w <;> cases fs <;> cases c <;> kernel_rfl
theorem r6 (lp : Lp U) (N : Nat) (t : TR) (o : IRs) (v : Int) (z : R90) (b : BS) (f : Int) (ps : List Int) (i : Int) : fnLoop X Ez an36 lp Try.f29 6 (N + 1) (S36c t o v z b ps f [(10, .v (.int .i64 i))]) = cond (decide (i < (z.Params.length : Int))) (if (ps.length + 1) * 8 ≤ 140737488355328 then fnLoop X Ez an36 lp Try.f29 6 N (S36c t o v z b (ps ++ [IntKind.i64.wrap (o.V.length + i)]) f [(10, .v (.int .i64 (IntKind.i64.wrap (i + 1))))]) else none) (some (.exit 6, S36c t o v z b ps f [])) := by
  obtain ⟨g, fl, w, fs, c, m⟩ := o
  cases g <;> cases fl <;> cases w <;> cases fs <;> cases c <;> cases ps <;> kernel_rfl
end Go.Proofs.Ytpkgikchphgfaaa.Fl

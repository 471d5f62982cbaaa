/- Texts of this claim, put together: part 13. -/
import Derived.Test.YtpkgikchphgfaaaMlJ
/- The references' instructions: of a program, variables. -/
namespace Go.Proofs.Ytpkgikchphgfaaa.Fl
open Go Go.RowKit Go.Proofs.Ytpkgikchphgfaaa.Eng
set_option linter.unusedVariables false
set_option linter.unusedSimpArgs false
set_option maxRecDepth 20000
theorem q4 (lp : Lp U) (R : Type) (K : Exit → TS U → Option R) (t : TR) (o : IRs) (v : Int) (z : R90) (b : BS) (ps : List Int) (f : Int) : evC X Ez an36 lp (sL (sL (sR C16))) 5 (S36c t o v z b ps f []) K = K .normal (S36c t o v z b ps f [(11, .v (.int .i64 0))]) := by
  obtain ⟨g, fl, w, fs, c, m⟩ := o
  cases g <;> cases fl <;> cases w <;> cases fs <;> cases c <;> cases ps <;> kernel_rfl
theorem n8 (t : TR) (o : IRs) (v : Int) (z : R90) (b : BS) (ps : List Int) (f : Int) : evNorm (X := X) (an36.live 8) (S36c t o v z b ps f [(11, .v (.int .i64 0))]) = some (S36c t o v z b ps f [(11, .v (.int .i64 0))]) := by
  obtain ⟨g, fl, w, fs, c, m⟩ := o
  cases g <;> cases fl <;> cases w <;> cases fs <;> cases c <;> cases ps <;> kernel_rfl
theorem r8 (lp : Lp U) (N : Nat) (t : TR) (g fl w : List Int) (fs : List R69) (c : List R65) (m : Int) (v : Int) (z : R90) (b : BS) (f : Int) (ps : List Int) (i : Int) : fnLoop X Ez an36 lp Try.f29 8 (N + 1) (S36c t ⟨g, fl, w, fs, c, m⟩ v z b ps f [(11, .v (.int .i64 i))]) = cond (decide (i < (b.V.length : Int))) ((getI b.V i).bind fun d => if (w.length + 1) * 8 ≤ 140737488355328 then fnLoop X Ez an36 lp Try.f29 8 N (S36c t ⟨g, fl, w ++ [d.Type_], fs, c, m⟩ v z b ps f [(11, .v (.int .i64 (IntKind.i64.wrap (i + 1))))]) else none) (some (.exit 8, S36c t ⟨g, fl, w, fs, c, m⟩ v z b ps f [])) := by
  cases g <;> cases fl <;> cases w <;> cases fs <;> cases c <;> cases ps <;> kernel_rfl
end Go.Proofs.Ytpkgikchphgfaaa.Fl

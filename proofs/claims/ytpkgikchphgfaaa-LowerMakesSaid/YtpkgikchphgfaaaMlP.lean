/- Texts of this claim, put together: part 16. -/
import Derived.Test.YtpkgikchphgfaaaMlJ
/- The references' instructions: of a program, main. -/
namespace Go.Proofs.Ytpkgikchphgfaaa.Fl
open Go Go.RowKit Go.Proofs.Ytpkgikchphgfaaa.Eng
set_option linter.unusedVariables false
set_option linter.unusedSimpArgs false
set_option maxRecDepth 20000
theorem q8 (lp : Lp U) (R : Type) (K : Exit → TS U → Option R) (t : TR) (g fl w : List Int) (fs : List R69) (c : List R65) (m v : Int) (z : R90) :
    evC X Ez an36 lp (sR (sR (sR C25))) 5 (S36f t ⟨g, fl, w, fs, c, m⟩ v z) K = cond (z.Name.toList == bMain.toList) (K .normal (S36 t ⟨g, fl, w, fs, c, v⟩ 6 v)) (K .normal (S36g t ⟨g, fl, w, fs, c, m⟩ v)) := by
  cases g <;> cases fl <;> cases w <;> cases fs <;> cases c <;> kernel_rfl
theorem q9 (lp : Lp U) (R : Type) (K : Exit → TS U → Option R) (t : TR) (g fl w : List Int) (fs : List R69) (c : List R65) (m v : Int) :
    evC X Ez an36 lp (sR (sR L4)) 4 (S36 t ⟨g, fl, w, fs, c, m⟩ 6 v) K = K .normal (S36 t ⟨g, fl, w, fs, c, m⟩ 6 (IntKind.i64.wrap (v + 1))) := by
  cases g <;> cases fl <;> cases w <;> cases fs <;> cases c <;> kernel_rfl
theorem q9' (lp : Lp U) (R : Type) (K : Exit → TS U → Option R) (t : TR) (g fl w : List Int) (fs : List R69) (c : List R65) (m v : Int) :
    evC X Ez an36 lp (sR (sR L4)) 4 (S36g t ⟨g, fl, w, fs, c, m⟩ v) K = K .normal (S36 t ⟨g, fl, w, fs, c, m⟩ 6 (IntKind.i64.wrap (v + 1))) := by
  cases g <;> cases fl <;> cases w <;> cases fs <;> cases c <;> kernel_rfl
theorem q0 (lp : Lp U) (R : Type) (K : Exit → TS U → Option R) (t : TR) (g fl w : List Int) (fs : List R69) (c : List R65) (m v : Int) :
    evC X Ez an36 lp (sL L4) 4 (S36 t ⟨g, fl, w, fs, c, m⟩ 6 v) K = cond (decide (v < (t.N.length : Int))) (K .normal (S36h t ⟨g, fl, w, fs, c, m⟩ v true)) (K (.exit 4) (S36h t ⟨g, fl, w, fs, c, m⟩ v false)) := by
  cases g <;> cases fl <;> cases w <;> cases fs <;> cases c <;> kernel_rfl
end Go.Proofs.Ytpkgikchphgfaaa.Fl

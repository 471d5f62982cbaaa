/- Texts of this claim, put together: part 11. -/
import Derived.Test.YtpkgikchphgfaaaMlJ
/- The references' instructions: of a program, its head. -/
namespace Go.Proofs.Ytpkgikchphgfaaa.Fl
open Go Go.RowKit Go.Proofs.Ytpkgikchphgfaaa.Eng
set_option linter.unusedVariables false
set_option linter.unusedSimpArgs false
set_option maxRecDepth 20000
theorem q1 (lp : Lp U) (R : Type) (K : Exit → TS U → Option R) (t : TR) (o : IRs) (v : Int) : evC X Ez an36 lp B5 5 (S36h t o v true) K = (getI t.N v).bind fun z => if (0 + z.Params.length) * 32 ≤ 140737488355328 then (if (([] ++ z.Params).length + z.Vars.length) * 32 ≤ 140737488355328 then (if PreBl (lb0 t o v z) (cntL z.Body) then (if Sn (blL z.Body (lb0 t o v z)).C.length then
    evC X Ez an36 lp C16 5 (S36c t o v z (lb1 t o v z) [] o.C.length []) K else none) else none) else none) else none := by
  obtain ⟨g, f, w, fs, c, m⟩ := o
  cases g <;> cases f <;> cases w <;> cases fs <;> cases c <;> kernel_rfl
end Go.Proofs.Ytpkgikchphgfaaa.Fl

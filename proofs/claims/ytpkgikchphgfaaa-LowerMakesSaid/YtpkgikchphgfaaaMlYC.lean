/- Texts of this claim, put together: part 27. -/
import Derived.Test.YtpkgikchphgfaaaMlYB
/- The program's lowerer: a function, in pieces. -/
namespace Go.Proofs.Ytpkgikchphgfaaa.Lw
open Go Go.RowKit Go.Proofs.Ytpkgikchphgfaaa.Eng Go.Proofs.Ytpkgikchphgfaaa.Fl
set_option linter.unusedVariables false
set_option linter.unusedSimpArgs false
set_option maxRecDepth 20000
noncomputable def L2 : Code := loopAt Try.f28 2
noncomputable def H2 : Code := .seq (sL L2) (sL (sR L2))
noncomputable def B3 : Code := bB (sL (sR (sR L2)))
noncomputable def C3 : Code := sR (sR (sR B3))
noncomputable def P3 : Code := .seq (sL B3) (.seq (sL (sR B3)) (.seq (sL (sR (sR B3))) (sL (sL C3))))
theorem hL2 : L2 = .seq (sL L2) (.seq (sL (sR L2)) (.seq (.block 3 B3) (sR (sR (sR L2))))) := by kernel_rfl
theorem hB3 : B3 = .seq (sL B3) (.seq (sL (sR B3)) (.seq (sL (sR (sR B3))) (.seq (.seq (sL (sL C3)) (.block 4 (.loop (loopAt Try.f28 4)))) (sR C3)))) := by kernel_rfl
def T1 (s : LB) (mB : Bool) (l : List R90) (v : Int) (b : Bool) : TS U := mkS 165 [(2, .ref 0 0 0), (3, .ref 1 0 0), (60, .lst .t90 l), (61, .v (.int .i64 (l.length : Int))), (62, .v (.int .i64 v)), (63, .v (.bool b))] (s.obQ mB) 0
def LB.at0 (s : LB) (v : Int) : LB := ⟨s.G, s.F, s.vB, s.V, s.fB, s.Fs, s.cB, s.C, s.M, s.mG, s.mF, s.mN, [], v⟩
section
variable (R : Type) (K : Exit → TS U → Option R) (lp : Lp U) (s : LB) (mB : Bool) (l : List R90) (v : Int)
theorem eH2 : evC X Lg an28 lp H2 2 (S28b s mB l v) K = cond (decide (v < (l.length : Int))) (K .normal (T1 s mB l v true)) (K (.exit 2) (T1 s mB l v false)) := by
  obtain ⟨G, F, vB, V, fB, Fs, cB, C, M, a, b, c, d, n⟩ := s
  cases vB <;> cases fB <;> cases cB <;> cases mB <;> kernel_rfl
theorem eP3 (hs : s.Ok) : evC X Lg an28 lp P3 3 (T1 s mB l v true) K = (getI l v).bind fun z => if True then
    cond z.Params.isEmpty (cond z.Vars.isEmpty (K .normal (S28d (s.at0 v) l v z s.C.length false [] false [] 0)) (if z.Vars.length * 32 ≤ 140737488355328 then K .normal (S28d (s.at0 v) l v z s.C.length false [] true z.Vars 0) else none))
      (if z.Params.length * 32 ≤ 140737488355328 then if (z.Params.length + z.Vars.length) * 32 ≤ 140737488355328 then K .normal (S28d (s.at0 v) l v z s.C.length false [] true (z.Params ++ z.Vars) 0) else none else none) else none := by
  obtain ⟨G, F, vB, V, fB, Fs, cB, C, M, a, b, c, d, n⟩ := s
  obtain ⟨h1, h2, h3⟩ := hs
  cases cB with
  | true =>
    clear h1 h2 h3
    cases vB <;> cases fB <;> cases mB <;> kernel_rfl
  | false =>
    obtain rfl : C = [] := h3 rfl
    clear h1 h2 h3
    cases vB <;> cases fB <;> cases mB <;> (show _ = _; kernel_rfl)
end
/-- Behind a function. -/
def LB.endF (s : LB) (z : R90) (f : Int) (ps : List Int) (D : List R65) : LB := ⟨s.G, s.F, s.vB, s.V, true, s.Fs ++ [⟨z.Name, ps, z.Ret, f, D.length⟩], true, D, s.M, s.mG, s.mF, s.mN, s.mV, s.fn⟩
def tl7 {R : Type} (K : Exit → TS U → Option R) (s : LB) (l : List R90) (v : Int) (z : R90) (f : Int) (ps : List Int) (D : List R65) : Option R := if Sn D.length then if True then if (s.Fs.length + 1) * 64 ≤ 140737488355328 then K .normal (S28b (s.endF z f ps (D ++ [atI s.fn z.At (ins3 16 (-1) 0 0 0 0)])) true l v) else none else none else none
theorem eTl (R : Type) (K : Exit → TS U → Option R) (lp : Lp U) (s : LB) (hs : s.Ok) (l : List R90) (v : Int) (z : R90) (f : Int) (pB : Bool) (ps : List Int) (hp : pB = false → ps = []) : evC X Lg an28 lp (sR C3) 3 (Z28d s l v z f pB ps).2 K = if PreBk s.C.length (cntL z.Body) then cond z.Body.isEmpty (tl7 K s l v z f ps s.C) (tl7 K s l v z f ps (pL s.base z.Body s.C)) else none := by
  obtain ⟨G, F, vB, V, fB, Fs, cB, C, M, a, b, c, d, n⟩ := s
  obtain ⟨h1, h2, h3⟩ := hs
  cases pB with
  | true =>
    clear hp
    cases fB with
    | true =>
      clear h1 h2
      cases cB with
      | true =>
        clear h3
        cases vB <;> (show _ = _; kernel_rfl)
      | false =>
        obtain rfl : C = [] := h3 rfl
        clear h3
        cases vB <;> (show _ = _; kernel_rfl)
    | false =>
      obtain rfl : Fs = [] := h2 rfl
      clear h1 h2
      cases cB with
      | true =>
        clear h3
        cases vB <;> (show _ = _; kernel_rfl)
      | false =>
        obtain rfl : C = [] := h3 rfl
        clear h3
        cases vB <;> (show _ = _; kernel_rfl)
  | false =>
    obtain rfl : ps = [] := hp rfl
    clear hp
    cases fB with
    | true =>
      clear h1 h2
      cases cB with
      | true =>
        clear h3
        cases vB <;> (show _ = _; kernel_rfl)
      | false =>
        obtain rfl : C = [] := h3 rfl
        clear h3
        cases vB <;> (show _ = _; kernel_rfl)
    | false =>
      obtain rfl : Fs = [] := h2 rfl
      clear h1 h2
      cases cB with
      | true =>
        clear h3
        cases vB <;> (show _ = _; kernel_rfl)
      | false =>
        obtain rfl : C = [] := h3 rfl
        clear h3
        cases vB <;> (show _ = _; kernel_rfl)
end Go.Proofs.Ytpkgikchphgfaaa.Lw

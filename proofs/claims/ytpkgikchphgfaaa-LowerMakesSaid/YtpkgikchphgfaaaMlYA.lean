/- Texts of this claim, put together: part 25. -/
import Derived.Test.YtpkgikchphgfaaaMlX
/- The program's lowerer: a function's variables. -/
namespace Go.Proofs.Ytpkgikchphgfaaa.Lw
open Go Go.RowKit Go.Proofs.Ytpkgikchphgfaaa.Eng Go.Proofs.Ytpkgikchphgfaaa.Fl
set_option linter.unusedVariables false
set_option linter.unusedSimpArgs false
set_option maxRecDepth 20000
def LB.cellQ (s : LB) (mB : Bool) : TO U := .cells [.lst .i64 s.G, .lst .i64 s.F, flg s.vB 2, flg s.fB (2 + bn s.vB), flg s.cB (2 + bn s.vB + bn s.fB), .v (.int .i64 s.M), .mp (2 + bn s.vB + bn s.fB + bn s.cB), .mp (2 + bn s.vB + bn s.fB + bn s.cB + 1), .mp (2 + bn s.vB + bn s.fB + bn s.cB + 2), cond mB (.mp (2 + bn s.vB + bn s.fB + bn s.cB + 3)) (.v (.map none)), .v (.int .i64 s.fn)] false
def LB.obQ (s : LB) (mB : Bool) : List (TO U) := irZ :: s.cellQ mB :: (rwV s.vB s.V ++ (rwF s.fB s.Fs ++ (rwC s.cB s.C ++ (mO s.mG :: mO s.mF :: mO s.mN :: cond mB [mO s.mV] []))))
def S28b (s : LB) (mB : Bool) (l : List R90) (v : Int) : TS U := mkS 165 [(2, .ref 0 0 0), (3, .ref 1 0 0), (60, .lst .t90 l), (61, .v (.int .i64 (l.length : Int))), (62, .v (.int .i64 v))] (s.obQ mB) 0
def rwP (b : Bool) (l : List Int) : List (TO U) := cond b [.row .i64 l false] []
def rwD (b : Bool) (l : List R82) : List (TO U) := cond b [.row .t82 l false] []
def fnC (z : R90) : TO U := .cells [.v (.string z.Name), .v (.int .i64 z.At), .lst .t82 z.Params, .v (.int .i64 z.Ret), .lst .t82 z.Vars, .lst .t114 z.Body] false
def outC (z : R90) (pB : Bool) (k : Nat) (f : Int) : TO U := .cells [.v (.string z.Name), flg pB k, .v (.int .i64 z.Ret), .v (.int .i64 f), .v (.int .i64 0)] false
def LB.q (s : LB) : Nat := 2 + bn s.vB + bn s.fB + bn s.cB + 4
/-- With a function's variables so far. -/
def S28d (s : LB) (l : List R90) (v : Int) (z : R90) (f : Int) (pB : Bool) (ps : List Int) (dB : Bool) (d : List R82) (i : Int) : TS U := mkS 165 [(2, .ref 0 0 0), (3, .ref 1 0 0), (7, .ref s.q 0 0), (8, .ref (s.q + 1) 0 0), (60, .lst .t90 l), (61, .v (.int .i64 (l.length : Int))), (62, .v (.int .i64 v)), (87, flg dB (s.q + 2 + bn pB)), (88, .v (.int .i64 (d.length : Int))), (89, .v (.int .i64 i))]
  (s.obQ true ++ (fnC z :: outC z pB (s.q + 2) f :: (rwP pB ps ++ rwD dB d))) 0
def LB.addV (s : LB) (x : R82) : LB := ⟨s.G, s.F, true, s.V ++ [x.Type_], s.fB, s.Fs, s.cB, s.C, s.M, s.mG, s.mF, s.mN, aset keS s.mV x.Name s.V.length, s.fn⟩
def Z28d (s : LB) (l : List R90) (v : Int) (z : R90) (f : Int) (pB : Bool) (ps : List Int) : Exit × TS U := (.exit 4, mkS 165 [(2, .ref 0 0 0), (3, .ref 1 0 0), (7, .ref s.q 0 0), (8, .ref (s.q + 1) 0 0), (60, .lst .t90 l), (61, .v (.int .i64 (l.length : Int))), (62, .v (.int .i64 v))]
  (s.obQ true ++ (fnC z :: outC z pB (s.q + 2) f :: rwP pB ps)) 0)
theorem r28d (lp : Lp U) (s : LB) (hv : s.vB = false → s.V = []) (l : List R90) (v : Int) (z : R90) (f : Int) (pB : Bool) (ps : List Int) (hp : pB = false → ps = []) (d : List R82) (i : Int) (N : Nat) : fnLoop X Lg an28 lp Try.f28 4 N.succ (S28d s l v z f pB ps true d i) = cond (decide (i < (d.length : Int))) (if 0 ≤ i ∧ i < (d.length : Int) then d[i.toNat]?.bind fun x => cond (decide (i < (z.Params.length : Int)))
      (if (ps.length + 1) * 8 ≤ 140737488355328 then if (s.V.length + 1) * 8 ≤ 140737488355328 then fnLoop X Lg an28 lp Try.f28 4 N (S28d (s.addV x) l v z f true (ps ++ [(s.V.length : Int)]) true d (IntKind.i64.wrap (i + 1))) else none else none)
      (if (s.V.length + 1) * 8 ≤ 140737488355328 then fnLoop X Lg an28 lp Try.f28 4 N (S28d (s.addV x) l v z f pB ps true d (IntKind.i64.wrap (i + 1))) else none) else none) (some (Z28d s l v z f pB ps)) := by
  obtain ⟨G, F, vB, V, fB, Fs, cB, C, M, a, b, c, e, n⟩ := s
  cases vB with
  | true =>
    clear hv
    cases pB with
    | true =>
      clear hp
      cases fB <;> cases cB <;> (show _ = _; kernel_rfl)
    | false =>
      obtain rfl : ps = [] := hp rfl
      clear hp
      cases fB <;> cases cB <;> (show _ = _; kernel_rfl)
  | false =>
    obtain rfl : V = [] := hv rfl
    clear hv
    cases pB with
    | true =>
      clear hp
      cases fB <;> cases cB <;> (show _ = _; kernel_rfl)
    | false =>
      obtain rfl : ps = [] := hp rfl
      clear hp
      cases fB <;> cases cB <;> (show _ = _; kernel_rfl)
end Go.Proofs.Ytpkgikchphgfaaa.Lw

/- Texts of this claim, put together: part 22. -/
import Derived.Test.YtpkgikchphgfaaaMlU
/- The program's lowerer: an if; rows of statements. -/
namespace Go.Proofs.Ytpkgikchphgfaaa.Lw
open Go Go.RowKit Go.Proofs.Ytpkgikchphgfaaa.Eng Go.Proofs.Ytpkgikchphgfaaa.Fl
set_option linter.unusedVariables false
set_option linter.unusedSimpArgs false
set_option maxRecDepth 20000
theorem sPutP_lib_ok : SpecOk Try.prog 64 (sPutP.wkA [.no, .no, wkI]) := sPutP_ok.wkA _
theorem Ld_ok {n : Nat} (h : SpecOk Try.prog 63 (sBlkP n)) : ∀ f S, Ld n f = some S → SpecOk Try.prog f S := fun f S hf => by
  unfold Ld at hf
  split at hf
  · cases hf; exact sHereR_ok
  · cases hf; exact h
  · cases hf; exact sPutP_lib_ok
  · cases hf
theorem emp {R : Type} (s : LB) (l : List R114) (C : List R65) (f : List R65 → R) : cond l.isEmpty (f C) (f (pL s l C)) = f (pL s l C) := by
  cases l with
  | nil => rw [pL]; rfl
  | cons x l => rfl
theorem cntS_eq' (z : R114) : cntS z = 1 + (z.Expr.Args.length + (cntL z.Body + cntL z.Else)) := by
  cases z
  rw [cntS]
  rfl
def pCh (s : LB) (z : R114) (C : List R65) : List R65 := cond (decide ((z.Else.length : Int) = 0))
  (setCx (pL s z.Body (s.hd z.At z.From C)) C.length (pL s z.Body (s.hd z.At z.From C)).length)
  (setBx (pL s z.Else (s.md z.At C.length (pL s z.Body (s.hd z.At z.From C)))) (pL s z.Body (s.hd z.At z.From C)).length (pL s z.Else (s.md z.At C.length (pL s z.Body (s.hd z.At z.From C)))).length)
def Pc (c : Nat) (z : R114) (n : Nat) : Prop := c + 2 * cntS z ≤ 3000000 ∧ cntS z ≤ n
noncomputable instance (c : Nat) (z : R114) (n : Nat) : Decidable (Pc c z n) := Classical.propDecidable _
noncomputable def sChoP (n : Nat) : Spc U := .of (dW dRst) (fun (s, z) => Pc s.C.length z n) (fun (s, z) => outB s (pCh s.base z s.C)) fun _ => .tup []
theorem sChoP_ok {n : Nat} (h : SpecOk Try.prog 63 (sBlkP n)) : SpecOk Try.prog 113 (sChoP n) := by
  refine fn_ok X_ok mixed (Ld_ok h) an113 lp0 Try.func113 (by kernel_rfl) (by kernel_rfl) (lp0_ok (by kernel_rfl)) fun objs args x hx hp => ?_
  obtain ⟨s, z⟩ := x
  obtain ⟨⟨rfl, hs⟩, hy⟩ := dW_ok hx
  obtain ⟨_, rfl⟩ := dRst_ok hy
  dsimp only at hp ⊢
  obtain ⟨h1, h2⟩ := hp
  rw [cntS_eq'] at h1 h2
  refine (e113 n s hs z).trans ?_
  have e1 : (s.C ++ [atI s.fn z.At (ins3 18 (s.v z.From) 0 0 0 0)]).length = s.C.length + 1 := by rw [List.length_append]; rfl
  have e2 : setBx (s.C ++ [atI s.fn z.At (ins3 18 (s.v z.From) 0 0 0 0)]) s.C.length ((s.C ++ [atI s.fn z.At (ins3 18 (s.v z.From) 0 0 0 0)]).length : Int) = s.base.hd z.At z.From s.C := by
    unfold LB.hd
    rw [e1]
    rfl
  rw [if_pos (by unfold Sn; omega), if_pos trivial, stB_eq (by omega), e2, if_pos (by rw [LB.hd_len]; exact ⟨by omega, by omega⟩), emp s.base z.Body _ (ch3 n s z)]
  have hb := pL_len s.base z.Body (s.base.hd z.At z.From s.C)
  rw [LB.hd_len] at hb
  unfold ch3 pCh
  generalize pL s.base z.Body (s.base.hd z.At z.From s.C) = C2 at hb ⊢
  cases decide ((z.Else.length : Int) = 0) with
  | true =>
    simp only [cond_true]
    rw [if_pos trivial, stC_eq' (by omega)]
  | false =>
    simp only [cond_false]
    have e3 : (C2 ++ [atI s.fn z.At (ins3 17 0 0 0 0 0)]).length = C2.length + 1 := by rw [List.length_append]; rfl
    have e4 : setCx (C2 ++ [atI s.fn z.At (ins3 17 0 0 0 0 0)]) s.C.length ((C2 ++ [atI s.fn z.At (ins3 17 0 0 0 0 0)]).length : Int) = s.base.md z.At s.C.length C2 := by
      unfold LB.md
      rw [e3]
      rfl
    rw [if_pos (by unfold Sn; omega), if_pos trivial, stC_eq' (by omega), e4, if_pos (by rw [LB.md_len]; exact ⟨by omega, by omega⟩), emp s.base z.Else _ (ch5 s C2.length)]
    have hl := pL_len s.base z.Else (s.base.md z.At s.C.length C2)
    rw [LB.md_len] at hl
    unfold ch5
    rw [if_pos trivial, stB_eq (by omega)]
noncomputable def Le (n : Nat) : FuncId → Option (Spc U)
  | 62 => some sHereR
  | 63 => some (sBlkP n)
  | 64 => some (sPutP.wkA [.no, .no, wkI])
  | 113 => some (sChoP n)
  | 114 => some sSimB
  | _ => none
theorem Le_ok {n : Nat} (h : SpecOk Try.prog 63 (sBlkP n)) : ∀ f S, Le n f = some S → SpecOk Try.prog f S := fun f S hf => by
  unfold Le at hf
  split at hf
  · cases hf; exact sHereR_ok
  · cases hf; exact h
  · cases hf; exact sPutP_lib_ok
  · cases hf; exact sChoP_ok h
  · cases hf; exact sSimB_ok
  · cases hf
def reS (z : R114) : R114 := .mk z.Kind z.At z.To z.Field z.From ⟨z.Expr.Kind, z.Expr.A, z.Expr.B, z.Expr.Op, z.Expr.N, z.Expr.Args⟩ z.Body z.Else
theorem reS_eq (z : R114) : reS z = z := by cases z; rfl
/-! ### A round -/
def wh3 {R : Type} (s : LB) (z : R114) (h : Nat) (C : List R65) (k : List R65 → Option R) : Option R := if Sn C.length then if True then stC' (C ++ [atI s.fn z.At (ins3 17 0 h 0 0 0)]) h (C ++ [atI s.fn z.At (ins3 17 0 h 0 0 0)]).length k else none else none
noncomputable def rdB {R : Type} (N : Nat) (s : LB) (z : R114) (C : List R65) (k : List R65 → Option R) : Option R :=
  cond (decide (z.Kind = 4)) (if Pc C.length (reS z) N then k (pCh s.base (reS z) C) else none)
    (cond (decide (z.Kind = 5))
      (if Sn C.length then if True then stB (C ++ [atI s.fn z.At (ins3 18 (s.v z.From) 0 0 0 0)]) C.length (C ++ [atI s.fn z.At (ins3 18 (s.v z.From) 0 0 0 0)]).length fun C2 => if PreB C2.length (cntL z.Body) N then cond z.Body.isEmpty (wh3 s z C.length C2 k) (wh3 s z C.length (pL s.base z.Body C2) k) else none else none else none)
      (if Sn (reS z).Expr.Args.length then if Sn C.length then k (C ++ [atI s.fn z.At (s.one (reS z))]) else none else none))
def S63i (s : LB) (l : List R114) (v : Int) : TS U := mkS 72 [(0, .ref 0 0 0), (7, .lst .t114 l), (8, .v (.int .i64 (l.length : Int))), (9, .v (.int .i64 v))] (inB s) s.n
def S63m (s : LB) (l : List R114) (C : List R65) (v : Int) : TS U := mkS 72 [(0, .ref 0 0 0), (7, .lst .t114 l), (8, .v (.int .i64 (l.length : Int))), (9, .v (.int .i64 v))] (outB s C) s.n
def Z63i (s : LB) : Exit × TS U := (.exit 0, mkS 72 [] (inB s) s.n)
def Z63m (s : LB) (C : List R65) : Exit × TS U := (.exit 0, mkS 72 [] (outB s C) s.n)
theorem r63i (N : Nat) (lp : Lp U) (s : LB) (hs : s.Ok) (l : List R114) (n : Nat) (v : Int) : fnLoop X (Le N) an63 lp Try.f63 0 n.succ (S63i s l v) = cond (decide (v < (l.length : Int))) ((getI l v).bind fun z => rdB N s z s.C fun C => fnLoop X (Le N) an63 lp Try.f63 0 n (S63m s l C (IntKind.i64.wrap (v + 1)))) (some (Z63i s)) := by
  obtain ⟨G, F, vB, V, fB, Fs, cB, C, M, a, b, c, d, nn⟩ := s
  obtain ⟨h1, h2, h3⟩ := hs
  cases cB with
  | true =>
    clear h1 h2 h3
    cases vB <;> cases fB <;> kernel_rfl
  | false =>
    obtain rfl : C = [] := h3 rfl
    clear h1 h2 h3
    cases vB <;> cases fB <;> (show _ = _; kernel_rfl)
end Go.Proofs.Ytpkgikchphgfaaa.Lw

/- Texts of this claim, put together: part 21. -/
import Derived.Test.YtpkgikchphgfaaaMlT
/- The program's lowerer: statements. -/
namespace Go.Proofs.Ytpkgikchphgfaaa.Lw
open Go Go.RowKit Go.Proofs.Ytpkgikchphgfaaa.Eng Go.Proofs.Ytpkgikchphgfaaa.Fl
set_option linter.unusedVariables false
set_option linter.unusedSimpArgs false
set_option maxRecDepth 20000
def an63 : Ann := ⟨fun | 0 => 897 | _ => 0, fun | 0 => 0 | _ => 0, fun _ => [], false⟩
def an113 : Ann := ⟨fun _ => 0, fun _ => 0, fun _ => [], false⟩
def dRL (objs : List (TO U)) (args : List (TV U)) : Option (List R114) := match objs, args with
  | [], [a0, a1] =>
    match a0 with
    | .ref 0 0 0 =>
      match a1 with
      | .lst .t114 l =>
        some l
      | _ => none
    | _ => none
  | _, _ => none
theorem dRL_ok {objs : List (TO U)} {args : List (TV U)} {l : List R114} (h : dRL objs args = some l) : objs = [] ∧ args = [.ref 0 0 0, .lst .t114 l] := by
  unfold dRL at h
  repeat' split at h
  all_goals first | (cases h; done) | (cases h; exact ⟨rfl, rfl⟩)
def setBx (C : List R65) (h : Nat) (v : Int) : List R65 := match C[h]? with
  | some z => C.set h { z with B := v }
  | none => C
def setCx (C : List R65) (h : Nat) (v : Int) : List R65 := match C[h]? with
  | some z => C.set h { z with C := v }
  | none => C
def LB.hd (s : LB) (a : Int) (fr : ByteArray) (C : List R65) : List R65 := setBx (C ++ [atI s.fn a (ins3 18 (s.v fr) 0 0 0 0)]) C.length (C.length + 1)
def LB.md (s : LB) (a : Int) (h : Nat) (C : List R65) : List R65 := setCx (C ++ [atI s.fn a (ins3 17 0 0 0 0 0)]) h (C.length + 1)
def LB.bk (s : LB) (a : Int) (h : Nat) (C : List R65) : List R65 := setCx (C ++ [atI s.fn a (ins3 17 0 h 0 0 0)]) h (C.length + 1)
mutual
/-- The instructions with a statement more. -/
def pS (s : LB) : R114 → List R65 → List R65
  | .mk k a to fi fr e b l, C => cond (decide (k = 4)) (cond (decide ((l.length : Int) = 0))
      (setCx (pL s b (s.hd a fr C)) C.length (pL s b (s.hd a fr C)).length)
      (setBx (pL s l (s.md a C.length (pL s b (s.hd a fr C)))) (pL s b (s.hd a fr C)).length (pL s l (s.md a C.length (pL s b (s.hd a fr C)))).length))
    (cond (decide (k = 5)) (s.bk a C.length (pL s b (s.hd a fr C))) (C ++ [atI s.fn a (s.one (.mk k a to fi fr e b l))]))
def pL (s : LB) : List R114 → List R65 → List R65
  | [], C => C
  | x :: l, C => pL s l (pS s x C)
end
def LB.base (s : LB) : LB := ⟨s.G, s.F, true, [], true, [], true, [], s.M, s.mG, s.mF, s.mN, s.mV, s.fn⟩
def PreB (c m n : Nat) : Prop := c + 2 * m ≤ 3000000 ∧ m < n
noncomputable instance (c m n : Nat) : Decidable (PreB c m n) := Classical.propDecidable _
noncomputable def sBlkP (n : Nat) : Spc U := .of2 (dW dRL) (fun (s, l) => PreB s.C.length (cntL l) n) (fun (s, l) => l.isEmpty) (fun (s, l) => inB s) (fun _ => .tup []) (fun (s, l) => outB s (pL s.base l s.C)) (fun _ => .tup [])
def sHereR : Spc U := sHere.ro
theorem sHereR_ok : SpecOk Try.prog 62 sHereR := sHere_ok.ro fun objs args o v h => by
  obtain ⟨⟨s, x⟩, hx, _, he⟩ := Spc.of_some h
  cases he
  obtain ⟨⟨rfl, _⟩, _⟩ := dW_ok hx
  rfl
noncomputable def Ld (n : Nat) : FuncId → Option (Spc U)
  | 62 => some sHereR
  | 63 => some (sBlkP n)
  | 64 => some (sPutP.wkA [.no, .no, wkI])
  | _ => none
def stB {R : Type} (C : List R65) (h v : Int) (k : List R65 → Option R) : Option R := if 0 ≤ h ∧ h < (C.length : Int) then C[h.toNat]?.bind fun z => k (C.set h.toNat ⟨z.Fn, z.At, z.Op, z.A, v, z.C, z.Do, z.N, z.Args⟩) else none
def stC' {R : Type} (C : List R65) (h v : Int) (k : List R65 → Option R) : Option R := if 0 ≤ h ∧ h < (C.length : Int) then C[h.toNat]?.bind fun z => k (C.set h.toNat ⟨z.Fn, z.At, z.Op, z.A, z.B, v, z.Do, z.N, z.Args⟩) else none
theorem stB_eq {R : Type} {C : List R65} {h : Nat} {v : Int} {k : List R65 → Option R} (hh : h < C.length) : stB C h v k = k (setBx C h v) := by
  unfold stB setBx
  rw [if_pos ⟨by omega, by omega⟩, show ((h : Int)).toNat = h from rfl, List.getElem?_eq_getElem hh]
  rfl
theorem stC_eq' {R : Type} {C : List R65} {h : Nat} {v : Int} {k : List R65 → Option R} (hh : h < C.length) : stC' C h v k = k (setCx C h v) := by
  unfold stC' setCx
  rw [if_pos ⟨by omega, by omega⟩, show ((h : Int)).toNat = h from rfl, List.getElem?_eq_getElem hh]
  rfl
theorem setBx_len (C : List R65) (h : Nat) (v : Int) : (setBx C h v).length = C.length := by unfold setBx; split; exact List.length_set; rfl
theorem setCx_len (C : List R65) (h : Nat) (v : Int) : (setCx C h v).length = C.length := by unfold setCx; split; exact List.length_set; rfl
theorem LB.hd_len (s : LB) (a : Int) (fr : ByteArray) (C : List R65) : (s.hd a fr C).length = C.length + 1 := by unfold LB.hd; rw [setBx_len, List.length_append]; rfl
theorem LB.md_len (s : LB) (a : Int) (h : Nat) (C : List R65) : (s.md a h C).length = C.length + 1 := by unfold LB.md; rw [setCx_len, List.length_append]; rfl
theorem LB.bk_len (s : LB) (a : Int) (h : Nat) (C : List R65) : (s.bk a h C).length = C.length + 1 := by unfold LB.bk; rw [setCx_len, List.length_append]; rfl
mutual
theorem pS_len (s : LB) : ∀ (z : R114) (C : List R65), C.length < (pS s z C).length ∧ (pS s z C).length ≤ C.length + 2 * cntS z
  | .mk k a to fi fr e b l, C => by
    have hb := fun D => pL_len s b D
    have hl := fun D => pL_len s l D
    rw [pS, cntS]
    cases decide (k = 4) with
    | true =>
      have h1 := hb (s.hd a fr C)
      rw [LB.hd_len] at h1
      cases decide ((l.length : Int) = 0) with
      | true =>
        simp only [cond_true]
        rw [setCx_len]
        omega
      | false =>
        simp only [cond_true, cond_false]
        have h2 := hl (s.md a C.length (pL s b (s.hd a fr C)))
        rw [LB.md_len] at h2
        rw [setBx_len]
        omega
    | false =>
      cases decide (k = 5) with
      | true =>
        have h1 := hb (s.hd a fr C)
        rw [LB.hd_len] at h1
        simp only [cond_true, cond_false]
        rw [LB.bk_len]
        omega
      | false =>
        simp only [cond_false]
        rw [List.length_append]
        simp only [List.length_singleton]
        omega
theorem pL_len (s : LB) : ∀ (l : List R114) (C : List R65), C.length ≤ (pL s l C).length ∧ (pL s l C).length ≤ C.length + 2 * cntL l
  | [], C => by rw [pL]; exact ⟨Nat.le_refl _, Nat.le_add_right _ _⟩
  | x :: l, C => by
    rw [pL, cntL]
    have h1 := pS_len s x C
    have h2 := pL_len s l (pS s x C)
    omega
end
def ch5 (s : LB) (h : Int) (C : List R65) : Option (List (TO U) × TV U) := if True then stB C h C.length fun C6 => some (outB s C6, .tup []) else none
noncomputable def ch3 (N : Nat) (s : LB) (z : R114) (C : List R65) : Option (List (TO U) × TV U) := cond (decide ((z.Else.length : Int) = 0)) (if True then stC' C s.C.length C.length fun C3 => some (outB s C3, .tup []) else none)
  (if Sn C.length then if True then stC' (C ++ [atI s.fn z.At (ins3 17 0 0 0 0 0)]) s.C.length (C ++ [atI s.fn z.At (ins3 17 0 0 0 0 0)]).length fun C4 => if PreB C4.length (cntL z.Else) N then cond z.Else.isEmpty (ch5 s C.length C4) (ch5 s C.length (pL s.base z.Else C4)) else none else none else none)
theorem e113 (N : Nat) (s : LB) (hs : s.Ok) (z : R114) : evFn X (Ld N) an113 lp0 Try.f113 (inB s) [.ref 0 0 0, stV z] (fun o v => some (o, v)) =
  if Sn s.C.length then if True then stB (s.C ++ [atI s.fn z.At (ins3 18 (s.v z.From) 0 0 0 0)]) s.C.length (s.C ++ [atI s.fn z.At (ins3 18 (s.v z.From) 0 0 0 0)]).length fun C2 => if PreB C2.length (cntL z.Body) N then cond z.Body.isEmpty (ch3 N s z C2) (ch3 N s z (pL s.base z.Body C2)) else none else none else none := by
  obtain ⟨G, F, vB, V, fB, Fs, cB, C, M, a, b, c, d, n⟩ := s
  obtain ⟨h1, h2, h3⟩ := hs
  cases cB with
  | true =>
    clear h1 h2 h3
    cases vB <;> cases fB <;> kernel_rfl
  | false =>
    obtain rfl : C = [] := h3 rfl
    clear h1 h2 h3
    cases vB <;> cases fB <;> (show _ = _; kernel_rfl)
end Go.Proofs.Ytpkgikchphgfaaa.Lw

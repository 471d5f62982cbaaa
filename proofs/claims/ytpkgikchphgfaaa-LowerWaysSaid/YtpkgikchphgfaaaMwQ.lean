/- Texts of this claim, put together: part 17. -/
import Derived.Test.YtpkgikchphgfaaaMwJ
import Derived.Test.YtpkgikchphgfaaaMwK
import Derived.Test.YtpkgikchphgfaaaMwL
import Derived.Test.YtpkgikchphgfaaaMwM
import Derived.Test.YtpkgikchphgfaaaMwN
import Derived.Test.YtpkgikchphgfaaaMwO
import Derived.Test.YtpkgikchphgfaaaMwP
/- The references' instructions: of a program, put together. -/
namespace Go.Proofs.Ytpkgikchphgfaaa.Fl
open Go Go.RowKit Go.Proofs.Ytpkgikchphgfaaa.Eng
set_option linter.unusedVariables false
set_option linter.unusedSimpArgs false
set_option maxRecDepth 20000
def st6 (k : Int) (ps : List Int) (i : Int) : List Int := ps ++ [IntKind.i64.wrap (k + i)]
def parI (o : IRs) (z : R90) : List Int := ixL z.Params.length (st6 o.V.length) (z.Params.length + 1) [] 0
def IRs.addV (o : IRs) (w : List Int) : IRs := ⟨o.G, o.F, o.V ++ w, o.Fs, o.C, o.Main⟩
/-- A function's instructions. -/
def codI (t : TR) (o : IRs) (v : Int) (z : R90) : List R65 := (lb1 t o v z).C
/-- With one function more. -/
def lwF (t : TR) (o : IRs) (v : Int) (z : R90) : IRs := ⟨o.G, o.F, o.V ++ ([] ++ z.Params ++ z.Vars).map R82.Type_, o.Fs ++ [⟨z.Name, parI o z, z.Ret, o.C.length, (o.C ++ codI t o v z).length⟩], o.C ++ codI t o v z, cond (z.Name.toList == bMain.toList) v o.Main⟩
end Go.Proofs.Ytpkgikchphgfaaa.Fl
/- The references' instructions: of a program, the whole. -/
namespace Go.Proofs.Ytpkgikchphgfaaa.Fl
open Go Go.RowKit Go.Proofs.Ytpkgikchphgfaaa.Eng
set_option linter.unusedVariables false
set_option linter.unusedSimpArgs false
set_option maxRecDepth 20000
noncomputable def D0 : Code := match Try.f29.body with
  | some c => c
  | none => .skip
noncomputable def D5 : Code := sR (sR (sR (sR (sR D0))))
theorem hD0 : D0 = .seq (sL D0) (.seq (sL (sR D0)) (.seq (.seq (sL (sL (sR (sR D0)))) (.block 0 (.loop (loopAt Try.f29 0)))) (.seq (.seq (sL (sL (sR (sR (sR D0))))) (.block 2 (.loop (loopAt Try.f29 2)))) (.seq (.seq (sL (sL (sR (sR (sR (sR D0)))))) (.block 4 (.loop (loopAt Try.f29 4)))) D5)))) := by kernel_rfl
def wkIR : Lw U := .a [.l .i64, .l .i64, .l .i64, .l .t69, .l .t65, .no]
def irV (o : IRs) : TV U := .agg [.lst .i64 o.G, .lst .i64 o.F, .lst .i64 o.V, .lst .t69 o.Fs, .lst .t65 o.C, .v (.int .i64 o.Main)]
def sA (t : TR) (l : List (Nat × TV U)) : TS U := mkS 150 ([(0, t.tv), (1, .ref 0 0 0), (2, .ref 1 0 0), (3, .ref 2 0 0)] ++ l ++ [(12, .agg [nl, nl, nl, nl, nl, .v (.int .i64 0)])]) [t.ob, z26, z26] 0
theorem w0 (lp : Lp U) (R : Type) (K : Exit → TS U → Option R) (t : TR) (c : Code) : evC X Ez an36 lp (.seq (sL D0) (.seq (sL (sR D0)) c)) 0 (mkS 150 [(0, t.tv)] [] 0) K = evC X Ez an36 lp c 0 (sA t []) K := by kernel_rfl
theorem w2 (lp : Lp U) (R : Type) (K : Exit → TS U → Option R) (t : TR) : evC X Ez an36 lp (sL (sL (sR (sR D0)))) 0 (sA t []) K = K .normal (sA t [(4, .v (.int .i64 0))]) := by kernel_rfl
theorem w6 (lp : Lp U) (R : Type) (K : Exit → TS U → Option R) (t : TR) (g : List Int) : evC X Ez an36 lp (sL (sL (sR (sR (sR D0))))) 0 (E36 t ⟨g, [], [], [], [], 0⟩) K = K .normal (S36 t ⟨g, [], [], [], [], 0⟩ 5 0) := by cases g <;> kernel_rfl
theorem n2 (t : TR) (g : List Int) : evNorm (X := X) (an36.live 2) (S36 t ⟨g, [], [], [], [], 0⟩ 5 0) = some (S36 t ⟨g, [], [], [], [], 0⟩ 5 0) := by cases g <;> kernel_rfl
end Go.Proofs.Ytpkgikchphgfaaa.Fl
/- The references' instructions: of a program, proved. -/
namespace Go.Proofs.Ytpkgikchphgfaaa.Fl
open Go Go.RowKit Go.Proofs.Ytpkgikchphgfaaa.Eng
set_option linter.unusedVariables false
set_option linter.unusedSimpArgs false
set_option maxRecDepth 20000
/-- With all functions. -/
def lwL (t : TR) : List R90 → IRs → Int → IRs
  | [], o, _ => o
  | z :: r, o, v => lwL t r (lwF t o v z) (v + 1)
/-- A program as instructions. -/
def lower (t : TR) : IRs := lwL t t.N ⟨t.G.map R82.Type_, t.F.map R82.Type_, [], [], [], 0⟩ 0
end Go.Proofs.Ytpkgikchphgfaaa.Fl
/- A program that is given. -/
namespace Go.Proofs.Ytpkgikchphgfaaa.Fl
open Go Go.RowKit Go.Proofs.Ytpkgikchphgfaaa.Eng
set_option linter.unusedVariables false
set_option linter.unusedSimpArgs false
set_option maxRecDepth 20000
def irOb (o : IRs) : TO U := .cells [.lst .i64 o.G, .lst .i64 o.F, .lst .i64 o.V, .lst .t69 o.Fs, .lst .t65 o.C, .v (.int .i64 o.Main)] false
def cnt10 (c : Int × Int) (z : R65) : Int × Int := (cond (decide (z.Op = 6)) (c.1 + 1) c.1, cond (decide (8 ≤ z.Op) && decide (z.Op ≤ 11)) (c.2 + 1) c.2)
def cnts (o : IRs) : Int × Int := o.C.foldl cnt10 (0, 0)
def IRs.ob (o : IRs) : TO U := irOb o
def Pre10 (n : Nat) (a b v : Int) : Prop := n ≤ 3000000 ∧ a = 0 ∧ b = 0 ∧ v = 0
instance (n : Nat) (a b v : Int) : Decidable (Pre10 n a b v) := by unfold Pre10; infer_instance
theorem parse_ok {s : ByteArray} (h : s.size ≤ 100000) : TrOk (parseP s).1 := by
  have h0 := ps0_ok h
  have h1 := (progL_ok ((ps0 s).left + 1) (ps0 s) [] [] [] h0).2
  have h2 := h0.left_le
  have h3 := h0.len
  have e : progL ((ps0 s).left + 1) (ps0 s) [] [] [] = progP (ps0 s) := rfl
  rw [e] at h1
  unfold prW at h1
  simp only [List.length_nil, fnsW] at h1
  have hz : TrOk ⟨[], [], []⟩ := ⟨Nat.zero_le _, Nat.zero_le _, Nat.zero_le _⟩
  unfold parseP
  cases lexF s with
  | true => exact hz
  | false =>
    cases !decide ((progP (ps0 s)).q.Code = 0) with
    | true => exact hz
    | false => exact ⟨by show (progP (ps0 s)).g.length ≤ _; omega, by show (progP (ps0 s)).f.length ≤ _; omega, by show fnsW (progP (ps0 s)).n ≤ _; omega⟩
end Go.Proofs.Ytpkgikchphgfaaa.Fl
/- A program that is given, proved; what comes behind an instruction. -/
namespace Go.Proofs.Ytpkgikchphgfaaa.Fl
open Go Go.RowKit Go.Proofs.Ytpkgikchphgfaaa.Eng
set_option linter.unusedVariables false
set_option linter.unusedSimpArgs false
set_option maxRecDepth 20000
def cut3 (s : ByteArray) : ByteArray := (cutB s none (some (if 3000 < (s.size : Int) then 3000 else (s.size : Int)))).getD ⟨#[]⟩
theorem cut3_ok (s : ByteArray) : cutB s none (some (if 3000 < (s.size : Int) then 3000 else (s.size : Int))) = some (cut3 s) ∧ (cut3 s).size ≤ 100000 := by
  have h : ∀ m : Int, 0 ≤ m → m ≤ s.size → m ≤ 3000 → cutB s none (some m) = some (s.extract 0 m.toNat) ∧ (s.extract 0 m.toNat).size ≤ 100000 := fun m h0 h1 h2 => by
    refine ⟨if_pos ⟨h0, h1⟩, ?_⟩
    rw [ByteArray.size_extract]
    omega
  unfold cut3
  split
  · rename_i hm
    obtain ⟨a, b⟩ := h 3000 (by decide) (by omega) (by decide)
    rw [a]
    exact ⟨rfl, b⟩
  · obtain ⟨a, b⟩ := h (s.size : Int) (by omega) (Int.le_refl _) (by omega)
    rw [a]
    exact ⟨rfl, b⟩
def ir0 : IRs := ⟨[], [], [], [], [], 0⟩
def okG (o : IRs) : Bool := decide ((o.C.length : Int) ≤ 160) && (decide ((cnts o).1 ≤ 12) && (decide ((cnts o).2 ≤ 50) && (decide ((o.V.length : Int) ≤ 60) && (decide ((o.F.length : Int) ≤ 6) && decide ((o.G.length : Int) ≤ 12)))))
/-- A program that is given; whether it is one. -/
def given (s : ByteArray) : IRs × Bool := cond (!decide ((parseP (cut3 s)).2.1 = 0)) (ir0, false) (cond (!decide ((chk (parseP (cut3 s)).1).Code = 0)) (ir0, false) (lower (parseP (cut3 s)).1, okG (lower (parseP (cut3 s)).1)))
def sGiven : Spc U := .of dstr (fun _ => True) (fun _ => []) fun s => .tup [irV (given s).1, .v (.bool (given s).2)]
def wkL : Lw U := .l .i64
end Go.Proofs.Ytpkgikchphgfaaa.Fl
/- What a function comes to, told by cases. -/
namespace Go.Proofs.Ytpkgikchphgfaaa.Eng
open Go Go.RowKit
set_option linter.unusedVariables false
def Spc.ofG {U : Univ} {A : Type} (d : List (TO U) → List (TV U) → Option A) (pre : A → Prop) [DecidablePred pre] (G : {R : Type} → A → (List (TO U) → TV U → Option R) → Option R) (o : A → List (TO U)) (v : A → TV U) (hG : ∀ {R : Type} (x : A) (k : List (TO U) → TV U → Option R), G x k = k (o x) (v x)) : Spc U := ⟨fun objs args k => match d objs args with
  | some x => if pre x then G x k else none
  | none => none⟩
theorem SpecOk.ofG {P : Program} {U : Univ} {fid : FuncId} {S0 : Spc U} (h0 : SpecOk P fid S0) {A : Type} {d : List (TO U) → List (TV U) → Option A} {pre : A → Prop} [DecidablePred pre] {G : {R : Type} → A → (List (TO U) → TV U → Option R) → Option R} {o : A → List (TO U)} {v : A → TV U} (hG : ∀ {R : Type} (x : A) (k : List (TO U) → TV U → Option R), G x k = k (o x) (v x))
    (h : ∀ objs args x, d objs args = some x → pre x → S0.F objs args (fun o v => some (o, v)) = some (o x, v x)) : SpecOk P fid (Spc.ofG d pre G o v hG) := by
  refine SpecOk.of_ev h0 (fun objs args => ?_) fun objs args o' v' h' => ?_
  · intro R k r h'
    unfold Spc.ofG at h' ⊢
    dsimp only at h' ⊢
    cases hd : d objs args with
    | none => rw [hd] at h'; cases h'
    | some x =>
      rw [hd] at h'
      dsimp only at h' ⊢
      split at h' <;> try (cases h'; done)
      rename_i hp
      rw [hG] at h'
      exact ⟨_, _, h', fun k' => by rw [if_pos hp, hG]⟩
  · unfold Spc.ofG at h'
    dsimp only at h'
    cases hd : d objs args with
    | none => rw [hd] at h'; cases h'
    | some x =>
      rw [hd] at h'
      dsimp only at h'
      split at h' <;> try (cases h'; done)
      rename_i hp
      rw [hG] at h'
      cases h'
      exact h _ _ _ hd hp
end Go.Proofs.Ytpkgikchphgfaaa.Eng
/- What comes behind an instruction; lists that are the same. -/
namespace Go.Proofs.Ytpkgikchphgfaaa.Fl
open Go Go.RowKit Go.Proofs.Ytpkgikchphgfaaa.Eng
set_option linter.unusedVariables false
set_option linter.unusedSimpArgs false
set_option maxRecDepth 20000
def IRs.tv (o : IRs) : TV U := irV o
def dIi (objs : List (TO U)) (args : List (TV U)) : Option (IRs × Int) := match objs, args with
  | [], [a0, a1] =>
    match a0 with
    | .agg [q0, q1, q2, q3, q4, q5] =>
      match q0 with
      | .lst .i64 o_G =>
        match q1 with
        | .lst .i64 o_F =>
          match q2 with
          | .lst .i64 o_V =>
            match q3 with
            | .lst .t69 o_Fs =>
              match q4 with
              | .lst .t65 o_C =>
                match q5 with
                | .v (.int .i64 o_Main) =>
                  match a1 with
                  | .v (.int .i64 n) =>
                    some ((⟨o_G, o_F, o_V, o_Fs, o_C, o_Main⟩ : IRs), n)
                  | _ => none
                | _ => none
              | _ => none
            | _ => none
          | _ => none
        | _ => none
      | _ => none
    | _ => none
  | _, _ => none
/-- What comes behind an instruction. -/
def nx (o : IRs) (n : Int) : List Int := cond (decide (n < 0)) [] (cond (decide ((o.C.length : Int) ≤ n)) [] (match getI o.C n with
  | some z => cond (decide (z.Op = 16)) [] (cond (decide (z.Op = 17)) [z.B] (cond (decide (z.Op = 18)) (cond (decide (z.B = z.C)) [z.B] [z.B, z.C]) [IntKind.i64.wrap (n + 1)]))
  | none => []))
def sNx : Spc U := .of dIi (fun _ => True) (fun _ => []) fun (o, n) => .lst .i64 (nx o n)
/-! ### One's own -/
def an12 : Ann := ⟨fun | 0 => 35 | _ => 0, fun | 0 => 16 | _ => 0, fun _ => [], false⟩
/-! ### The same? -/
def dLL (objs : List (TO U)) (args : List (TV U)) : Option (List Int × List Int) := match objs, args with
  | [], [a0, a1] =>
    match a0 with
    | .lst .i64 a =>
      match a1 with
      | .lst .i64 b =>
        some (a, b)
      | _ => none
    | _ => none
  | _, _ => none
def dLO (objs : List (TO U)) (args : List (TV U)) : Option (List Int × List Int) := match objs, args with
  | [o0], [a0, a1] =>
    match o0 with
    | .row .i64 b false =>
      match a0 with
      | .lst .i64 a =>
        match a1 with
        | .full 0 =>
          some (b, a)
        | _ => none
      | _ => none
    | _ => none
  | _, _ => none
def dl12 (s : TS U) : Option (List Int × List Int × Int) := match told s 26 [0, 1, 5] 0, s.objs with
  | some [a0, a1, a2], [] =>
    match a0 with
    | .lst .i64 a =>
      match a1 with
      | .lst .i64 b =>
        match a2 with
        | .v (.int .i64 v) =>
          some (a, b, v)
        | _ => none
      | _ => none
    | _ => none
  | _, _ => none
def Pre12 (n m : Nat) (v : Int) : Prop := n ≤ 3000000 ∧ n = m ∧ v = 0
instance (n m : Nat) (v : Int) : Decidable (Pre12 n m v) := by unfold Pre12; infer_instance
def eqI (a b : List Int) : Bool := decide (a = b)
def lc12 : LC U := .of2 dl12 (fun (a, b, v) => Pre12 a.length b.length v) (fun (a, b, v) => eqI a b) (.exit 0) (fun _ => mkS 26 [] [] 0) .ret (fun _ => mkS 26 [(4, .v (.bool false))] [] 0)
theorem e12 (a : List Int) (b : List Int) : (evFn X (fun (x : FuncId) => none) an12 (lpL [(0, lc12)]) Try.f13 [] [TV.lst C.i64 a, TV.lst C.i64 b] fun (o : List (TO X.U)) (v : TV X.U) => some (o, v)) = bif !decide ((↑a.length : Int) = (↑b.length : Int)) then some ([], TV.v (Value.bool false)) else if Pre12 a.length b.length 0 then bif eqI a b then some ([], TV.v (Value.bool true)) else some ([], TV.v (Value.bool false)) else none := by kernel_rfl
def sInts : Spc U := .of dLL (fun (a, b) => Sn a.length) (fun _ => []) fun (a, b) => .v (.bool (eqI a b))
def sIntsO : Spc U := .of dLO (fun (b, a) => Sn a.length) (fun (b, a) => [.row .i64 b false]) fun (b, a) => .v (.bool (eqI a b))
end Go.Proofs.Ytpkgikchphgfaaa.Fl
/- What one comes to. -/
namespace Go.Proofs.Ytpkgikchphgfaaa.Fl
open Go Go.RowKit Go.Proofs.Ytpkgikchphgfaaa.Eng
set_option linter.unusedVariables false
set_option linter.unusedSimpArgs false
set_option maxRecDepth 20000
/-- What is marked from a list of things to look at on. -/
def rcL (o : IRs) : Nat → List Bool → List Int → List Bool
  | 0, out, _ => out
  | N + 1, out, w => match w[w.length - 1]? with
    | none => out
    | some y => cond (decide (y < 0)) (rcL o N out (w.take (w.length - 1))) (cond (decide ((out.length : Int) ≤ y)) (rcL o N out (w.take (w.length - 1))) (match out[y.toNat]? with
      | some true => rcL o N out (w.take (w.length - 1))
      | some false => rcL o N (out.set y.toNat true) (w.take (w.length - 1) ++ nx o y)
      | none => out))
def Pre37 (n m : Nat) : Prop := n + 3 * m ≤ 100000000
instance (n m : Nat) : Decidable (Pre37 n m) := by unfold Pre37; infer_instance
def rcP (o : IRs) (out : List Bool) (w : List Int) : List Bool := rcL o (w.length + 3 * out.length + 1) out w
def reachP (o : IRs) (n : Int) : List Bool := rcP o (List.replicate (o.C.length : Int).toNat false) (nx o n)
end Go.Proofs.Ytpkgikchphgfaaa.Fl
/- Again; awake. -/
namespace Go.Proofs.Ytpkgikchphgfaaa.Fl
open Go Go.RowKit Go.Proofs.Ytpkgikchphgfaaa.Eng
set_option linter.unusedVariables false
set_option linter.unusedSimpArgs false
set_option maxRecDepth 20000
def agP (o : IRs) (n : Int) : Bool := cond (decide (0 ≤ n)) (cond (decide (n < (o.C.length : Int))) ((getI (reachP o n) n).getD false) false) false
def sAgain : Spc U := .of dIi (fun (o, n) => Sn o.C.length) (fun _ => []) fun (o, n) => .v (.bool (agP o n))
def Fd : FuncId → Option (Spc U)
  | 9 => some sGiven
  | 13 => some sIntsO
  | 37 => some sNx
  | 36 => some sAgain
  | _ => none
theorem e11 : evFn X Fd an0 lp0 Try.f10 [] [] (fun o v => some (o, v)) = some ([], .v (.bool true)) := by kernel_rfl
def sAwake : Spc U := .of d0 (fun _ => True) (fun _ => []) fun _ => .v (.bool true)
end Go.Proofs.Ytpkgikchphgfaaa.Fl
/- Programs as bytes: numbers. -/
namespace Go.Proofs.Ytpkgikchphgfaaa.Ic
open Go Go.RowKit Go.Proofs.Ytpkgikchphgfaaa.Eng Go.Proofs.Ytpkgikchphgfaaa.Fl
set_option linter.unusedVariables false
set_option linter.unusedSimpArgs false
set_option maxRecDepth 20000
def an88 : Ann := ⟨fun | 0 => 9 | _ => 0, fun | 0 => 13 | _ => 0, fun _ => [], false⟩
def an87 : Ann := ⟨fun | 0 => 7176 | _ => 0, fun | 0 => 12 | _ => 0, fun _ => [], false⟩
def hiB (n : Int) : Int := IntKind.u8.wrap ((BitVec.ofInt IntKind.u8.bits (IntKind.u8.wrap n) ||| BitVec.ofInt IntKind.u8.bits 128).toNat : Nat)
def sh7 (n : Int) : Int := n.fdiv (2 ^ min (Int.toNat 7) IntKind.u64.bits)
def loB (n : Int) : Int := IntKind.u8.wrap n
theorem sh7_nat (n : Nat) : sh7 (n : Int) = ((n / 128 : Nat) : Int) := by
  unfold sh7
  have : (2 ^ min (Int.toNat 7) IntKind.u64.bits : Int) = 128 := by decide
  rw [this]
  have := Int.fdiv_eq_ediv_of_nonneg (n : Int) (show (0 : Int) ≤ 128 by decide)
  rw [this]
  rfl
theorem wrap_u8 (n : Nat) : IntKind.u8.wrap (n : Int) = ((n % 256 : Nat) : Int) := by
  show (n : Int) % (2 ^ 8) = _
  omega
theorem loB_nat {n : Nat} (h : n < 256) : loB (n : Int) = n := by
  unfold loB
  rw [wrap_u8]
  omega
theorem hiB_nat (n : Nat) : hiB (n : Int) = ((128 + n % 128 : Nat) : Int) := by
  unfold hiB
  rw [wrap_u8 n]
  have key : ∀ k : Fin 256, (BitVec.ofInt IntKind.u8.bits ((k.val : Nat) : Int) ||| BitVec.ofInt IntKind.u8.bits 128).toNat = 128 + k.val % 128 := by decide +kernel
  have := key ⟨n % 256, Nat.mod_lt _ (by decide)⟩
  dsimp only at this
  rw [this, wrap_u8]
  omega
/-- All but the last byte of a number; the last one. -/
def hd (n : Nat) : List Int := if n < 128 then [] else ((128 + n % 128 : Nat) : Int) :: hd (n / 128)
termination_by n
def tl (n : Nat) : Nat := if n < 128 then n else tl (n / 128)
termination_by n
theorem tl_lt (n : Nat) : tl n < 128 := by
  induction n using Nat.strongRecOn with
  | ind n ih =>
    unfold tl
    split
    · assumption
    · exact ih _ (by omega)
theorem hd_len : ∀ (k n : Nat), n < 128 ^ (k + 1) → (hd n).length ≤ k := by
  intro k
  induction k with
  | zero => intro n h; unfold hd; rw [if_pos (by simpa using h)]; exact Nat.le_refl _
  | succ k ih =>
    intro n h
    unfold hd
    split
    · exact Nat.zero_le _
    · rw [List.length_cons]
      have := ih (n / 128) (by rw [Nat.div_lt_iff_lt_mul (by decide), ← Nat.pow_succ]; exact h)
      omega
/-- A number of 64 bits. -/
def U64 (n : Int) : Prop := 0 ≤ n ∧ n < 18446744073709551616
instance (n : Int) : Decidable (U64 n) := by unfold U64; infer_instance
theorem U64.hd {n : Int} (h : U64 n) : (hd n.toNat).length ≤ 9 := hd_len 9 _ (by have := h.1; have := h.2; have e : (128 : Nat) ^ (9 + 1) = 1180591620717411303424 := by decide
                                                                                 rw [e]; omega)
def rw8 : List Int → List (TO U)
  | [] => []
  | x :: l => [.row .u8 (x :: l) false]
def S88 (g : List Int) (n : Int) : TS U := mkS 20 [(0, .v (.int .u64 n)), (3, nvl g 0)] (rw8 g) 0
theorem r88 (lp : Lp U) (N : Nat) (g : List Int) (n : Int) : fnLoop X (fun _ => none) an88 lp Try.f88 0 N.succ (S88 g n) = cond (decide (127 < n)) (if (g.length + 1) * 1 ≤ 140737488355328 then fnLoop X (fun _ => none) an88 lp Try.f88 0 N (S88 (g ++ [hiB n]) (sh7 n)) else none) (some (.exit 0, S88 g n)) := by cases g <;> kernel_rfl
theorem rounds88 (lp : Lp U) (n : Nat) : ∀ (g : List Int), g.length + (hd n).length ≤ 1000 → fnLoop X (fun _ => none) an88 lp Try.f88 0 ((hd n).length + 1) (S88 g n) = some (.exit 0, S88 (g ++ hd n) (tl n)) := by
  induction n using Nat.strongRecOn with
  | ind n ih =>
    intro g hg
    rw [r88]
    by_cases h : n < 128
    · have e1 : hd n = [] := by unfold hd; rw [if_pos h]
      have e2 : tl n = n := by unfold tl; rw [if_pos h]
      rw [e1, e2, decide_eq_false (by omega), List.append_nil]
      rfl
    · have e1 : hd n = ((128 + n % 128 : Nat) : Int) :: hd (n / 128) := by conv => lhs; unfold hd; rw [if_neg h]
      have e2 : tl n = tl (n / 128) := by conv => lhs; unfold tl; rw [if_neg h]
      rw [e1] at hg ⊢
      rw [List.length_cons] at hg
      rw [decide_eq_true (by omega), cond_true, if_pos (by omega), hiB_nat, sh7_nat, e2]
      have := ih (n / 128) (by omega) (g ++ [((128 + n % 128 : Nat) : Int)]) (by rw [List.length_append]; show g.length + 1 + _ ≤ _; omega)
      rw [List.append_assoc] at this
      exact this
/-- A number's bytes. -/
def numB (n : Int) : ByteArray := strOfNums (hd n.toNat ++ [(tl n.toNat : Int)])
def dl88 (s : TS U) : Option (Int) := match told s 20 [0, 3] 0, s.objs with
  | some [a0, a1], [] =>
    match a0 with
    | .v (.int .u64 n) =>
      match a1 with
      | .v (.slice none 0 0) =>
        some n
      | _ => none
    | _ => none
  | _, _ => none
theorem dl88_ok {s : TS U} {n : Int} (h : dl88 s = some n) : s = mkS (U := U) 20 ([0, 3].zip ([.v (.int .u64 n), .v (.slice none 0 0)] : List (TV U))) ([] : List (TO U)) 0 := by
  unfold dl88 at h
  split at h <;> try (cases h; done)
  rename_i ht ho
  have hs := told_ok ht
  rw [ho] at hs
  repeat' split at h
  all_goals first | (cases h; done) | (cases h; exact hs)
def lc88 : LC U := .ofG dl88 (fun n => U64 n) (fun n K => lsp (hd n.toNat) fun g => K (.exit 0) (S88 g (tl n.toNat))) (fun _ => .exit 0) (fun n => S88 (hd n.toNat) (tl n.toNat)) fun n K => lsp_eq _ _
def lp88 : Lp U := lpL [(0, lc88)]
theorem lp88_ok : ∀ c, Try.f88.body = some c → LpOk X (fun _ => none) an88 lp88 (loops c 0) := lpL_ok (by kernel_rfl) fun b L hm st p hs => by
  cases hm with
  | tail _ h => cases h
  | head =>
    obtain ⟨n, hx, h1, rfl⟩ := LC.ofG_some (fun x K => lsp_eq _ _) hs
    obtain rfl := dl88_ok hx
    have h2 := h1.hd
    have h0 := h1.1
    have := rounds88 (lpL [(0, lc88)]) n.toNat [] (by show 0 + _ ≤ _; omega)
    rw [show ((n.toNat : Nat) : Int) = n by omega] at this
    exact ⟨_, this⟩
theorem e88 (n : Int) : (evFn X (fun (x : FuncId) => none) an88 lp88 Try.f88 [] [TV.v (Value.int IntKind.u64 n)] fun (o : List (TO X.U)) (v : TV X.U) => some (o, v)) = if U64 n then bif (hd n.toNat).isEmpty then if 1 * 1 ≤ 140737488355328 then some ([], TV.v (Value.string (strOfNums [IntKind.u8.wrap (↑(tl n.toNat) : Int)]))) else none else (unc (hd n.toNat)).bind fun (x : Int × List Int) => if ((x.fst :: x.snd).length + 1) * 1 ≤ 140737488355328 then some ([], TV.v (Value.string (strOfNums (x.fst :: x.snd ++ [IntKind.u8.wrap (↑(tl n.toNat) : Int)])))) else none else none := by kernel_rfl
def du64 (objs : List (TO U)) (args : List (TV U)) : Option (Int) := match objs, args with
  | [], [a0] =>
    match a0 with
    | .v (.int .u64 n) =>
      some n
    | _ => none
  | _, _ => none
theorem du64_ok {objs : List (TO U)} {args : List (TV U)} {n : Int} (h : du64 objs args = some n) : objs = [] ∧ args = [.v (.int .u64 n)] := by
  unfold du64 at h
  repeat' split at h
  all_goals first | (cases h; done) | (cases h; exact ⟨rfl, rfl⟩)
def sNum : Spc U := .of du64 (fun n => U64 n) (fun _ => []) fun n => .v (.string (numB n))
theorem sNum_ok : SpecOk Try.prog 88 sNum := by
  refine fn_ok X_ok mixed E0_ok an88 lp88 Try.func88 (by kernel_rfl) (by kernel_rfl) lp88_ok fun objs args n hx hp => ?_
  obtain ⟨rfl, rfl⟩ := du64_ok hx
  dsimp only
  refine (e88 n).trans ?_
  rw [if_pos hp]
  have h2 := hp.hd
  have h3 := tl_lt n.toNat
  have e : IntKind.u8.wrap ((tl n.toNat : Nat) : Int) = (tl n.toNat : Nat) := loB_nat (by omega)
  unfold numB
  generalize hd n.toNat = g at h2
  cases g with
  | nil => rw [e]; rfl
  | cons x l => rw [e]; exact if_pos (show ((x :: l).length + 1) * 1 ≤ 140737488355328 by omega)
end Go.Proofs.Ytpkgikchphgfaaa.Ic
/- Functions that are run. -/
namespace Go.Proofs.Ytpkgikchphgfaaa.Eng
open Go Go.RowKit
set_option linter.unusedVariables false
abbrev LpPath {U : Univ} (lp : Lp U) : Prop := ∀ (b : Nat) (s : TS U) (R : Type) (K : Exit → TS U → Option R) (r : R), lp.F b s K = some r → ∃ ex s', K ex s' = some r ∧ ∀ {R' : Type} (K' : Exit → TS U → Option R'), lp.F b s K' = K' ex s'
def rt {U : Univ} (e : Exit) (s : TS U) : Option (Exit × TS U) := some (e, s)
section
variable {P : Program} {X : Cx} {E : FuncId → Option (Spc X.U)}
def LpSub {U : Univ} (lp lp' : Lp U) : Prop := ∀ (b : Nat) (s : TS U) (p : Exit × TS U), lp.F b s rt = some p → lp'.F b s rt = some p
theorem evC_sub (hE : ∀ f S, E f = some S → SpecOk P f S) {an : Ann} {lp lp' : Lp X.U} (hP : LpPath lp) (hP' : LpPath lp') (hs : LpSub lp lp') : ∀ {c : Code} {b : Nat} {s : TS X.U} {p : Exit × TS X.U}, evC X E an lp c b s rt = some p → evC X E an lp' c b s rt = some p := by
  have key : ∀ {c : Code} {b : Nat} {s : TS X.U}, (∀ p, evC X E an lp c b s rt = some p → evC X E an lp' c b s rt = some p) → ∀ {R : Type} {K : Exit → TS X.U → Option R} {r : R}, evC X E an lp c b s K = some r → ∃ ex s', K ex s' = some r ∧ ∀ {R' : Type} (K' : Exit → TS X.U → Option R'), evC X E an lp' c b s K' = K' ex s' := by
    intro c b s h R K r hk
    obtain ⟨ex, s', h1, h2⟩ := evC_path hE hP hk
    obtain ⟨ex2, s2, h3, h4⟩ := evC_path hE hP' (h (ex, s') (h2 rt))
    cases h3
    exact ⟨ex, s', h1, h4⟩
  intro c
  induction c with
  | seq x y ihx ihy =>
    intro b s p h
    unfold evC at h
    obtain ⟨ex, s', h1, h2⟩ := key (fun p => ihx) h
    unfold evC
    rw [h2]
    cases ex <;> first | exact ihy h1 | exact h1
  | cond c x y ihx ihy =>
    intro b s p h
    unfold evC at h ⊢
    split at h <;> try (cases h; done)
    rename_i q hc
    cases q with
    | true => exact ihx h
    | false => exact ihy h
  | block id x ih =>
    intro b s p h
    unfold evC at h
    obtain ⟨ex, s', h1, h2⟩ := key (fun p => ih) h
    unfold evC
    rw [h2]
    exact h1
  | loop x ih =>
    intro b s p h
    unfold evC at h ⊢
    cases hn : evNorm (an.live b) s with
    | none => rw [hn] at h; cases h
    | some s1 =>
      rw [hn] at h
      exact hs _ _ _ h
  | _ => intro b s p h; exact h
theorem loopK_sub (hE : ∀ f S, E f = some S → SpecOk P f S) {an : Ann} {lp lp' : Lp X.U} (hP : LpPath lp) (hP' : LpPath lp') (hs : LpSub lp lp') {b : Nat} {c : Code} : ∀ (n : Nat) (s : TS X.U) (p : Exit × TS X.U), loopK X E an lp b c n s rt = some p → loopK X E an lp' b c n s rt = some p := by
  intro n
  induction n with
  | zero => intro s p h; cases h
  | succ n ih =>
    intro s p h
    unfold loopK at h ⊢
    obtain ⟨ex, s', h1, h2⟩ := evC_path hE hP h
    obtain ⟨ex2, s2, h3, h4⟩ := evC_path hE hP' (evC_sub hE hP hP' hs (h2 rt))
    cases h3
    rw [h4]
    cases ex with
    | normal =>
      dsimp only at h1 ⊢
      cases hn : evNorm (an.live b) s' with
      | none => rw [hn] at h1; cases h1
      | some s1 => rw [hn] at h1; exact ih _ _ h1
    | _ => exact h1
/-- A function's loops, run: so many rounds, so deep within each other. -/
def runLp (X : Cx) (E : FuncId → Option (Spc X.U)) (an : Ann) (fn : Func) (N : Nat) : Nat → Lp X.U
  | 0 => lp0
  | k + 1 => ⟨fun b s K => loopK X E an (runLp X E an fn N k) b (loopAt fn b) N s K⟩
theorem runLp_path (hE : ∀ f S, E f = some S → SpecOk P f S) {an : Ann} {fn : Func} {N : Nat} : ∀ k, LpPath (runLp X E an fn N k)
  | 0 => fun b s R K r h => by cases h
  | k + 1 => fun b s R K r h => loopK_path hE (runLp_path hE k) N s K h
theorem runLp_sub (hE : ∀ f S, E f = some S → SpecOk P f S) {an : Ann} {fn : Func} {N : Nat} : ∀ k, LpSub (runLp X E an fn N k) (runLp X E an fn N (k + 1))
  | 0 => fun b s p h => by cases h
  | k + 1 => fun b s p h => loopK_sub hE (runLp_path hE k) (runLp_path hE (k + 1)) (runLp_sub hE k) N s p h
theorem runLp_ok (hE : ∀ f S, E f = some S → SpecOk P f S) {an : Ann} {fn : Func} {N k : Nat} {c : Code} (hc : fn.body = some c) (hnd : nodupN ((loops c 0).map (·.1)) = true) : LpOk X E an (runLp X E an fn N k) (loops c 0) := by
  refine LpOk.of hc hnd (fun b s p hm hs => ?_) (runLp_path hE k)
  cases k with
  | zero => cases hs
  | succ k =>
    refine ⟨N, ?_⟩
    have h1 : loopK X E an (runLp X E an fn N k) b (loopAt fn b) N s rt = some p := hs
    have h2 := loopK_sub hE (runLp_path hE k) (runLp_path hE (k + 1)) (runLp_sub hE k) N s p h1
    unfold fnLoop
    rw [← loopK_R (lp := runLp X E an fn N (k + 1)) (fun q _ s K => rfl)]
    exact h2
/-- A function that may be run. -/
structure Runs (P : Program) (f : FuncId) (fn : Func) : Prop where
  at_ : P.funcs[f]? = some fn
  name : (fn.name == "runtime.NumGoroutine") = false
  code : (match fn.body with | some c => codeOk fn.ntmps c | none => false) = true
  nodup : (match fn.body with | some c => nodupN ((loops c 0).map (·.1)) | none => false) = true
/-- What is told of functions, and else they are run. -/
def runE (X : Cx) (E0 : FuncId → Option (Spc X.U)) (fs : FuncId → Option (Func × Ann)) (N k : Nat) : Nat → FuncId → Option (Spc X.U)
  | 0, f => E0 f
  | d + 1, f => match fs f with
    | some (fn, an) => some (specFn X (runE X E0 fs N k d) an (runLp X (runE X E0 fs N k d) an fn N k) fn)
    | none => E0 f
theorem runE_ok (hX : CxOk P X) (hm : P.follows .mixedOrders = true) {E0 : FuncId → Option (Spc X.U)} (h0 : ∀ f S, E0 f = some S → SpecOk P f S) {fs : FuncId → Option (Func × Ann)} (hf : ∀ f fn an, fs f = some (fn, an) → Runs P f fn) {N k : Nat} : ∀ d f S, runE X E0 fs N k d f = some S → SpecOk P f S
  | 0, f, S, h => h0 f S h
  | d + 1, f, S, h => by
    unfold runE at h
    split at h
    · rename_i fn an hfs
      cases h
      have hr := hf f fn an hfs
      refine specFn_ok hX hm (runE_ok hX hm h0 hf d) an _ hr.at_ hr.name hr.code fun c hc => runLp_ok (runE_ok hX hm h0 hf d) hc ?_
      have := hr.nodup
      rw [hc] at this
      exact this
    · exact h0 f S h
end
end Go.Proofs.Ytpkgikchphgfaaa.Eng
/- Numbers and texts as bytes: what they are, is told by the bytes. -/
namespace Go.Proofs.Ytpkgikchphgfaaa.Ic
open Go Go.RowKit Go.Proofs.Ytpkgikchphgfaaa.Eng
set_option linter.unusedVariables false
set_option linter.unusedSimpArgs false
def R64 (x : Int) : Prop := -9223372036854775808 ≤ x ∧ x < 9223372036854775808
theorem wi64 (z : Int) : IntKind.i64.wrap z = if z % 2 ^ 64 ≥ 2 ^ 63 then z % 2 ^ 64 - 2 ^ 64 else z % 2 ^ 64 := by
  simp [IntKind.wrap, IntKind.bits, IntKind.signed]
theorem R64.of_wrap (x : Int) : R64 (IntKind.i64.wrap x) := by
  unfold R64
  rw [wi64]
  split <;> omega
/-- A number with a sign, as one without. -/
def zig (n : Int) : Int := IntKind.u64.wrap ((BitVec.ofInt IntKind.u64.bits (IntKind.u64.wrap (IntKind.u64.wrap n * 2 ^ min (Int.toNat 1) IntKind.u64.bits)) ^^^ BitVec.ofInt IntKind.u64.bits (IntKind.u64.wrap (n.fdiv (2 ^ min (Int.toNat 63) IntKind.i64.bits)))).toNat : Nat)
end Go.Proofs.Ytpkgikchphgfaaa.Ic
/- Programs as bytes: rows of numbers, texts. -/
namespace Go.Proofs.Ytpkgikchphgfaaa.Ic
open Go Go.RowKit Go.Proofs.Ytpkgikchphgfaaa.Eng Go.Proofs.Ytpkgikchphgfaaa.Fl
set_option linter.unusedVariables false
set_option linter.unusedSimpArgs false
set_option maxRecDepth 20000
def Ia : FuncId → Option (Spc U)
  | 88 => some sNum
  | _ => none
theorem Ia_ok : ∀ f S, Ia f = some S → SpecOk Try.prog f S := fun f S h => by
  unfold Ia at h
  split at h
  · cases h; exact sNum_ok
  · cases h
theorem e90 (n : Int) : (evFn X Ia an0 lp0 Try.f90 [] [TV.v (Value.int IntKind.i64 n)] fun (o : List (TO X.U)) (v : TV X.U) => some (o, v)) = some ([], TV.v (Value.int IntKind.u64 (IntKind.u64.wrap (↑(BitVec.ofInt IntKind.u64.bits (IntKind.u64.wrap (IntKind.u64.wrap n * 2 ^ min (Int.toNat 1) IntKind.u64.bits)) ^^^ BitVec.ofInt IntKind.u64.bits (IntKind.u64.wrap (n.fdiv (2 ^ min (Int.toNat 63) IntKind.i64.bits)))).toNat : Int)))) := by kernel_rfl
theorem fold_rounds {α β T B : Type} {fnl : Nat → T → Option B} (S : β → Int → T) (Z : β → B) (l : List α) (I : β → Int → Prop) (step : β → α → β)
    (hin : ∀ (N : Nat) (g : β) (v : Int) (z : α), I g v → 0 ≤ v → v < (l.length : Int) → getI l v = some z → fnl (N + 1) (S g v) = fnl N (S (step g z) (v + 1)) ∧ I (step g z) (v + 1))
    (hout : ∀ (N : Nat) (g : β) (v : Int), I g v → ¬ v < (l.length : Int) → fnl (N + 1) (S g v) = some (Z g)) :
    ∀ (N : Nat) (g : β) (v : Int), I g v → 0 ≤ v → (l.length : Int) ≤ v + N → fnl (N + 1) (S g v) = some (Z ((l.drop v.toNat).foldl step g)) := by
  intro N
  induction N with
  | zero =>
    intro g v hI h0 h1
    rw [hout 0 g v hI (by omega), List.drop_eq_nil_of_le (by omega)]
    rfl
  | succ N ih =>
    intro g v hI h0 h1
    by_cases hv : v < (l.length : Int)
    · obtain ⟨x, hx, hx2⟩ := getI_lt (l := l) h0 hv
      obtain ⟨h2, h3⟩ := hin (N + 1) g v x hI h0 hv hx
      have ea : l.drop v.toNat = x :: l.drop (v.toNat + 1) := by
        rw [List.drop_eq_getElem_cons (by omega)]
        rw [List.getElem?_eq_getElem (by omega)] at hx2
        rw [Option.some.inj hx2]
      rw [h2, ih (step g x) (v + 1) h3 (by omega) (by omega), ea, show (v + 1).toNat = v.toNat + 1 by omega]
      rfl
    · rw [hout (N + 1) g v hI hv, List.drop_eq_nil_of_le (by omega)]
      rfl
def Sm (n : Nat) : Prop := n ≤ 4000000
instance (n : Nat) : Decidable (Sm n) := by unfold Sm; infer_instance
def rowS (b : ByteArray) (z : Int) : ByteArray := b ++ numB (IntKind.u64.wrap (IntKind.i64.wrap (z + 1)))
/-- A row's bytes. -/
def rowB (l : List Int) : ByteArray := l.foldl rowS (numB (IntKind.u64.wrap (l.length : Int)))
def Pre87 (l : List Int) (b : ByteArray) (n v : Int) : Prop := Sm l.length ∧ n = l.length ∧ v = 0 ∧ b = numB (IntKind.u64.wrap (l.length : Int))
instance (l : List Int) (b : ByteArray) (n v : Int) : Decidable (Pre87 l b n v) := by unfold Pre87; infer_instance
def dl87 (s : TS U) : Option (ByteArray × List Int × Int × Int) := match told s 24 [3, 10, 11, 12] 0, s.objs with
  | some [a0, a1, a2, a3], [] =>
    match a0 with
    | .v (.string b) =>
      match a1 with
      | .lst .i64 l =>
        match a2 with
        | .v (.int .i64 n) =>
          match a3 with
          | .v (.int .i64 v) =>
            some (b, l, n, v)
          | _ => none
        | _ => none
      | _ => none
    | _ => none
  | _, _ => none
def lc87 : LC U := .of dl87 (fun (b, l, n, v) => Pre87 l b n v) (.exit 0) (fun (b, l, n, v) => mkS 24 [(3, .v (.string (rowB l)))] [] 0)
def lp87 : Lp U := lpL [(0, lc87)]
theorem e87 (l : List Int) : (evFn X Ia an87 lp87 Try.f87 [] [TV.lst C.i64 l] fun (o : List (TO X.U)) (v : TV X.U) => some (o, v)) = if U64 (IntKind.u64.wrap (↑l.length : Int)) then if Pre87 l (numB (IntKind.u64.wrap (↑l.length : Int))) (↑l.length : Int) 0 then some ([], TV.v (Value.string (rowB l))) else none else none := by kernel_rfl
/-! ### A row of one's own -/
def textB (s : ByteArray) : ByteArray := numB (IntKind.u64.wrap (s.size : Int)) ++ s
def dIn (objs : List (TO U)) (args : List (TV U)) : Option (Int) := match objs, args with
  | [], [a0] =>
    match a0 with
    | .v (.int .i64 n) =>
      some n
    | _ => none
  | _, _ => none
theorem dIn_ok {objs : List (TO U)} {args : List (TV U)} {n : Int} (h : dIn objs args = some n) : objs = [] ∧ args = [.v (.int .i64 n)] := by
  unfold dIn at h
  repeat' split at h
  all_goals first | (cases h; done) | (cases h; exact ⟨rfl, rfl⟩)
def sSign : Spc U := .of dIn (fun _ => True) (fun _ => []) fun n => .v (.int .u64 (zig n))
theorem sSign_ok : SpecOk Try.prog 90 sSign := by
  refine fn_ok X_ok mixed Ia_ok an0 lp0 Try.func90 (by kernel_rfl) (by kernel_rfl) (lp0_ok (by kernel_rfl)) fun objs args n hx hp => ?_
  obtain ⟨rfl, rfl⟩ := dIn_ok hx
  exact e90 n
end Go.Proofs.Ytpkgikchphgfaaa.Ic
/- Programs as bytes: a whole one. -/
namespace Go.Proofs.Ytpkgikchphgfaaa.Ic
open Go Go.RowKit Go.Proofs.Ytpkgikchphgfaaa.Eng Go.Proofs.Ytpkgikchphgfaaa.Fl
set_option linter.unusedVariables false
set_option linter.unusedSimpArgs false
set_option maxRecDepth 20000
def headB (o : IRs) : ByteArray := rowB o.G ++ rowB o.F ++ rowB o.V ++ numB (IntKind.u64.wrap o.Main) ++ numB (IntKind.u64.wrap (o.Fs.length : Int))
def fnB (z : R69) : ByteArray := textB z.Name ++ rowB z.Params ++ numB (IntKind.u64.wrap z.Ret) ++ numB (IntKind.u64.wrap z.First) ++ numB (IntKind.u64.wrap z.Last)
def fnS (b : ByteArray) (z : R69) : ByteArray := b ++ fnB z
def fnsB (o : IRs) : ByteArray := o.Fs.foldl fnS (headB o)
def FnOk (z : R69) : Prop := z.Name.size ≤ 100000000 ∧ Sm z.Params.length
instance (z : R69) : Decidable (FnOk z) := by unfold FnOk; infer_instance
def PutOk (o : IRs) : Prop := (Sm o.G.length ∧ Sm o.F.length ∧ Sm o.V.length) ∧ (Sm o.Fs.length ∧ Sm o.C.length) ∧ (∀ z ∈ o.Fs, FnOk z) ∧ ∀ z ∈ o.C, Sm z.Args.length
instance (o : IRs) : Decidable (PutOk o) := by unfold PutOk; infer_instance
def Pre40 (o : IRs) (b : ByteArray) (n v : Int) : Prop := PutOk o ∧ n = o.Fs.length ∧ v = 0 ∧ b = headB o
instance (o : IRs) (b : ByteArray) (n v : Int) : Decidable (Pre40 o b n v) := by unfold Pre40; infer_instance
def Pre40l (o : IRs) (b : ByteArray) (l : List R69) (n v : Int) : Prop := Pre40 o b n v ∧ l = o.Fs
deriving instance DecidableEq for R69, R65
instance (o : IRs) (b : ByteArray) (l : List R69) (n v : Int) : Decidable (Pre40l o b l n v) := by unfold Pre40l; infer_instance
def insBG (zg : Int → Int) (z : R65) : ByteArray := rowB [z.Fn, z.At, z.Op, z.A, z.B, z.C, z.Do] ++ numB (zg z.N) ++ rowB z.Args
def insSG (zg : Int → Int) (b : ByteArray) (z : R65) : ByteArray := b ++ insBG zg z
def codeBG (zg : Int → Int) (b : ByteArray) (l : List R65) : ByteArray := l.foldl (insSG zg) b
def codeB : ByteArray → List R65 → ByteArray := codeBG zig
def Pre40b (l : List R65) (b : ByteArray) (n v : Int) : Prop := (Sm l.length ∧ ∀ z ∈ l, Sm z.Args.length) ∧ b.size ≤ 1000000000000000000 ∧ n = l.length ∧ v = 0
instance (l : List R65) (b : ByteArray) (n v : Int) : Decidable (Pre40b l b n v) := by unfold Pre40b; infer_instance
def putB (o : IRs) : ByteArray := codeB (fnsB o ++ numB (IntKind.u64.wrap (o.C.length : Int))) o.C
def dIr (objs : List (TO U)) (args : List (TV U)) : Option (IRs) := match objs, args with
  | [], [a0] =>
    match a0 with
    | .agg [q0, q1, q2, q3, q4, q5] =>
      match q0 with
      | .lst .i64 o_G =>
        match q1 with
        | .lst .i64 o_F =>
          match q2 with
          | .lst .i64 o_V =>
            match q3 with
            | .lst .t69 o_Fs =>
              match q4 with
              | .lst .t65 o_C =>
                match q5 with
                | .v (.int .i64 o_Main) =>
                  some (⟨o_G, o_F, o_V, o_Fs, o_C, o_Main⟩ : IRs)
                | _ => none
              | _ => none
            | _ => none
          | _ => none
        | _ => none
      | _ => none
    | _ => none
  | _, _ => none
def sPut : Spc U := .of dIr PutOk (fun _ => []) fun o => .v (.string (putB o))
end Go.Proofs.Ytpkgikchphgfaaa.Ic

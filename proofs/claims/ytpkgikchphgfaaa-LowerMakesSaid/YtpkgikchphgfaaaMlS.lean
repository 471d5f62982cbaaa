/- Texts of this claim, put together: part 19. -/
import Derived.Test.YtpkgikchphgfaaaMlR
/- The program's lowerer: its state, told; names, types; an instruction put. -/
namespace Go.Proofs.Ytpkgikchphgfaaa.Lw
open Go Go.RowKit Go.Proofs.Ytpkgikchphgfaaa.Eng Go.Proofs.Ytpkgikchphgfaaa.Fl
set_option linter.unusedVariables false
set_option linter.unusedSimpArgs false
set_option maxRecDepth 20000
abbrev Mp := List (ByteArray × Int)
def mO (l : Mp) : TO U := .mp .m_str_i64 l false
/-- What is lowered so far. The rows may be none yet. -/
structure LB where
  G : List Int
  F : List Int
  vB : Bool
  V : List Int
  fB : Bool
  Fs : List R69
  cB : Bool
  C : List R65
  M : Int
  mG : Mp
  mF : Mp
  mN : Mp
  mV : Mp
  fn : Int
def bn (b : Bool) : Nat := cond b 1 0
def flg (b : Bool) (k : Nat) : TV U := cond b (.full k) nl
def rwV (b : Bool) (l : List Int) : List (TO U) := cond b [.row .i64 l false] []
def rwF (b : Bool) (l : List R69) : List (TO U) := cond b [.row .t69 l false] []
def rwC (b : Bool) (l : List R65) : List (TO U) := cond b [.row .t65 l false] []
def ddC (b : Bool) (n : Nat) : List (TO U) := cond b [.dead n] []
def LB.cell (s : LB) (c : TV U) (j : Nat) : TO U := .cells [.lst .i64 s.G, .lst .i64 s.F, flg s.vB 1, flg s.fB (1 + bn s.vB), c, .v (.int .i64 s.M), .mp j, .mp (j + 1), .mp (j + 2), .mp (j + 3), .v (.int .i64 s.fn)] false
def LB.mps (s : LB) : List (TO U) := [mO s.mG, mO s.mF, mO s.mN, mO s.mV]
def inB (s : LB) : List (TO U) := s.cell (flg s.cB (1 + bn s.vB + bn s.fB)) (1 + bn s.vB + bn s.fB + bn s.cB) :: (rwV s.vB s.V ++ (rwF s.fB s.Fs ++ (rwC s.cB s.C ++ s.mps)))
/-- With other instructions, in a row of its own. -/
def outB (s : LB) (C : List R65) : List (TO U) := s.cell (.full (1 + bn s.vB + bn s.fB + bn s.cB + 4)) (1 + bn s.vB + bn s.fB + bn s.cB) :: (rwV s.vB s.V ++ (rwF s.fB s.Fs ++ (ddC s.cB s.C.length ++ (s.mps ++ [.row .t65 C false]))))
/-! ### What is told is one -/
def tkV (v : TV U) (k : Nat) (r : List (TO U)) : Option ((Bool × List Int) × Nat × List (TO U)) := match v with
  | .full j => if j = k then (match r with
    | .row .i64 xs false :: r' => some ((true, xs), k + 1, r')
    | _ => none) else none
  | .v (.slice none 0 0) => some ((false, []), k, r)
  | _ => none
def tkF (v : TV U) (k : Nat) (r : List (TO U)) : Option ((Bool × List R69) × Nat × List (TO U)) := match v with
  | .full j => if j = k then (match r with
    | .row .t69 xs false :: r' => some ((true, xs), k + 1, r')
    | _ => none) else none
  | .v (.slice none 0 0) => some ((false, []), k, r)
  | _ => none
def tkC (v : TV U) (k : Nat) (r : List (TO U)) : Option ((Bool × List R65) × Nat × List (TO U)) := match v with
  | .full j => if j = k then (match r with
    | .row .t65 xs false :: r' => some ((true, xs), k + 1, r')
    | _ => none) else none
  | .v (.slice none 0 0) => some ((false, []), k, r)
  | _ => none
theorem tkV_ok {v : TV U} {k : Nat} {r : List (TO U)} {b : Bool} {xs : List Int} {k' : Nat} {r' : List (TO U)} (h : tkV v k r = some ((b, xs), k', r')) : v = flg b k ∧ k' = k + bn b ∧ r = rwV b xs ++ r' ∧ (b = false → xs = []) := by
  unfold tkV at h
  split at h
  · split at h
    · rename_i e
      subst e
      split at h
      · cases h; exact ⟨rfl, rfl, rfl, fun h => by cases h⟩
      · cases h
    · cases h
  · cases h; exact ⟨rfl, rfl, rfl, fun _ => rfl⟩
  · cases h
theorem tkF_ok {v : TV U} {k : Nat} {r : List (TO U)} {b : Bool} {xs : List R69} {k' : Nat} {r' : List (TO U)} (h : tkF v k r = some ((b, xs), k', r')) : v = flg b k ∧ k' = k + bn b ∧ r = rwF b xs ++ r' ∧ (b = false → xs = []) := by
  unfold tkF at h
  split at h
  · split at h
    · rename_i e
      subst e
      split at h
      · cases h; exact ⟨rfl, rfl, rfl, fun h => by cases h⟩
      · cases h
    · cases h
  · cases h; exact ⟨rfl, rfl, rfl, fun _ => rfl⟩
  · cases h
theorem tkC_ok {v : TV U} {k : Nat} {r : List (TO U)} {b : Bool} {xs : List R65} {k' : Nat} {r' : List (TO U)} (h : tkC v k r = some ((b, xs), k', r')) : v = flg b k ∧ k' = k + bn b ∧ r = rwC b xs ++ r' ∧ (b = false → xs = []) := by
  unfold tkC at h
  split at h
  · split at h
    · rename_i e
      subst e
      split at h
      · cases h; exact ⟨rfl, rfl, rfl, fun h => by cases h⟩
      · cases h
    · cases h
  · cases h; exact ⟨rfl, rfl, rfl, fun _ => rfl⟩
  · cases h
def tk4 (a b c d k : Nat) (r : List (TO U)) : Option (Mp × Mp × Mp × Mp) := match r with
  | [.mp .m_str_i64 x false, .mp .m_str_i64 y false, .mp .m_str_i64 z false, .mp .m_str_i64 w false] => if a = k ∧ b = k + 1 ∧ c = k + 2 ∧ d = k + 3 then some (x, y, z, w) else none
  | _ => none
theorem tk4_ok {a b c d k : Nat} {r : List (TO U)} {x y z w : Mp} (h : tk4 a b c d k r = some (x, y, z, w)) : (a = k ∧ b = k + 1 ∧ c = k + 2 ∧ d = k + 3) ∧ r = [mO x, mO y, mO z, mO w] := by
  unfold tk4 at h
  split at h
  · split at h
    · rename_i e; cases h; exact ⟨e, rfl⟩
    · cases h
  · cases h
def dLB (objs : List (TO U)) : Option LB := match objs with
  | .cells [.lst .i64 G, .lst .i64 F, v, f, c, .v (.int .i64 M), .mp a, .mp b, .mp d, .mp e, .v (.int .i64 n)] false :: r => (tkV v 1 r).bind fun ((vB, V), k, r) => (tkF f k r).bind fun ((fB, Fs), k, r) => (tkC c k r).bind fun ((cB, C), k, r) => (tk4 a b d e k r).map fun (x, y, z, w) => ⟨G, F, vB, V, fB, Fs, cB, C, M, x, y, z, w, n⟩
  | _ => none
def LB.Ok (s : LB) : Prop := (s.vB = false → s.V = []) ∧ (s.fB = false → s.Fs = []) ∧ (s.cB = false → s.C = [])
theorem dLB_ok {objs : List (TO U)} {s : LB} (h : dLB objs = some s) : objs = inB s ∧ s.Ok := by
  unfold dLB at h
  split at h
  · obtain ⟨⟨⟨vB, V⟩, k, r⟩, h1, g1⟩ := Option.bind_eq_some_iff.1 h
    obtain ⟨⟨⟨fB, Fs⟩, k2, r2⟩, h2, g2⟩ := Option.bind_eq_some_iff.1 g1
    obtain ⟨⟨⟨cB, C⟩, k3, r3⟩, h3, g3⟩ := Option.bind_eq_some_iff.1 g2
    obtain ⟨⟨x, y, z, w⟩, h4, g4⟩ := Option.map_eq_some_iff.1 g3
    clear h g1 g2 g3
    subst g4
    obtain ⟨rfl, rfl, rfl, e1⟩ := tkV_ok h1
    obtain ⟨rfl, rfl, rfl, e2⟩ := tkF_ok h2
    obtain ⟨rfl, rfl, rfl, e3⟩ := tkC_ok h3
    obtain ⟨⟨rfl, rfl, rfl, rfl⟩, rfl⟩ := tk4_ok h4
    exact ⟨rfl, e1, e2, e3⟩
  · cases h
def dW {A : Type} (da : List (TO U) → List (TV U) → Option A) (objs : List (TO U)) (args : List (TV U)) : Option (LB × A) := (dLB objs).bind fun c => (da [] args).map fun x => (c, x)
theorem dW_ok {A : Type} {da : List (TO U) → List (TV U) → Option A} {objs : List (TO U)} {args : List (TV U)} {c : LB} {x : A} (h : dW da objs args = some (c, x)) : (objs = inB c ∧ c.Ok) ∧ da [] args = some x := by
  unfold dW at h
  obtain ⟨c', hc, h⟩ := Option.bind_eq_some_iff.1 h
  obtain ⟨y, hy, he⟩ := Option.map_eq_some_iff.1 h
  cases he
  exact ⟨dLB_ok hc, hy⟩
/-! ### The next one's number; an instruction put -/
def an62 : Ann := ⟨fun _ => 0, fun _ => 0, fun _ => [], false⟩
def an64 : Ann := ⟨fun _ => 0, fun _ => 0, fun _ => [], false⟩
def dR (objs : List (TO U)) (args : List (TV U)) : Option (Unit) := match objs, args with
  | [], [a0] =>
    match a0 with
    | .ref 0 0 0 =>
      some ()
    | _ => none
  | _, _ => none
theorem dR_ok {objs : List (TO U)} {args : List (TV U)} (h : dR objs args = some ()) : objs = [] ∧ args = [.ref 0 0 0] := by
  unfold dR at h
  repeat' split at h
  all_goals first | (cases h; done) | (cases h; exact ⟨rfl, rfl⟩)
def dRax (objs : List (TO U)) (args : List (TV U)) : Option (Int × R65) := match objs, args with
  | [], [a0, a1, a2] =>
    match a0 with
    | .ref 0 0 0 =>
      match a1 with
      | .v (.int .i64 a) =>
        match a2 with
        | .agg [q0, q1, q2, q3, q4, q5, q6, q7, q8] =>
          match q0 with
          | .v (.int .i64 x_Fn) =>
            match q1 with
            | .v (.int .i64 x_At) =>
              match q2 with
              | .v (.int .i64 x_Op) =>
                match q3 with
                | .v (.int .i64 x_A) =>
                  match q4 with
                  | .v (.int .i64 x_B) =>
                    match q5 with
                    | .v (.int .i64 x_C) =>
                      match q6 with
                      | .v (.int .i64 x_Do) =>
                        match q7 with
                        | .v (.int .i64 x_N) =>
                          match q8 with
                          | .lst .i64 x_Args =>
                            some (a, (⟨x_Fn, x_At, x_Op, x_A, x_B, x_C, x_Do, x_N, x_Args⟩ : R65))
                          | _ => none
                        | _ => none
                      | _ => none
                    | _ => none
                  | _ => none
                | _ => none
              | _ => none
            | _ => none
          | _ => none
        | _ => none
      | _ => none
    | _ => none
  | _, _ => none
theorem dRax_ok {objs : List (TO U)} {args : List (TV U)} {a : Int} {x : R65} (h : dRax objs args = some (a, x)) : objs = [] ∧ args = [.ref 0 0 0, .v (.int .i64 a), x.tv] := by
  unfold dRax at h
  repeat' split at h
  all_goals first | (cases h; done) | (cases h; exact ⟨rfl, rfl⟩)
def atI (n a : Int) (x : R65) : R65 := ⟨n, a, x.Op, x.A, x.B, x.C, x.Do, x.N, x.Args⟩
theorem e62 (s : LB) (hs : s.Ok) : evFn X (fun _ => none) an62 lp0 Try.f62 (inB s) [.ref 0 0 0] (fun o v => some (o, v)) = some (inB s, .v (.int .i64 s.C.length)) := by
  obtain ⟨G, F, vB, V, fB, Fs, cB, C, M, a, b, c, d, n⟩ := s
  obtain ⟨h1, h2, h3⟩ := hs
  cases cB with
  | true =>
    clear h1 h2 h3
    cases vB <;> cases fB <;> kernel_rfl
  | false =>
    obtain rfl : C = [] := h3 rfl
    clear h1 h2 h3
    cases vB <;> cases fB <;> (show _ = _; kernel_rfl)
theorem e64 (s : LB) (hs : s.Ok) (a : Int) (x : R65) : evFn X (fun _ => none) an64 lp0 Try.f64 (inB s) [.ref 0 0 0, .v (.int .i64 a), insV x] (fun o v => some (o, v)) = if (s.C.length + 1) * 88 ≤ 140737488355328 then some (outB s (s.C ++ [atI s.fn a x]), .v (.int .i64 (IntKind.i64.wrap ((s.C ++ [atI s.fn a x]).length - 1)))) else none := by
  obtain ⟨G, F, vB, V, fB, Fs, cB, C, M, a, b, c, d, n⟩ := s
  obtain ⟨h1, h2, h3⟩ := hs
  cases cB with
  | true =>
    clear h1 h2 h3
    cases vB <;> cases fB <;> kernel_rfl
  | false =>
    obtain rfl : C = [] := h3 rfl
    clear h1 h2 h3
    cases vB <;> cases fB <;> (show _ = _; kernel_rfl)
def LB.n (s : LB) : Nat := 1 + bn s.vB + bn s.fB + bn s.cB + 4
def sHere : Spc U := .of (dW dR) (fun _ => True) (fun (s, _) => inB s) fun (s, _) => .v (.int .i64 s.C.length)
theorem sHere_ok : SpecOk Try.prog 62 sHere := by
  refine fn_ok X_ok mixed E0_ok an62 lp0 Try.func62 (by kernel_rfl) (by kernel_rfl) (lp0_ok (by kernel_rfl)) fun objs args x hx hp => ?_
  obtain ⟨s, x⟩ := x
  obtain ⟨⟨rfl, hs⟩, hy⟩ := dW_ok hx
  obtain ⟨_, rfl⟩ := dR_ok hy
  exact e62 s hs
def sPutP : Spc U := .of (dW dRax) (fun (s, _) => Sn s.C.length) (fun (s, a, x) => outB s (s.C ++ [atI s.fn a x])) fun (s, _) => .v (.int .i64 s.C.length)
theorem sPutP_ok : SpecOk Try.prog 64 sPutP := by
  refine fn_ok X_ok mixed E0_ok an64 lp0 Try.func64 (by kernel_rfl) (by kernel_rfl) (lp0_ok (by kernel_rfl)) fun objs args x hx hp => ?_
  obtain ⟨s, a, x⟩ := x
  obtain ⟨⟨rfl, hs⟩, hy⟩ := dW_ok hx
  obtain ⟨_, rfl⟩ := dRax_ok hy
  dsimp only at hp ⊢
  unfold Sn at hp
  refine (e64 s hs a x).trans ?_
  rw [if_pos (by omega)]
  have e : ((s.C ++ [atI s.fn a x]).length : Int) - 1 = s.C.length := by rw [List.length_append]; simp only [List.length_singleton]; omega
  rw [e, wrap_i64 (by omega) (by omega)]
end Go.Proofs.Ytpkgikchphgfaaa.Lw
/- The program's lowerer: expressions. -/
namespace Go.Proofs.Ytpkgikchphgfaaa.Lw
open Go Go.RowKit Go.Proofs.Ytpkgikchphgfaaa.Eng Go.Proofs.Ytpkgikchphgfaaa.Fl
set_option linter.unusedVariables false
set_option linter.unusedSimpArgs false
set_option maxRecDepth 20000
def an162 : Ann := ⟨fun | 0 => 1825 | _ => 0, fun | 0 => 48 | _ => 0, fun _ => [], false⟩
def an149 : Ann := ⟨fun _ => 0, fun _ => 0, fun _ => [], false⟩
def an148 : Ann := ⟨fun _ => 0, fun _ => 0, fun _ => [], false⟩
def an114 : Ann := ⟨fun _ => 0, fun _ => 0, fun _ => [], false⟩
def ldW {A : Type} (da : TS U → Option A) (st : TS U) : Option (LB × A) := (dLB st.objs).bind fun s => if st.hin = s.n then (da ⟨st.slots, [], 0⟩).map fun x => (s, x) else none
theorem ldW_ok {A : Type} {da : TS U → Option A} {st : TS U} {s : LB} {x : A} (h : ldW da st = some (s, x)) : ∃ st0 : TS U, st = ⟨st0.slots, inB s, s.n⟩ ∧ st0.objs = [] ∧ st0.hin = 0 ∧ da st0 = some x ∧ s.Ok := by
  unfold ldW at h
  obtain ⟨c', hc, h⟩ := Option.bind_eq_some_iff.1 h
  split at h
  · rename_i hn
    obtain ⟨y, hy, he⟩ := Option.map_eq_some_iff.1 h
    cases he
    obtain ⟨h1, h2⟩ := dLB_ok hc
    refine ⟨⟨st.slots, [], 0⟩, ?_, rfl, rfl, hy, h2⟩
    obtain ⟨a, b, c⟩ := st
    dsimp only at h1 hn
    rw [h1, hn]
  · cases h
def LB.v (s : LB) (x : ByteArray) : Int := (aget keS s.mV x).getD 0
def LB.gl (s : LB) (x : ByteArray) : Int := (aget keS s.mG x).getD 0
def LB.fl (s : LB) (x : ByteArray) : Int := (aget keS s.mF x).getD 0
def LB.fu (s : LB) (x : ByteArray) : Int := (aget keS s.mN x).getD 0
/-! ### What is handed over to a call -/
def S162 (s : LB) (l : List ByteArray) (g : List Int) (v : Int) : TS U := mkS 25 [(0, .ref 0 0 0), (5, nvl g s.n), (8, .lst .str l), (9, .v (.int .i64 (l.length : Int))), (10, .v (.int .i64 v))] (inB s ++ rwI g) s.n
def Z162 (s : LB) (g : List Int) : TS U := mkS 25 [(5, nvl g s.n)] (inB s ++ rwI g) s.n
theorem r162 (lp : Lp U) (s : LB) (l : List ByteArray) (N : Nat) (g : List Int) (v : Int) : fnLoop X (fun _ => none) an162 lp Try.f162 0 N.succ (S162 s l g v) = cond (decide (v < (l.length : Int))) ((getI l v).bind fun (z : X.U.T .str) => if (g.length + 1) * 8 ≤ 140737488355328 then fnLoop X (fun _ => none) an162 lp Try.f162 0 N (S162 s l (g ++ [s.v z]) (IntKind.i64.wrap (v + 1))) else none) (some (.exit 0, Z162 s g)) := by
  obtain ⟨G, F, vB, V, fB, Fs, cB, C, M, a, b, c, d, n⟩ := s
  cases vB <;> cases fB <;> cases cB <;> cases g <;> kernel_rfl
def agS (s : LB) (g : List Int) (z : ByteArray) : List Int := g ++ [s.v z]
theorem agS_eq (s : LB) : ∀ (l : List ByteArray) (g : List Int), l.foldl (agS s) g = g ++ l.map s.v
  | [], g => by simp
  | x :: l, g => by rw [List.foldl_cons, agS_eq s l, agS, List.map_cons, List.append_assoc]; rfl
theorem rounds162 (lp : Lp U) (s : LB) {l : List ByteArray} (h : Sn l.length) : fnLoop X (fun _ => none) an162 lp Try.f162 0 (l.length + 1) (S162 s l [] 0) = some (.exit 0, Z162 s (l.map s.v)) := by
  unfold Sn at h
  have := Ic.fold_rounds (fnl := fnLoop X (fun _ => none) an162 lp Try.f162 0) (fun g v => S162 s l g v) (fun g => ((.exit 0, Z162 s g) : Exit × TS U)) l (fun g v => (g.length : Int) = v) (agS s) (fun N g v z hI h0 h1 hz => by
    refine ⟨?_, by unfold agS; rw [List.length_append]; simp only [List.length_singleton]; omega⟩
    rw [r162, decide_eq_true h1, hz, wrap_i64 (c := v + 1) (by omega) (by omega)]
    simp only [cond_true, Option.bind_some]
    rw [if_pos (by omega)]
    rfl) (fun N g v hI h1 => by rw [r162, decide_eq_false h1]; rfl) l.length [] 0 rfl (Int.le_refl 0) (by omega)
  rw [agS_eq] at this
  exact this
def dl162 (s : TS U) : Option (List ByteArray × Int × Int) := match told s 25 [0, 5, 8, 9, 10] 0, s.objs with
  | some [a0, a1, a2, a3, a4], [] =>
    match a0 with
    | .ref 0 0 0 =>
      match a1 with
      | .v (.slice none 0 0) =>
        match a2 with
        | .lst .str l =>
          match a3 with
          | .v (.int .i64 n) =>
            match a4 with
            | .v (.int .i64 v) =>
              some (l, n, v)
            | _ => none
          | _ => none
        | _ => none
      | _ => none
    | _ => none
  | _, _ => none
theorem dl162_ok {s : TS U} {l : List ByteArray} {n : Int} {v : Int} (h : dl162 s = some (l, n, v)) : s = mkS (U := U) 25 ([0, 5, 8, 9, 10].zip ([.ref 0 0 0, .v (.slice none 0 0), .lst .str l, .v (.int .i64 n), .v (.int .i64 v)] : List (TV U))) ([] : List (TO U)) 0 := by
  unfold dl162 at h
  split at h <;> try (cases h; done)
  rename_i ht ho
  have hs := told_ok ht
  rw [ho] at hs
  repeat' split at h
  all_goals first | (cases h; done) | (cases h; exact hs)
def Pre162 (l : List ByteArray) (n v : Int) : Prop := Sn l.length ∧ n = l.length ∧ v = 0
instance (l : List ByteArray) (n v : Int) : Decidable (Pre162 l n v) := by unfold Pre162; infer_instance
def lc162 : LC U := .ofG (ldW dl162) (fun (s, l, n, v) => Pre162 l n v) (fun (s, l, n, v) K => lsp (l.map s.v) fun g => K (.exit 0) (Z162 s g)) (fun _ => .exit 0) (fun (s, l, n, v) => Z162 s (l.map s.v)) fun (s, l, n, v) K => lsp_eq _ _
def lp162 : Lp U := lpL [(0, lc162)]
theorem lp162_ok : ∀ c, Try.f162.body = some c → LpOk X (fun _ => none) an162 lp162 (loops c 0) := lpL_ok (by kernel_rfl) fun b L hm st p hs => by
  cases hm with
  | tail _ h => cases h
  | head =>
    obtain ⟨⟨s, l, n, v⟩, hx, ⟨h1, rfl, rfl⟩, rfl⟩ := LC.ofG_some (fun x K => lsp_eq _ _) hs
    obtain ⟨st0, rfl, e1, e2, hy, hok⟩ := ldW_ok hx
    obtain rfl := dl162_ok hy
    have e : (S162 s l [] 0) = ⟨(mkS 25 [(0, .ref 0 0 0), (5, nl), (8, .lst .str l), (9, .v (.int .i64 (l.length : Int))), (10, .v (.int .i64 0))] [] 0 : TS U).slots, inB s, s.n⟩ := by
      unfold S162
      rw [show rwI [] = ([] : List (TO U)) from rfl, List.append_nil]
      rfl
    refine ⟨l.length + 1, ?_⟩
    rw [← rounds162 _ s h1, e]
    rfl
theorem e162 (s : LB) (l : List ByteArray) : evFn X (fun _ => none) an162 lp162 Try.f162 (inB s) [.ref 0 0 0, .lst .str l] (fun o v => some (o, wkL.f v)) = if Pre162 l l.length 0 then lsp (l.map s.v) fun g => some (inB s, .lst .i64 g) else none := by
  obtain ⟨G, F, vB, V, fB, Fs, cB, C, M, a, b, c, d, n⟩ := s
  cases vB <;> cases fB <;> cases cB <;> kernel_rfl
def dRl (objs : List (TO U)) (args : List (TV U)) : Option (List ByteArray) := match objs, args with
  | [], [a0, a1] =>
    match a0 with
    | .ref 0 0 0 =>
      match a1 with
      | .lst .str l =>
        some l
      | _ => none
    | _ => none
  | _, _ => none
theorem dRl_ok {objs : List (TO U)} {args : List (TV U)} {l : List ByteArray} (h : dRl objs args = some l) : objs = [] ∧ args = [.ref 0 0 0, .lst .str l] := by
  unfold dRl at h
  repeat' split at h
  all_goals first | (cases h; done) | (cases h; exact ⟨rfl, rfl⟩)
def sArgsB : Spc U := .of (dW dRl) (fun (s, l) => Sn l.length) (fun (s, l) => inB s) fun (s, l) => .lst .i64 (l.map s.v)
theorem sArgsB_ok : SpecOk Try.prog 162 sArgsB := by
  refine fn_okw wkL X_ok mixed E0_ok an162 lp162 Try.func162 (by kernel_rfl) (by kernel_rfl) lp162_ok fun objs args x hx hp => ?_
  obtain ⟨s, l⟩ := x
  obtain ⟨⟨rfl, hs⟩, hy⟩ := dW_ok hx
  obtain ⟨_, rfl⟩ := dRl_ok hy
  dsimp only at hp ⊢
  refine (e162 s l).trans ?_
  rw [if_pos ⟨hp, rfl, rfl⟩, lsp_eq]
end Go.Proofs.Ytpkgikchphgfaaa.Lw

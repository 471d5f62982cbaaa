/- Texts of this claim, put together: part 30. -/
import Derived.Test.YtpkgikchphgfaaaMwYD
import Derived.Test.YtpkgikchphgfaaaMwYE
/- Instructions of a function lead to instructions of it; its last one returns: the function. -/
namespace Go.Proofs.Ytpkgikchphgfaaa.Fl
open Go Go.RowKit Go.Proofs.Ytpkgikchphgfaaa.Eng
def R69.ob (x : R69) : TO U := .cells [.v (.string x.Name), .lst .i64 x.Params, .v (.int .i64 x.Ret), .v (.int .i64 x.First), .v (.int .i64 x.Last)] false
end Go.Proofs.Ytpkgikchphgfaaa.Fl
namespace Go.Proofs.Ytpkgikchphgfaaa.Lw
open Go Go.RowKit Go.Proofs.Ytpkgikchphgfaaa.Eng Go.Proofs.Ytpkgikchphgfaaa.Fl
set_option linter.unusedVariables false
set_option linter.unusedSimpArgs false
set_option maxRecDepth 20000
noncomputable def Lx : FuncId → Option (Spc U)
  | 21 => some sParse
  | 26 => some sAwake
  | 27 => some sCheck
  | 28 => some sLowP
  | _ => none
theorem Lx_ok : ∀ f S, Lx f = some S → SpecOk Try.prog f S := fun f S h => by
  unfold Lx at h
  split at h
  · cases h; exact sParse_ok
  · cases h; exact sAwake26_ok
  · cases h; exact sCheck_ok
  · cases h; exact sLowP_ok
  · cases h
def an7 : Ann := ⟨fun | 0 => 232 | 2 => 936 | _ => 0, fun | 0 => 108 | 2 => 492 | _ => 0, fun _ => [], false⟩
def S7a (t : TR) (o : IRs) (n i : Int) : TS U := mkS 146 [(3, .ref 0 0 0), (5, .ref 1 0 0), (6, .v (.int .i64 n)), (7, .v (.int .i64 i))] [t.ob, o.ob] 0
def E7a (t : TR) (o : IRs) (n : Int) : TS U := mkS 146 [(3, .ref 0 0 0), (5, .ref 1 0 0), (6, .v (.int .i64 n))] [t.ob, o.ob] 0
def S7b (t : TR) (o : IRs) (x : R69) (i k : Int) : TS U := mkS 146 [(3, .ref 0 0 0), (5, .ref 1 0 0), (7, .v (.int .i64 i)), (8, .ref 2 0 0), (9, .v (.int .i64 k))] [t.ob, o.ob, x.ob] 0
def E7b (t : TR) (o : IRs) (x : R69) (i : Int) : TS U := mkS 146 [(3, .ref 0 0 0), (5, .ref 1 0 0), (7, .v (.int .i64 i)), (8, .ref 2 0 0)] [t.ob, o.ob, x.ob] 0
def dl7a (s : TS U) : Option (TR × IRs × Int × Int) := match told s 146 [3, 5, 6, 7] 0, s.objs with
  | some [a0, a1, a2, a3], [o0, o1] =>
    match o0 with
    | .cells [q0, q1, q2] false =>
      match q0 with
      | .lst .t82 t_G =>
        match q1 with
        | .lst .t82 t_F =>
          match q2 with
          | .lst .t90 t_N =>
            match o1 with
            | .cells [q3, q4, q5, q6, q7, q8] false =>
              match q3 with
              | .lst .i64 o_G =>
                match q4 with
                | .lst .i64 o_F =>
                  match q5 with
                  | .lst .i64 o_V =>
                    match q6 with
                    | .lst .t69 o_Fs =>
                      match q7 with
                      | .lst .t65 o_C =>
                        match q8 with
                        | .v (.int .i64 o_Main) =>
                          match a0 with
                          | .ref 0 0 0 =>
                            match a1 with
                            | .ref 1 0 0 =>
                              match a2 with
                              | .v (.int .i64 n) =>
                                match a3 with
                                | .v (.int .i64 i) =>
                                  some ((⟨t_G, t_F, t_N⟩ : TR), (⟨o_G, o_F, o_V, o_Fs, o_C, o_Main⟩ : IRs), n, i)
                                | _ => none
                              | _ => none
                            | _ => none
                          | _ => none
                        | _ => none
                      | _ => none
                    | _ => none
                  | _ => none
                | _ => none
              | _ => none
            | _ => none
          | _ => none
        | _ => none
      | _ => none
    | _ => none
  | _, _ => none
theorem dl7a_ok {s : TS U} {t : TR} {o : IRs} {n : Int} {i : Int} (h : dl7a s = some (t, o, n, i)) : s = mkS (U := U) 146 ([3, 5, 6, 7].zip ([.ref 0 0 0, .ref 1 0 0, .v (.int .i64 n), .v (.int .i64 i)] : List (TV U))) ([t.ob, o.ob] : List (TO U)) 0 := by
  unfold dl7a at h
  split at h <;> try (cases h; done)
  rename_i ht ho
  have hs := told_ok ht
  rw [ho] at hs
  repeat' split at h
  all_goals first | (cases h; done) | (cases h; exact hs)
def dl7b (s : TS U) : Option (TR × IRs × R69 × Int × Int) := match told s 146 [3, 5, 7, 8, 9] 0, s.objs with
  | some [a0, a1, a2, a3, a4], [o0, o1, o2] =>
    match o0 with
    | .cells [q0, q1, q2] false =>
      match q0 with
      | .lst .t82 t_G =>
        match q1 with
        | .lst .t82 t_F =>
          match q2 with
          | .lst .t90 t_N =>
            match o1 with
            | .cells [q3, q4, q5, q6, q7, q8] false =>
              match q3 with
              | .lst .i64 o_G =>
                match q4 with
                | .lst .i64 o_F =>
                  match q5 with
                  | .lst .i64 o_V =>
                    match q6 with
                    | .lst .t69 o_Fs =>
                      match q7 with
                      | .lst .t65 o_C =>
                        match q8 with
                        | .v (.int .i64 o_Main) =>
                          match o2 with
                          | .cells [q9, q10, q11, q12, q13] false =>
                            match q9 with
                            | .v (.string x_Name) =>
                              match q10 with
                              | .lst .i64 x_Params =>
                                match q11 with
                                | .v (.int .i64 x_Ret) =>
                                  match q12 with
                                  | .v (.int .i64 x_First) =>
                                    match q13 with
                                    | .v (.int .i64 x_Last) =>
                                      match a0 with
                                      | .ref 0 0 0 =>
                                        match a1 with
                                        | .ref 1 0 0 =>
                                          match a2 with
                                          | .v (.int .i64 i) =>
                                            match a3 with
                                            | .ref 2 0 0 =>
                                              match a4 with
                                              | .v (.int .i64 k) =>
                                                some ((⟨t_G, t_F, t_N⟩ : TR), (⟨o_G, o_F, o_V, o_Fs, o_C, o_Main⟩ : IRs), (⟨x_Name, x_Params, x_Ret, x_First, x_Last⟩ : R69), i, k)
                                              | _ => none
                                            | _ => none
                                          | _ => none
                                        | _ => none
                                      | _ => none
                                    | _ => none
                                  | _ => none
                                | _ => none
                              | _ => none
                            | _ => none
                          | _ => none
                        | _ => none
                      | _ => none
                    | _ => none
                  | _ => none
                | _ => none
              | _ => none
            | _ => none
          | _ => none
        | _ => none
      | _ => none
    | _ => none
  | _, _ => none
theorem dl7b_ok {s : TS U} {t : TR} {o : IRs} {x : R69} {i : Int} {k : Int} (h : dl7b s = some (t, o, x, i, k)) : s = mkS (U := U) 146 ([3, 5, 7, 8, 9].zip ([.ref 0 0 0, .ref 1 0 0, .v (.int .i64 i), .ref 2 0 0, .v (.int .i64 k)] : List (TV U))) ([t.ob, o.ob, x.ob] : List (TO U)) 0 := by
  unfold dl7b at h
  split at h <;> try (cases h; done)
  rename_i ht ho
  have hs := told_ok ht
  rw [ho] at hs
  repeat' split at h
  all_goals first | (cases h; done) | (cases h; exact hs)
theorem r7b (lp : Lp U) (N : Nat) (t : Fl.TR) (o : IRs) (x : R69) (i : Int) (k : Int) : (fnLoop X Lx an7 lp Try.f7 2 N.succ (S7b t o x i k)) = bif decide (k < x.Last) then (getI o.C k).bind fun (z : X.U.T C.t65) => bif !decide (z.Fn = i) then some (Exit.ret, mkS 146 [(2, TV.v (Value.bool false)), (3, TV.ref 0 0 0), (5, TV.ref 1 0 0), (7, TV.v (Value.int IntKind.i64 i)), (8, TV.ref 2 0 0)] [t.ob, o.ob, x.ob] 0) else bif decide (z.Op = 17) then bif decide (z.B < x.First) then some (Exit.ret, mkS 146 [(2, TV.v (Value.bool false)), (3, TV.ref 0 0 0), (5, TV.ref 1 0 0), (7, TV.v (Value.int IntKind.i64 i)), (8, TV.ref 2 0 0)] [t.ob, o.ob, x.ob] 0) else bif decide (x.Last ≤ z.B) then some (Exit.ret, mkS 146 [(2, TV.v (Value.bool false)), (3, TV.ref 0 0 0), (5, TV.ref 1 0 0), (7, TV.v (Value.int IntKind.i64 i)), (8, TV.ref 2 0 0)] [t.ob, o.ob, x.ob] 0) else bif decide (z.Op = 18) then bif decide (z.C < x.First) then some (Exit.ret, mkS 146 [(2, TV.v (Value.bool false)), (3, TV.ref 0 0 0), (5, TV.ref 1 0 0), (7, TV.v (Value.int IntKind.i64 i)), (8, TV.ref 2 0 0)] [t.ob, o.ob, x.ob] 0) else bif decide (x.Last ≤ z.C) then some (Exit.ret, mkS 146 [(2, TV.v (Value.bool false)), (3, TV.ref 0 0 0), (5, TV.ref 1 0 0), (7, TV.v (Value.int IntKind.i64 i)), (8, TV.ref 2 0 0)] [t.ob, o.ob, x.ob] 0) else fnLoop X Lx an7 lp Try.f7 2 N (mkS 146 [(3, TV.ref 0 0 0), (5, TV.ref 1 0 0), (7, TV.v (Value.int IntKind.i64 i)), (8, TV.ref 2 0 0), (9, TV.v (Value.int IntKind.i64 (IntKind.i64.wrap (k + 1))))] [t.ob, o.ob, x.ob] 0) else fnLoop X Lx an7 lp Try.f7 2 N (mkS 146 [(3, TV.ref 0 0 0), (5, TV.ref 1 0 0), (7, TV.v (Value.int IntKind.i64 i)), (8, TV.ref 2 0 0), (9, TV.v (Value.int IntKind.i64 (IntKind.i64.wrap (k + 1))))] [t.ob, o.ob, x.ob] 0) else bif decide (z.Op = 18) then bif decide (z.B < x.First) then some (Exit.ret, mkS 146 [(2, TV.v (Value.bool false)), (3, TV.ref 0 0 0), (5, TV.ref 1 0 0), (7, TV.v (Value.int IntKind.i64 i)), (8, TV.ref 2 0 0)] [t.ob, o.ob, x.ob] 0) else bif decide (x.Last ≤ z.B) then some (Exit.ret, mkS 146 [(2, TV.v (Value.bool false)), (3, TV.ref 0 0 0), (5, TV.ref 1 0 0), (7, TV.v (Value.int IntKind.i64 i)), (8, TV.ref 2 0 0)] [t.ob, o.ob, x.ob] 0) else bif decide (z.Op = 18) then bif decide (z.C < x.First) then some (Exit.ret, mkS 146 [(2, TV.v (Value.bool false)), (3, TV.ref 0 0 0), (5, TV.ref 1 0 0), (7, TV.v (Value.int IntKind.i64 i)), (8, TV.ref 2 0 0)] [t.ob, o.ob, x.ob] 0) else bif decide (x.Last ≤ z.C) then some (Exit.ret, mkS 146 [(2, TV.v (Value.bool false)), (3, TV.ref 0 0 0), (5, TV.ref 1 0 0), (7, TV.v (Value.int IntKind.i64 i)), (8, TV.ref 2 0 0)] [t.ob, o.ob, x.ob] 0) else fnLoop X Lx an7 lp Try.f7 2 N (mkS 146 [(3, TV.ref 0 0 0), (5, TV.ref 1 0 0), (7, TV.v (Value.int IntKind.i64 i)), (8, TV.ref 2 0 0), (9, TV.v (Value.int IntKind.i64 (IntKind.i64.wrap (k + 1))))] [t.ob, o.ob, x.ob] 0) else fnLoop X Lx an7 lp Try.f7 2 N (mkS 146 [(3, TV.ref 0 0 0), (5, TV.ref 1 0 0), (7, TV.v (Value.int IntKind.i64 i)), (8, TV.ref 2 0 0), (9, TV.v (Value.int IntKind.i64 (IntKind.i64.wrap (k + 1))))] [t.ob, o.ob, x.ob] 0) else bif decide (z.Op = 18) then bif decide (z.C < x.First) then some (Exit.ret, mkS 146 [(2, TV.v (Value.bool false)), (3, TV.ref 0 0 0), (5, TV.ref 1 0 0), (7, TV.v (Value.int IntKind.i64 i)), (8, TV.ref 2 0 0)] [t.ob, o.ob, x.ob] 0) else bif decide (x.Last ≤ z.C) then some (Exit.ret, mkS 146 [(2, TV.v (Value.bool false)), (3, TV.ref 0 0 0), (5, TV.ref 1 0 0), (7, TV.v (Value.int IntKind.i64 i)), (8, TV.ref 2 0 0)] [t.ob, o.ob, x.ob] 0) else fnLoop X Lx an7 lp Try.f7 2 N (mkS 146 [(3, TV.ref 0 0 0), (5, TV.ref 1 0 0), (7, TV.v (Value.int IntKind.i64 i)), (8, TV.ref 2 0 0), (9, TV.v (Value.int IntKind.i64 (IntKind.i64.wrap (k + 1))))] [t.ob, o.ob, x.ob] 0) else fnLoop X Lx an7 lp Try.f7 2 N (mkS 146 [(3, TV.ref 0 0 0), (5, TV.ref 1 0 0), (7, TV.v (Value.int IntKind.i64 i)), (8, TV.ref 2 0 0), (9, TV.v (Value.int IntKind.i64 (IntKind.i64.wrap (k + 1))))] [t.ob, o.ob, x.ob] 0) else some (Exit.exit 2, mkS 146 [(3, TV.ref 0 0 0), (5, TV.ref 1 0 0), (7, TV.v (Value.int IntKind.i64 i)), (8, TV.ref 2 0 0)] [t.ob, o.ob, x.ob] 0) := by kernel_rfl
/-- What is left of a function's instructions is in order. -/
def P2 (C : List R65) (x : R69) (i k : Int) : Prop := 0 ≤ k ∧ x.Last ≤ 4000000 ∧ ∀ j, k ≤ j → j < x.Last → ∃ y, getI C j = some y ∧ y.Fn = i ∧ (y.Op = 17 ∨ y.Op = 18 → x.First ≤ y.B ∧ y.B < x.Last) ∧ (y.Op = 18 → x.First ≤ y.C ∧ y.C < x.Last)
noncomputable instance (C : List R65) (x : R69) (i k : Int) : Decidable (P2 C x i k) := Classical.propDecidable _
theorem rounds7b (lp : Lp U) (t : TR) (o : IRs) (x : R69) (i : Int) : ∀ (n : Nat) (k : Int), x.Last ≤ k + n → P2 o.C x i k → fnLoop X Lx an7 lp Try.f7 2 (n + 1) (S7b t o x i k) = some (.exit 2, E7b t o x i) := by
  intro n
  induction n with
  | zero =>
    intro k hn hp
    rw [r7b, decide_eq_false (by omega)]
    rfl
  | succ n ih =>
    intro k hn hp
    obtain ⟨h0, hl, hp⟩ := hp
    by_cases hk : k < x.Last
    · obtain ⟨y, hy, h1, h2, h3⟩ := hp k (Int.le_refl k) hk
      have hw : IntKind.i64.wrap (k + 1) = k + 1 := wrap_i64 (by omega) (by omega)
      have hr := ih (k + 1) (by omega) ⟨by omega, hl, fun j j0 j1 => hp j (by omega) j1⟩
      rw [r7b, decide_eq_true hk, hy, Option.bind_some, decide_eq_true h1, hw]
      by_cases h17 : y.Op = 17
      · obtain ⟨a1, a2⟩ := h2 (.inl h17)
        rw [decide_eq_true h17, decide_eq_false (show ¬ y.B < x.First by omega), decide_eq_false (show ¬ x.Last ≤ y.B by omega), decide_eq_false (show ¬ y.Op = 18 by omega)]
        exact hr
      · by_cases h18 : y.Op = 18
        · obtain ⟨a1, a2⟩ := h2 (.inr h18)
          obtain ⟨b1, b2⟩ := h3 h18
          rw [decide_eq_false h17, decide_eq_true h18, decide_eq_false (show ¬ y.B < x.First by omega), decide_eq_false (show ¬ x.Last ≤ y.B by omega), decide_eq_false (show ¬ y.C < x.First by omega), decide_eq_false (show ¬ x.Last ≤ y.C by omega)]
          exact hr
        · rw [decide_eq_false h17, decide_eq_false h18]
          exact hr
    · rw [r7b, decide_eq_false hk]
      rfl
noncomputable def lc7b : LC U := .of dl7b (fun (t, o, x, i, k) => P2 o.C x i k) (.exit 2) fun (t, o, x, i, k) => E7b t o x i
theorem r7a (N : Nat) (t : Fl.TR) (o : IRs) (n : Int) (i : Int) : (fnLoop X Lx an7 (lpL [(2, lc7b)]) Try.f7 0 N.succ (S7a t o n i)) = bif decide (i < (↑o.Fs.length : Int)) then (getI o.Fs i).bind fun (z : X.U.T C.t69) => bif !decide (z.First = n) then some (Exit.ret, mkS 146 [(2, TV.v (Value.bool false)), (3, TV.ref 0 0 0), (5, TV.ref 1 0 0), (6, TV.v (Value.int IntKind.i64 n))] [t.ob, o.ob] 0) else bif decide (z.Last ≤ z.First) then some (Exit.ret, mkS 146 [(2, TV.v (Value.bool false)), (3, TV.ref 0 0 0), (5, TV.ref 1 0 0), (6, TV.v (Value.int IntKind.i64 n))] [t.ob, o.ob] 0) else (getI o.C (IntKind.i64.wrap (z.Last - 1))).bind fun (z_1 : X.U.T C.t65) => bif !decide (z_1.Op = 16) then some (Exit.ret, mkS 146 [(2, TV.v (Value.bool false)), (3, TV.ref 0 0 0), (5, TV.ref 1 0 0), (6, TV.v (Value.int IntKind.i64 n))] [t.ob, o.ob] 0) else if P2 o.C z i z.First then fnLoop X Lx an7 (lpL [(2, lc7b)]) Try.f7 0 N (mkS 146 [(3, TV.ref 0 0 0), (5, TV.ref 1 0 0), (6, TV.v (Value.int IntKind.i64 z.Last)), (7, TV.v (Value.int IntKind.i64 (IntKind.i64.wrap (i + 1))))] [t.ob, o.ob] 0) else none else some (Exit.exit 0, mkS 146 [(3, TV.ref 0 0 0), (5, TV.ref 1 0 0), (6, TV.v (Value.int IntKind.i64 n))] [t.ob, o.ob] 0) := by kernel_rfl
/-- What is left of a program's functions is in order. -/
def P0 (o : IRs) (n i : Int) : Prop := 0 ≤ i ∧ o.Fs.length ≤ 4000000 ∧ o.C.length ≤ 4000000 ∧ Ways o.C (o.Fs.drop i.toNat) i n
noncomputable instance (o : IRs) (n i : Int) : Decidable (P0 o n i) := Classical.propDecidable _
theorem rounds7a (t : TR) (o : IRs) : ∀ (r : List R69) (n i : Int), o.Fs.drop i.toNat = r → P0 o n i → fnLoop X Lx an7 (lpL [(2, lc7b)]) Try.f7 0 (r.length + 1) (S7a t o n i) = some (.exit 0, E7a t o o.C.length)
  | [], n, i, hr, hp => by
    obtain ⟨h0, hF, hC, hW⟩ := hp
    have hlen := congrArg List.length hr
    rw [List.length_drop, List.length_nil] at hlen
    rw [hr] at hW
    have hW : n = o.C.length := hW
    rw [List.length_nil, r7a, decide_eq_false (by omega), hW]
    rfl
  | x :: r, n, i, hr, hp => by
    obtain ⟨h0, hF, hC, hW⟩ := hp
    have hlen := congrArg List.length hr
    rw [List.length_drop, List.length_cons] at hlen
    have hd : o.Fs.drop i.toNat = o.Fs[i.toNat] :: o.Fs.drop (i.toNat + 1) := List.drop_eq_getElem_cons (by omega)
    rw [hr] at hW
    rw [hd] at hr
    injection hr with hx hr
    obtain ⟨⟨w1, w2, w3, w4, ⟨y, w5, w6⟩, w7⟩, w8⟩ := hW
    have hg : getI o.Fs i = some x := by unfold getI; rw [if_pos h0, List.getElem?_eq_getElem (by omega), hx]
    have hw : IntKind.i64.wrap (i + 1) = i + 1 := wrap_i64 (by omega) (by omega)
    have hw2 : IntKind.i64.wrap (x.Last - 1) = x.Last - 1 := wrap_i64 (by omega) (by omega)
    have hn : (i + 1).toNat = i.toNat + 1 := by omega
    have ih := rounds7a t o r x.Last (i + 1) (by rw [hn]; exact hr) ⟨by omega, hF, hC, by rw [hn, hr]; exact w8⟩
    rw [List.length_cons, r7a, decide_eq_true (show i < (o.Fs.length : Int) by omega), hg, Option.bind_some, decide_eq_true w1, decide_eq_false (show ¬ x.Last ≤ x.First by omega), hw2, w5, Option.bind_some, decide_eq_true w6, if_pos (show P2 o.C x i x.First from ⟨w2, by omega, w7⟩), hw]
    exact ih
noncomputable def lc7a : LC U := .of dl7a (fun (t, o, n, i) => P0 o n i) (.exit 0) fun (t, o, n, i) => E7a t o o.C.length
noncomputable def lp7 : Lp U := lpL [(0, lc7a), (2, lc7b)]
theorem lp7_ok : ∀ c, Try.f7.body = some c → LpOk X Lx an7 lp7 (loops c 0) := lpL_ok (by kernel_rfl) fun b L hm st p hs => by
  cases hm with
  | head =>
    obtain ⟨⟨t, o, n, i⟩, hx, hp, rfl⟩ := LC.of_some hs
    obtain rfl := dl7a_ok hx
    have h := rounds7a t o _ n i rfl hp
    refine ⟨(o.Fs.drop i.toNat).length + 1, ?_⟩
    rw [← h]
    unfold fnLoop
    rw [← loopK_R (X := X) (E := Lx) (lp := lpL [(0, lc7a), (2, lc7b)]) (lp' := lpL [(0, lc7a), (2, lc7b)]) (fun q hq s K => rfl), ← loopK_R (X := X) (E := Lx) (lp := lpL [(0, lc7a), (2, lc7b)]) (lp' := lpL [(2, lc7b)]) (ag_of (bs := [2]) (by kernel_rfl) fun i hi R s K => by
      cases hi with
      | head => rfl
      | tail _ hi => cases hi)]
    rfl
  | tail _ hm => cases hm with
    | head =>
      obtain ⟨⟨t, o, x, i, k⟩, hx, hp, rfl⟩ := LC.of_some hs
      obtain rfl := dl7b_ok hx
      exact ⟨_, rounds7b _ t o x i (x.Last - k).toNat k (by omega) hp⟩
    | tail _ hm => cases hm
theorem lwP_bd : ∀ (r : List R90) (s : LB) (v : Int), s.Ok → Bd s r → Bd (lwP r s v) []
  | [], s, v, hs, hb => hb
  | z :: r, s, v, hs, hb => by
    obtain ⟨h1, h2⟩ := nxt_ok (v := v) hs hb
    rw [lwP]
    exact lwP_bd r _ _ h1 h2
theorem lowP_p0 {t : TR} (ht : TrOk t) : P0 (lowP t) 0 0 := by
  obtain ⟨t1, t2, t3⟩ := ht
  obtain ⟨b1, b2, b3⟩ := lwP_bd t.N (s0 t) 0 ⟨fun _ => rfl, fun _ => rfl, fun _ => rfl⟩ ⟨by show 0 + _ ≤ _; omega, by show 0 + _ ≤ _; omega, by show 0 + _ ≤ _; omega⟩
  have b2 : (lowP t).C.length + 3 * 0 ≤ 3000000 := b2
  have b3 : (lowP t).Fs.length + 0 ≤ 1000000 := b3
  exact ⟨Int.le_refl 0, by omega, by omega, (lowP_ways t).1⟩
theorem e7 (s : ByteArray) : (evFn X Lx an7 lp7 Try.f7 [] [TV.v (Value.string s)] fun (o : List (TO X.U)) (v : TV X.U) => some (o, v)) = (cutB s none (some (if 3000 < (↑s.size : Int) then 3000 else (↑s.size : Int)))).bind fun (c : ByteArray) => if c.size ≤ 100000 then bif !decide ((parseP c).snd.fst = 0) then some ([], TV.v (Value.bool true)) else if TrOk (parseP c).fst then bif !decide ((chk (parseP c).fst).Code = 0) then some ([], TV.v (Value.bool true)) else if TrOk (parseP c).fst then if P0 (lowP (parseP c).fst) 0 0 then bif decide ((↑(lowP (parseP c).fst).C.length : Int) = (↑(lowP (parseP c).fst).C.length : Int)) then some ([], TV.v (Value.bool (decide ((↑(lowP (parseP c).fst).Fs.length : Int) = (↑(parseP c).fst.N.length : Int))))) else some ([], TV.v (Value.bool false)) else none else none else none else none := by kernel_rfl
def dStr (objs : List (TO U)) (args : List (TV U)) : Option (ByteArray) := match objs, args with
  | [], [a0] =>
    match a0 with
    | .v (.string s) =>
      some s
    | _ => none
  | _, _ => none
theorem dStr_ok {objs : List (TO U)} {args : List (TV U)} {s : ByteArray} (h : dStr objs args = some s) : objs = [] ∧ args = [.v (.string s)] := by
  unfold dStr at h
  repeat' split at h
  all_goals first | (cases h; done) | (cases h; exact ⟨rfl, rfl⟩)
def sLaw7 : Spc U := .of dStr (fun _ => True) (fun _ => []) fun _ => .v (.bool true)
theorem sLaw7_ok : SpecOk Try.prog 7 sLaw7 := by
  refine fn_ok X_ok mixed Lx_ok an7 lp7 Try.func7 (by kernel_rfl) (by kernel_rfl) lp7_ok fun objs args s hx hp => ?_
  obtain ⟨rfl, rfl⟩ := dStr_ok hx
  dsimp only
  obtain ⟨h1, h2⟩ := cut3_ok s
  have h3 := parse_ok h2
  refine (e7 s).trans ?_
  rw [h1, Option.bind_some, if_pos h2]
  cases decide ((parseP (cut3 s)).2.1 = 0) with
  | false => rfl
  | true =>
    simp only [Bool.not_true, cond_false]
    rw [if_pos h3]
    by_cases hc : (chk (parseP (cut3 s)).1).Code = 0
    · rw [decide_eq_true hc, if_pos h3, if_pos (lowP_p0 h3), (lowP_ways (parseP (cut3 s)).1).2]
      simp
    · rw [decide_eq_false hc]
      rfl
end Go.Proofs.Ytpkgikchphgfaaa.Lw

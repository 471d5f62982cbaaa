/- Texts of this claim, put together: part 7. -/
import Derived.Test.YtpkgikchphgfaaaMlE
import Derived.Test.YtpkgikchphgfaaaMlF
/- The references' parser: functions. -/
namespace Go.Proofs.Ytpkgikchphgfaaa.Fl
open Go Go.RowKit Go.Proofs.Ytpkgikchphgfaaa.Eng
set_option linter.unusedVariables false
set_option linter.unusedSimpArgs false
set_option maxRecDepth 20000
noncomputable def El : FuncId → Option (Spc U)
  | 46 => some sDecl
  | 97 => some sStmts
  | f => Ed f
theorem El_ok : ∀ f S, El f = some S → SpecOk Try.prog f S := fun f S h => by
  unfold El at h
  split at h
  · cases h; exact sDecl_ok
  · cases h; exact sStmts_ok
  · exact Ed_ok _ _ h
def an54 : Ann := ⟨fun | 0 => 240 | 2 => 240 | _ => 0, fun | 0 => 240 | 2 => 240 | _ => 0, fun _ => [], false⟩
def z90 : TO U := .cells [.v (.string bz), .v (.int .i64 0), nl, .v (.int .i64 0), nl, nl] false
def S54N (q : PS) (s : ByteArray) (a : Int) : TS U := mkS 100 [(4, .ref 0 0 0), (5, .ref 1 0 0), (6, .ref 2 0 0), (7, .ref 3 0 0)] [ob0, z90, .cells [.v (.string s), .v (.int .i64 a), nl, .v (.int .i64 0), nl, nl] false, q.ob] 0
def S54R (q : PS) (s : ByteArray) (a : Int) (ps : List R82) : TS U := mkS 100 [(4, .ref 0 0 0), (5, .ref 1 0 0), (6, .ref 2 0 0), (7, .ref 4 0 0)] [ob0, z90, .cells [.v (.string s), .v (.int .i64 a), .full 3, .v (.int .i64 0), nl, nl] false, .row .t82 ps false, q.ob] 0
def S54 (q : PS) (s : ByteArray) (a : Int) : List R82 → TS U
  | [] => S54N q s a
  | x :: l => S54R q s a (x :: l)
theorem r54 (lp : Lp U) (N : Nat) (q : PS) (s : ByteArray) (a : Int) (ps : List R82) : fnLoop X El an54 lp Try.f48 0 N.succ (S54 q s a ps) =
    cond (decide (q.Code = 0)) (if q.Ok then cond (!q.is ⟨#[41]⟩) (cond (decide (0 < (ps.length : Int)))
      (if q.Ok then (if (q.must ⟨#[44]⟩).Ok then (if ((q.must ⟨#[44]⟩).most ps.length 8).Ok then (if (ps.length + 1) * 32 ≤ 140737488355328 then fnLoop X El an54 lp Try.f48 0 N (S54 ((q.must ⟨#[44]⟩).most ps.length 8).decl.1 s a (ps ++ [((q.must ⟨#[44]⟩).most ps.length 8).decl.2])) else none) else none) else none) else none)
      (if q.Ok then (if (q.most ps.length 8).Ok then (if (ps.length + 1) * 32 ≤ 140737488355328 then fnLoop X El an54 lp Try.f48 0 N (S54 (q.most ps.length 8).decl.1 s a (ps ++ [(q.most ps.length 8).decl.2])) else none) else none) else none))
      (some (.exit 0, S54 q s a ps)) else none) (some (.exit 0, S54 q s a ps)) := by cases ps <;> kernel_rfl
/-- Declarations, one behind the other. -/
def declsL : Nat → PS → List R82 → PS × List R82
  | 0, q, out => (q, out)
  | N + 1, q, out => cond (decide (q.Code = 0)) (cond (!q.is ⟨#[41]⟩)
    (declsL N ((cond (decide (0 < (out.length : Int))) (q.must ⟨#[44]⟩) q).most out.length 8).decl.1 (out ++ [((cond (decide (0 < (out.length : Int))) (q.must ⟨#[44]⟩) q).most out.length 8).decl.2])) (q, out)) (q, out)
theorem declsL_ok : ∀ (N : Nat) (q : PS) (out : List R82), q.Ok → (declsL N q out).1.Ok ∧ (declsL N q out).2.length + (declsL N q out).1.left ≤ out.length + q.left := by
  intro N
  induction N with
  | zero => intro q out h; exact ⟨h, Nat.le_refl _⟩
  | succ N ih =>
    intro q out h
    rw [declsL]
    by_cases hc : q.Code = 0
    · rw [decide_eq_true hc, cond_true]
      have hpos := h.left_pos hc
      cases !q.is ⟨#[41]⟩ with
      | false => exact ⟨h, Nat.le_refl _⟩
      | true =>
        simp only [cond_true]
        obtain ⟨q1, e1⟩ : ∃ q1, cond (decide (0 < (out.length : Int))) (q.must ⟨#[44]⟩) q = q1 := ⟨_, rfl⟩
        have h1 : q1.Ok ∧ q1.left ≤ q.left := by
          rw [← e1]
          cases decide (0 < (out.length : Int)) with
          | false => exact ⟨h, Nat.le_refl _⟩
          | true => exact ⟨h.must _, Nat.le_trans (h.must_lt _) (Nat.sub_le _ _)⟩
        rw [e1]
        have h2 := (h1.1.most (out.length : Int) 8).decl
        have h3 := (h1.1.most (out.length : Int) 8).decl_lt
        have h4 := q1.most_left out.length 8
        obtain ⟨a, c⟩ := ih _ (out ++ [(q1.most out.length 8).decl.2]) h2
        rw [List.length_append] at c
        simp only [List.length_singleton] at c
        exact ⟨a, by omega⟩
    · rw [decide_eq_false hc]
      exact ⟨h, Nat.le_refl _⟩
theorem rounds54 (lp : Lp U) (s : ByteArray) (a : Int) : ∀ (N : Nat) (q : PS) (out : List R82), q.Ok → q.left ≤ N → out.length + N ≤ 2000000 →
    fnLoop X El an54 lp Try.f48 0 (N + 1) (S54 q s a out) = some (.exit 0, S54 (declsL (N + 1) q out).1 s a (declsL (N + 1) q out).2) := by
  intro N
  induction N with
  | zero =>
    intro q out h hl hn
    have hc := h.left_zero (by omega)
    rw [r54, declsL, decide_eq_false hc]
    rfl
  | succ N ih =>
    intro q out h hl hn
    rw [r54, declsL]
    by_cases hc : q.Code = 0
    · rw [decide_eq_true hc, if_pos h]
      have hpos := h.left_pos hc
      cases q.is ⟨#[41]⟩ with
      | true => rfl
      | false =>
        have hlen : (out.length + 1) * 32 ≤ 140737488355328 := by omega
        have key : ∀ q1 : PS, q1.Ok → q1.left ≤ q.left → fnLoop X El an54 lp Try.f48 0 (N + 1) (S54 (q1.most out.length 8).decl.1 s a (out ++ [(q1.most out.length 8).decl.2])) = some (.exit 0, S54 (declsL (N + 1) (q1.most out.length 8).decl.1 (out ++ [(q1.most out.length 8).decl.2])).1 s a (declsL (N + 1) (q1.most out.length 8).decl.1 (out ++ [(q1.most out.length 8).decl.2])).2) := fun q1 h1 hl1 => by
          have h3 := (h1.most (out.length : Int) 8).decl_lt
          have h4 := q1.most_left out.length 8
          exact ih _ _ (h1.most _ _).decl (by omega) (by rw [List.length_append]; simp only [List.length_singleton]; omega)
        simp only [Bool.not_false, cond_true, h, h.must, h.most, PS.Ok.most (h.must _), if_true, hlen]
        cases decide (0 < (out.length : Int)) with
        | true => exact key _ (h.must _) (Nat.le_trans (h.must_lt _) (Nat.sub_le _ _))
        | false => exact key _ h (Nat.le_refl _)
    · rw [decide_eq_false hc]
      rfl
def dl54 (s : TS U) : Option (Int × Int × Int × Int × Int × ByteArray × Int × Int × ByteArray × Int × Int × PS) := match told s 100 [4, 5, 6, 7] 0, s.objs with
  | some [a0, a1, a2, a3], [o0, o1, o2, o3] =>
    match o0 with
    | .cells [q0, q1, q2, q3, q4, q5] false =>
      match q0 with
      | .v (.slice none 0 0) =>
        match q1 with
        | .v (.int .i64 z1) =>
          match q2 with
          | .v (.int .i64 z2) =>
            match q3 with
            | .v (.int .i64 z3) =>
              match q4 with
              | .v (.int .i64 z4) =>
                match q5 with
                | .v (.int .i64 z5) =>
                  match o1 with
                  | .cells [q6, q7, q8, q9, q10, q11] false =>
                    match q6 with
                    | .v (.string y1) =>
                      match q7 with
                      | .v (.int .i64 y2) =>
                        match q8 with
                        | .v (.slice none 0 0) =>
                          match q9 with
                          | .v (.int .i64 y3) =>
                            match q10 with
                            | .v (.slice none 0 0) =>
                              match q11 with
                              | .v (.slice none 0 0) =>
                                match o2 with
                                | .cells [q12, q13, q14, q15, q16, q17] false =>
                                  match q12 with
                                  | .v (.string s1) =>
                                    match q13 with
                                    | .v (.int .i64 s2) =>
                                      match q14 with
                                      | .v (.slice none 0 0) =>
                                        match q15 with
                                        | .v (.int .i64 s3) =>
                                          match q16 with
                                          | .v (.slice none 0 0) =>
                                            match q17 with
                                            | .v (.slice none 0 0) =>
                                              match o3 with
                                              | .cells [q18, q19, q20, q21, q22, q23] false =>
                                                match q18 with
                                                | .lst .t53 q_L =>
                                                  match q19 with
                                                  | .v (.int .i64 q_At) =>
                                                    match q20 with
                                                    | .v (.int .i64 q_Deep) =>
                                                      match q21 with
                                                      | .v (.int .i64 q_Many) =>
                                                        match q22 with
                                                        | .v (.int .i64 q_Code) =>
                                                          match q23 with
                                                          | .v (.int .i64 q_FAt) =>
                                                            match a0 with
                                                            | .ref 0 0 0 =>
                                                              match a1 with
                                                              | .ref 1 0 0 =>
                                                                match a2 with
                                                                | .ref 2 0 0 =>
                                                                  match a3 with
                                                                  | .ref 3 0 0 =>
                                                                    some (z1, z2, z3, z4, z5, y1, y2, y3, s1, s2, s3, (⟨q_L, q_At, q_Deep, q_Many, q_Code, q_FAt⟩ : PS))
                                                                  | _ => none
                                                                | _ => none
                                                              | _ => none
                                                            | _ => none
                                                          | _ => none
                                                        | _ => none
                                                      | _ => none
                                                    | _ => none
                                                  | _ => none
                                                | _ => none
                                              | _ => none
                                            | _ => none
                                          | _ => none
                                        | _ => none
                                      | _ => none
                                    | _ => none
                                  | _ => none
                                | _ => none
                              | _ => none
                            | _ => none
                          | _ => none
                        | _ => none
                      | _ => none
                    | _ => none
                  | _ => none
                | _ => none
              | _ => none
            | _ => none
          | _ => none
        | _ => none
      | _ => none
    | _ => none
  | _, _ => none
theorem dl54_ok {s : TS U} {z1 : Int} {z2 : Int} {z3 : Int} {z4 : Int} {z5 : Int} {y1 : ByteArray} {y2 : Int} {y3 : Int} {s1 : ByteArray} {s2 : Int} {s3 : Int} {q : PS} (h : dl54 s = some (z1, z2, z3, z4, z5, y1, y2, y3, s1, s2, s3, q)) : s = mkS (U := U) 100 ([4, 5, 6, 7].zip ([.ref 0 0 0, .ref 1 0 0, .ref 2 0 0, .ref 3 0 0] : List (TV U))) ([.cells [.v (.slice none 0 0), .v (.int .i64 z1), .v (.int .i64 z2), .v (.int .i64 z3), .v (.int .i64 z4), .v (.int .i64 z5)] false, .cells [.v (.string y1), .v (.int .i64 y2), .v (.slice none 0 0), .v (.int .i64 y3), .v (.slice none 0 0), .v (.slice none 0 0)] false, .cells [.v (.string s1), .v (.int .i64 s2), .v (.slice none 0 0), .v (.int .i64 s3), .v (.slice none 0 0), .v (.slice none 0 0)] false, q.ob] : List (TO U)) 0 := by
  unfold dl54 at h
  split at h <;> try (cases h; done)
  rename_i ht ho
  have hs := told_ok ht
  rw [ho] at hs
  repeat' split at h
  all_goals first | (cases h; done) | (cases h; exact hs)
def Pre54 (q : PS) (z1 z2 z3 z4 z5 : Int) (y1 : ByteArray) (y2 y3 s3 : Int) : Prop := q.Ok ∧ (z1 = 0 ∧ z2 = 0 ∧ z3 = 0 ∧ z4 = 0 ∧ z5 = 0) ∧ y1 = bz ∧ y2 = 0 ∧ y3 = 0 ∧ s3 = 0
noncomputable instance (q : PS) (z1 z2 z3 z4 z5 : Int) (y1 : ByteArray) (y2 y3 s3 : Int) : Decidable (Pre54 q z1 z2 z3 z4 z5 y1 y2 y3 s3) := Classical.propDecidable _
def declsP (q : PS) : PS × List R82 := declsL (q.left + 1) q []
noncomputable def lc54 : LC U := .ofG dl54 (fun (z1, z2, z3, z4, z5, y1, y2, y3, s1, s2, s3, q) => Pre54 q z1 z2 z3 z4 z5 y1 y2 y3 s3)
  (fun (z1, z2, z3, z4, z5, y1, y2, y3, s1, s2, s3, q) K => lsp (declsP q).2 fun ps => K (.exit 0) (S54 (declsP q).1 s1 s2 ps)) (fun _ => .exit 0)
  (fun (z1, z2, z3, z4, z5, y1, y2, y3, s1, s2, s3, q) => S54 (declsP q).1 s1 s2 (declsP q).2) fun x K => lsp_eq _ _
/-! ### Variables -/
def S54bNN (q : PS) (s : ByteArray) (a r : Int) : TS U := mkS 100 [(4, .ref 0 0 0), (5, .ref 1 0 0), (6, .ref 2 0 0), (7, .ref 3 0 0)] [ob0, z90, .cells [.v (.string s), .v (.int .i64 a), nl, .v (.int .i64 r), nl, nl] false, q.ob] 0
def S54bRN (q : PS) (s : ByteArray) (a r : Int) (ps : List R82) : TS U := mkS 100 [(4, .ref 0 0 0), (5, .ref 1 0 0), (6, .ref 2 0 0), (7, .ref 4 0 0)] [ob0, z90, .cells [.v (.string s), .v (.int .i64 a), .full 3, .v (.int .i64 r), nl, nl] false, .row .t82 ps false, q.ob] 0
def S54bNR (q : PS) (s : ByteArray) (a r : Int) (vs : List R82) : TS U := mkS 100 [(4, .ref 0 0 0), (5, .ref 1 0 0), (6, .ref 2 0 0), (7, .ref 4 0 0)] [ob0, z90, .cells [.v (.string s), .v (.int .i64 a), nl, .v (.int .i64 r), .full 3, nl] false, .row .t82 vs false, q.ob] 0
def S54bRR (q : PS) (s : ByteArray) (a r : Int) (ps vs : List R82) : TS U := mkS 100 [(4, .ref 0 0 0), (5, .ref 1 0 0), (6, .ref 2 0 0), (7, .ref 5 0 0)] [ob0, z90, .cells [.v (.string s), .v (.int .i64 a), .full 3, .v (.int .i64 r), .full 4, nl] false, .row .t82 ps false, .row .t82 vs false, q.ob] 0
end Go.Proofs.Ytpkgikchphgfaaa.Fl
/- The references' parser: functions' variables. -/
namespace Go.Proofs.Ytpkgikchphgfaaa.Fl
open Go Go.RowKit Go.Proofs.Ytpkgikchphgfaaa.Eng
set_option linter.unusedVariables false
set_option linter.unusedSimpArgs false
set_option maxRecDepth 20000
def S54b (q : PS) (s : ByteArray) (a r : Int) : List R82 → List R82 → TS U
  | [], [] => S54bNN q s a r
  | x :: l, [] => S54bRN q s a r (x :: l)
  | [], y :: m => S54bNR q s a r (y :: m)
  | x :: l, y :: m => S54bRR q s a r (x :: l) (y :: m)
theorem r54b (lp : Lp U) (N : Nat) (q : PS) (s : ByteArray) (a r : Int) (ps vs : List R82) : fnLoop X El an54 lp Try.f48 2 N.succ (S54b q s a r ps vs) =
    if q.Ok then cond (q.is ⟨#[118, 97, 114]⟩) (if q.Ok then (if q.next.Ok then (if (q.next.most vs.length 128).Ok then (if (q.next.most vs.length 128).decl.1.Ok then (if (vs.length + 1) * 32 ≤ 140737488355328 then fnLoop X El an54 lp Try.f48 2 N (S54b ((q.next.most vs.length 128).decl.1.must ⟨#[59]⟩) s a r ps (vs ++ [(q.next.most vs.length 128).decl.2])) else none) else none) else none) else none) else none)
      (some (.exit 2, S54b q s a r ps vs)) else none := by cases ps <;> cases vs <;> kernel_rfl
def varsL : Nat → PS → List R82 → PS × List R82
  | 0, q, out => (q, out)
  | N + 1, q, out => cond (q.is ⟨#[118, 97, 114]⟩) (varsL N ((q.next.most out.length 128).decl.1.must ⟨#[59]⟩) (out ++ [(q.next.most out.length 128).decl.2])) (q, out)
theorem varsL_ok : ∀ (N : Nat) (q : PS) (out : List R82), q.Ok → (varsL N q out).1.Ok ∧ (varsL N q out).2.length + (varsL N q out).1.left ≤ out.length + q.left := by
  intro N
  induction N with
  | zero => intro q out h; exact ⟨h, Nat.le_refl _⟩
  | succ N ih =>
    intro q out h
    rw [varsL]
    cases hv : q.is ⟨#[118, 97, 114]⟩ with
    | false => exact ⟨h, Nat.le_refl _⟩
    | true =>
      have hpos := h.is_pos hv
      have h1 := h.next_lt (PS.is_kind hv)
      have h2 := (h.next.most (out.length : Int) 128).decl_lt
      have h3 := q.next.most_left out.length 128
      have h4 := (h.next.most (out.length : Int) 128).decl
      have h5 := h4.must_lt ⟨#[59]⟩
      obtain ⟨a, c⟩ := ih _ (out ++ [(q.next.most out.length 128).decl.2]) (h4.must ⟨#[59]⟩)
      rw [List.length_append] at c
      simp only [List.length_singleton] at c
      rw [cond_true]
      exact ⟨a, by omega⟩
theorem rounds54b (lp : Lp U) (s : ByteArray) (a r : Int) (ps : List R82) : ∀ (N : Nat) (q : PS) (out : List R82), q.Ok → q.left ≤ N → out.length + N ≤ 2000000 →
    fnLoop X El an54 lp Try.f48 2 (N + 1) (S54b q s a r ps out) = some (.exit 2, S54b (varsL (N + 1) q out).1 s a r ps (varsL (N + 1) q out).2) := by
  intro N
  induction N with
  | zero =>
    intro q out h hl hn
    rw [r54b, varsL, if_pos h]
    cases hv : q.is ⟨#[118, 97, 114]⟩ with
    | false => rfl
    | true => have := h.is_pos hv; omega
  | succ N ih =>
    intro q out h hl hn
    rw [r54b, varsL, if_pos h]
    cases hv : q.is ⟨#[118, 97, 114]⟩ with
    | false => rfl
    | true =>
      have hlen : (out.length + 1) * 32 ≤ 140737488355328 := by omega
      have hpos := h.is_pos hv
      have h1 := h.next_lt (PS.is_kind hv)
      have h2 := (h.next.most (out.length : Int) 128).decl_lt
      have h3 := q.next.most_left out.length 128
      have h4 := (h.next.most (out.length : Int) 128).decl
      have h5 := h4.must_lt ⟨#[59]⟩
      simp only [cond_true, h, h.next, h.next.most, h4, if_true, hlen]
      exact ih _ _ (h4.must _) (by omega) (by rw [List.length_append]; simp only [List.length_singleton]; omega)
def dbN (s : TS U) : Option (Int × Int × Int × Int × Int × ByteArray × Int × Int × ByteArray × Int × Int × PS) := match told s 100 [4, 5, 6, 7] 0, s.objs with
  | some [a0, a1, a2, a3], [o0, o1, o2, o3] =>
    match o0 with
    | .cells [q0, q1, q2, q3, q4, q5] false =>
      match q0 with
      | .v (.slice none 0 0) =>
        match q1 with
        | .v (.int .i64 z1) =>
          match q2 with
          | .v (.int .i64 z2) =>
            match q3 with
            | .v (.int .i64 z3) =>
              match q4 with
              | .v (.int .i64 z4) =>
                match q5 with
                | .v (.int .i64 z5) =>
                  match o1 with
                  | .cells [q6, q7, q8, q9, q10, q11] false =>
                    match q6 with
                    | .v (.string y1) =>
                      match q7 with
                      | .v (.int .i64 y2) =>
                        match q8 with
                        | .v (.slice none 0 0) =>
                          match q9 with
                          | .v (.int .i64 y3) =>
                            match q10 with
                            | .v (.slice none 0 0) =>
                              match q11 with
                              | .v (.slice none 0 0) =>
                                match o2 with
                                | .cells [q12, q13, q14, q15, q16, q17] false =>
                                  match q12 with
                                  | .v (.string s1) =>
                                    match q13 with
                                    | .v (.int .i64 s2) =>
                                      match q14 with
                                      | .v (.slice none 0 0) =>
                                        match q15 with
                                        | .v (.int .i64 s3) =>
                                          match q16 with
                                          | .v (.slice none 0 0) =>
                                            match q17 with
                                            | .v (.slice none 0 0) =>
                                              match o3 with
                                              | .cells [q18, q19, q20, q21, q22, q23] false =>
                                                match q18 with
                                                | .lst .t53 q_L =>
                                                  match q19 with
                                                  | .v (.int .i64 q_At) =>
                                                    match q20 with
                                                    | .v (.int .i64 q_Deep) =>
                                                      match q21 with
                                                      | .v (.int .i64 q_Many) =>
                                                        match q22 with
                                                        | .v (.int .i64 q_Code) =>
                                                          match q23 with
                                                          | .v (.int .i64 q_FAt) =>
                                                            match a0 with
                                                            | .ref 0 0 0 =>
                                                              match a1 with
                                                              | .ref 1 0 0 =>
                                                                match a2 with
                                                                | .ref 2 0 0 =>
                                                                  match a3 with
                                                                  | .ref 3 0 0 =>
                                                                    some (z1, z2, z3, z4, z5, y1, y2, y3, s1, s2, s3, (⟨q_L, q_At, q_Deep, q_Many, q_Code, q_FAt⟩ : PS))
                                                                  | _ => none
                                                                | _ => none
                                                              | _ => none
                                                            | _ => none
                                                          | _ => none
                                                        | _ => none
                                                      | _ => none
                                                    | _ => none
                                                  | _ => none
                                                | _ => none
                                              | _ => none
                                            | _ => none
                                          | _ => none
                                        | _ => none
                                      | _ => none
                                    | _ => none
                                  | _ => none
                                | _ => none
                              | _ => none
                            | _ => none
                          | _ => none
                        | _ => none
                      | _ => none
                    | _ => none
                  | _ => none
                | _ => none
              | _ => none
            | _ => none
          | _ => none
        | _ => none
      | _ => none
    | _ => none
  | _, _ => none
theorem dbN_ok {s : TS U} {z1 : Int} {z2 : Int} {z3 : Int} {z4 : Int} {z5 : Int} {y1 : ByteArray} {y2 : Int} {y3 : Int} {s1 : ByteArray} {s2 : Int} {s3 : Int} {q : PS} (h : dbN s = some (z1, z2, z3, z4, z5, y1, y2, y3, s1, s2, s3, q)) : s = mkS (U := U) 100 ([4, 5, 6, 7].zip ([.ref 0 0 0, .ref 1 0 0, .ref 2 0 0, .ref 3 0 0] : List (TV U))) ([.cells [.v (.slice none 0 0), .v (.int .i64 z1), .v (.int .i64 z2), .v (.int .i64 z3), .v (.int .i64 z4), .v (.int .i64 z5)] false, .cells [.v (.string y1), .v (.int .i64 y2), .v (.slice none 0 0), .v (.int .i64 y3), .v (.slice none 0 0), .v (.slice none 0 0)] false, .cells [.v (.string s1), .v (.int .i64 s2), .v (.slice none 0 0), .v (.int .i64 s3), .v (.slice none 0 0), .v (.slice none 0 0)] false, q.ob] : List (TO U)) 0 := by
  unfold dbN at h
  split at h <;> try (cases h; done)
  rename_i ht ho
  have hs := told_ok ht
  rw [ho] at hs
  repeat' split at h
  all_goals first | (cases h; done) | (cases h; exact hs)
def dbR (s : TS U) : Option (Int × Int × Int × Int × Int × ByteArray × Int × Int × ByteArray × Int × Int × List R82 × PS) := match told s 100 [4, 5, 6, 7] 0, s.objs with
  | some [a0, a1, a2, a3], [o0, o1, o2, o3, o4] =>
    match o0 with
    | .cells [q0, q1, q2, q3, q4, q5] false =>
      match q0 with
      | .v (.slice none 0 0) =>
        match q1 with
        | .v (.int .i64 z1) =>
          match q2 with
          | .v (.int .i64 z2) =>
            match q3 with
            | .v (.int .i64 z3) =>
              match q4 with
              | .v (.int .i64 z4) =>
                match q5 with
                | .v (.int .i64 z5) =>
                  match o1 with
                  | .cells [q6, q7, q8, q9, q10, q11] false =>
                    match q6 with
                    | .v (.string y1) =>
                      match q7 with
                      | .v (.int .i64 y2) =>
                        match q8 with
                        | .v (.slice none 0 0) =>
                          match q9 with
                          | .v (.int .i64 y3) =>
                            match q10 with
                            | .v (.slice none 0 0) =>
                              match q11 with
                              | .v (.slice none 0 0) =>
                                match o2 with
                                | .cells [q12, q13, q14, q15, q16, q17] false =>
                                  match q12 with
                                  | .v (.string s1) =>
                                    match q13 with
                                    | .v (.int .i64 s2) =>
                                      match q14 with
                                      | .full 3 =>
                                        match q15 with
                                        | .v (.int .i64 s3) =>
                                          match q16 with
                                          | .v (.slice none 0 0) =>
                                            match q17 with
                                            | .v (.slice none 0 0) =>
                                              match o3 with
                                              | .row .t82 ps false =>
                                                match o4 with
                                                | .cells [q18, q19, q20, q21, q22, q23] false =>
                                                  match q18 with
                                                  | .lst .t53 q_L =>
                                                    match q19 with
                                                    | .v (.int .i64 q_At) =>
                                                      match q20 with
                                                      | .v (.int .i64 q_Deep) =>
                                                        match q21 with
                                                        | .v (.int .i64 q_Many) =>
                                                          match q22 with
                                                          | .v (.int .i64 q_Code) =>
                                                            match q23 with
                                                            | .v (.int .i64 q_FAt) =>
                                                              match a0 with
                                                              | .ref 0 0 0 =>
                                                                match a1 with
                                                                | .ref 1 0 0 =>
                                                                  match a2 with
                                                                  | .ref 2 0 0 =>
                                                                    match a3 with
                                                                    | .ref 4 0 0 =>
                                                                      some (z1, z2, z3, z4, z5, y1, y2, y3, s1, s2, s3, ps, (⟨q_L, q_At, q_Deep, q_Many, q_Code, q_FAt⟩ : PS))
                                                                    | _ => none
                                                                  | _ => none
                                                                | _ => none
                                                              | _ => none
                                                            | _ => none
                                                          | _ => none
                                                        | _ => none
                                                      | _ => none
                                                    | _ => none
                                                  | _ => none
                                                | _ => none
                                              | _ => none
                                            | _ => none
                                          | _ => none
                                        | _ => none
                                      | _ => none
                                    | _ => none
                                  | _ => none
                                | _ => none
                              | _ => none
                            | _ => none
                          | _ => none
                        | _ => none
                      | _ => none
                    | _ => none
                  | _ => none
                | _ => none
              | _ => none
            | _ => none
          | _ => none
        | _ => none
      | _ => none
    | _ => none
  | _, _ => none
theorem dbR_ok {s : TS U} {z1 : Int} {z2 : Int} {z3 : Int} {z4 : Int} {z5 : Int} {y1 : ByteArray} {y2 : Int} {y3 : Int} {s1 : ByteArray} {s2 : Int} {s3 : Int} {ps : List R82} {q : PS} (h : dbR s = some (z1, z2, z3, z4, z5, y1, y2, y3, s1, s2, s3, ps, q)) : s = mkS (U := U) 100 ([4, 5, 6, 7].zip ([.ref 0 0 0, .ref 1 0 0, .ref 2 0 0, .ref 4 0 0] : List (TV U))) ([.cells [.v (.slice none 0 0), .v (.int .i64 z1), .v (.int .i64 z2), .v (.int .i64 z3), .v (.int .i64 z4), .v (.int .i64 z5)] false, .cells [.v (.string y1), .v (.int .i64 y2), .v (.slice none 0 0), .v (.int .i64 y3), .v (.slice none 0 0), .v (.slice none 0 0)] false, .cells [.v (.string s1), .v (.int .i64 s2), .full 3, .v (.int .i64 s3), .v (.slice none 0 0), .v (.slice none 0 0)] false, .row .t82 ps false, q.ob] : List (TO U)) 0 := by
  unfold dbR at h
  split at h <;> try (cases h; done)
  rename_i ht ho
  have hs := told_ok ht
  rw [ho] at hs
  repeat' split at h
  all_goals first | (cases h; done) | (cases h; exact hs)
structure A54 where
  z : Int × Int × Int × Int × Int × ByteArray × Int × Int
  s : ByteArray
  a : Int
  r : Int
  ps : List R82
  q : PS
  b : Bool
def db : TS U → Option A54 := orD (fun s => (dbN s).map fun (z1, z2, z3, z4, z5, y1, y2, y3, s1, s2, s3, q) => ⟨(z1, z2, z3, z4, z5, y1, y2, y3), s1, s2, s3, [], q, true⟩) (fun s => (dbR s).map fun (z1, z2, z3, z4, z5, y1, y2, y3, s1, s2, s3, ps, q) => ⟨(z1, z2, z3, z4, z5, y1, y2, y3), s1, s2, s3, ps, q, !ps.isEmpty⟩)
def Pre54b (q : PS) (z1 z2 z3 z4 z5 : Int) (y1 : ByteArray) (y2 y3 : Int) (b : Bool) : Prop := q.Ok ∧ (z1 = 0 ∧ z2 = 0 ∧ z3 = 0 ∧ z4 = 0 ∧ z5 = 0) ∧ (y1 = bz ∧ y2 = 0 ∧ y3 = 0) ∧ b = true
noncomputable instance (q : PS) (z1 z2 z3 z4 z5 : Int) (y1 : ByteArray) (y2 y3 : Int) (b : Bool) : Decidable (Pre54b q z1 z2 z3 z4 z5 y1 y2 y3 b) := Classical.propDecidable _
def varsP (q : PS) : PS × List R82 := varsL (q.left + 1) q []
theorem db_ok {s : TS U} {x : A54} (h : db s = some x) (hp : Pre54b x.q x.z.1 x.z.2.1 x.z.2.2.1 x.z.2.2.2.1 x.z.2.2.2.2.1 x.z.2.2.2.2.2.1 x.z.2.2.2.2.2.2.1 x.z.2.2.2.2.2.2.2 x.b) : s = S54b x.q x.s x.a x.r x.ps [] := by
  rcases orD_some h with h | h
  · rw [Option.map_eq_some_iff] at h
    obtain ⟨⟨z1, z2, z3, z4, z5, y1, y2, y3, s1, s2, s3, q⟩, h1, rfl⟩ := h
    obtain ⟨_, ⟨rfl, rfl, rfl, rfl, rfl⟩, ⟨rfl, rfl, rfl⟩, _⟩ := hp
    exact dbN_ok h1
  · rw [Option.map_eq_some_iff] at h
    obtain ⟨⟨z1, z2, z3, z4, z5, y1, y2, y3, s1, s2, s3, ps, q⟩, h1, rfl⟩ := h
    obtain ⟨_, ⟨rfl, rfl, rfl, rfl, rfl⟩, ⟨rfl, rfl, rfl⟩, hb⟩ := hp
    cases ps with
    | nil => cases hb
    | cons x l => exact dbR_ok h1
noncomputable def lc54b : LC U := .ofG db (fun x => Pre54b x.q x.z.1 x.z.2.1 x.z.2.2.1 x.z.2.2.2.1 x.z.2.2.2.2.1 x.z.2.2.2.2.2.1 x.z.2.2.2.2.2.2.1 x.z.2.2.2.2.2.2.2 x.b)
  (fun x K => lsp (varsP x.q).2 fun vs => lsp x.ps fun ps => K (.exit 2) (S54b (varsP x.q).1 x.s x.a x.r ps vs)) (fun _ => .exit 2)
  (fun x => S54b (varsP x.q).1 x.s x.a x.r x.ps (varsP x.q).2) fun x K => by rw [lsp_eq, lsp_eq]
noncomputable def lp54 : Lp U := lpL [(0, lc54), (2, lc54b)]
theorem lp54_ok : ∀ c, Try.f48.body = some c → LpOk X El an54 lp54 (loops c 0) := lpL_ok (by kernel_rfl) fun b L hm st p hs => by
  cases hm with
  | head =>
    obtain ⟨⟨z1, z2, z3, z4, z5, y1, y2, y3, s1, s2, s3, q⟩, hx, ⟨h1, ⟨rfl, rfl, rfl, rfl, rfl⟩, rfl, rfl, rfl, rfl⟩, rfl⟩ := LC.ofG_some (fun x K => lsp_eq _ _) hs
    obtain rfl := dl54_ok hx
    have h2 := h1.left_le
    have h4 := h1.len
    exact ⟨_, rounds54 _ s1 s2 _ q [] h1 (Nat.le_refl _) (by rw [List.length_nil]; omega)⟩
  | tail _ hm => cases hm with
    | head =>
      obtain ⟨x, hx, hp, rfl⟩ := LC.ofG_some (fun x K => by rw [lsp_eq, lsp_eq]) hs
      obtain rfl := db_ok hx hp
      have h1 := hp.1
      have h2 := h1.left_le
      have h4 := h1.len
      exact ⟨_, rounds54b _ _ _ _ _ _ x.q [] h1 (Nat.le_refl _) (by rw [List.length_nil]; omega)⟩
    | tail _ hm => cases hm
end Go.Proofs.Ytpkgikchphgfaaa.Fl
/- The references' parser: a function. -/
namespace Go.Proofs.Ytpkgikchphgfaaa.Fl
open Go Go.RowKit Go.Proofs.Ytpkgikchphgfaaa.Eng
set_option linter.unusedVariables false
set_option linter.unusedSimpArgs false
set_option maxRecDepth 20000
def wkF : Lw U := .a [.no, .a [.no, .no, .l .t82, .no, .l .t82, .l .t114]]
theorem e54 (p : PS) (a : Int) : (evFn X El an54 lp54 Try.f48 [] [p.tv, TV.v (Value.int IntKind.i64 a)] fun (o : List (TO X.U)) (v : TV X.U) => some (o, wkF.f v)) = if p.Ok then if p.name.fst.Ok then if Pre54 (p.name.fst.must (⟨#[40]⟩ : ByteArray)) 0 0 0 0 0 (⟨#[]⟩ : ByteArray) 0 0 0 then bif (declsP (p.name.fst.must (⟨#[40]⟩ : ByteArray))).snd.isEmpty then bif decide ((declsP (p.name.fst.must (⟨#[40]⟩ : ByteArray))).fst.Code = 0) then if (declsP (p.name.fst.must (⟨#[40]⟩ : ByteArray))).fst.Ok then if (declsP (p.name.fst.must (⟨#[40]⟩ : ByteArray))).fst.next.Ok then bif (declsP (p.name.fst.must (⟨#[40]⟩ : ByteArray))).fst.next.is (⟨#[58]⟩ : ByteArray) then if (declsP (p.name.fst.must (⟨#[40]⟩ : ByteArray))).fst.next.Ok then if (declsP (p.name.fst.must (⟨#[40]⟩ : ByteArray))).fst.next.next.Ok then if (declsP (p.name.fst.must (⟨#[40]⟩ : ByteArray))).fst.next.next.typ.fst.Ok then if Pre54b ((declsP (p.name.fst.must (⟨#[40]⟩ : ByteArray))).fst.next.next.typ.fst.must (⟨#[123]⟩ : ByteArray)) 0 0 0 0 0 bz 0 0 true then bif (varsP ((declsP (p.name.fst.must (⟨#[40]⟩ : ByteArray))).fst.next.next.typ.fst.must (⟨#[123]⟩ : ByteArray))).snd.isEmpty then if (varsP ((declsP (p.name.fst.must (⟨#[40]⟩ : ByteArray))).fst.next.next.typ.fst.must (⟨#[123]⟩ : ByteArray))).fst.Ok then some ([], TV.tup [(varsP ((declsP (p.name.fst.must (⟨#[40]⟩ : ByteArray))).fst.next.next.typ.fst.must (⟨#[123]⟩ : ByteArray))).fst.stmts.fst.tv, TV.agg [TV.v (Value.string p.name.snd), TV.v (Value.int IntKind.i64 a), TV.lst C.t82 [], TV.v (Value.int IntKind.i64 (declsP (p.name.fst.must (⟨#[40]⟩ : ByteArray))).fst.next.next.typ.snd), TV.lst C.t82 [], TV.lst C.t114 (varsP ((declsP (p.name.fst.must (⟨#[40]⟩ : ByteArray))).fst.next.next.typ.fst.must (⟨#[123]⟩ : ByteArray))).fst.stmts.snd]]) else none else (unc (varsP ((declsP (p.name.fst.must (⟨#[40]⟩ : ByteArray))).fst.next.next.typ.fst.must (⟨#[123]⟩ : ByteArray))).snd).bind fun (x : R82 × List R82) => if (varsP ((declsP (p.name.fst.must (⟨#[40]⟩ : ByteArray))).fst.next.next.typ.fst.must (⟨#[123]⟩ : ByteArray))).fst.Ok then some ([], TV.tup [(varsP ((declsP (p.name.fst.must (⟨#[40]⟩ : ByteArray))).fst.next.next.typ.fst.must (⟨#[123]⟩ : ByteArray))).fst.stmts.fst.tv, TV.agg [TV.v (Value.string p.name.snd), TV.v (Value.int IntKind.i64 a), TV.lst C.t82 [], TV.v (Value.int IntKind.i64 (declsP (p.name.fst.must (⟨#[40]⟩ : ByteArray))).fst.next.next.typ.snd), TV.lst C.t82 (x.fst :: x.snd), TV.lst C.t114 (varsP ((declsP (p.name.fst.must (⟨#[40]⟩ : ByteArray))).fst.next.next.typ.fst.must (⟨#[123]⟩ : ByteArray))).fst.stmts.snd]]) else none else none else none else none else none else if (declsP (p.name.fst.must (⟨#[40]⟩ : ByteArray))).fst.next.Ok then if Pre54b ((declsP (p.name.fst.must (⟨#[40]⟩ : ByteArray))).fst.next.must (⟨#[123]⟩ : ByteArray)) 0 0 0 0 0 bz 0 0 true then bif (varsP ((declsP (p.name.fst.must (⟨#[40]⟩ : ByteArray))).fst.next.must (⟨#[123]⟩ : ByteArray))).snd.isEmpty then if (varsP ((declsP (p.name.fst.must (⟨#[40]⟩ : ByteArray))).fst.next.must (⟨#[123]⟩ : ByteArray))).fst.Ok then some ([], TV.tup [(varsP ((declsP (p.name.fst.must (⟨#[40]⟩ : ByteArray))).fst.next.must (⟨#[123]⟩ : ByteArray))).fst.stmts.fst.tv, TV.agg [TV.v (Value.string p.name.snd), TV.v (Value.int IntKind.i64 a), TV.lst C.t82 [], TV.v (Value.int IntKind.i64 0), TV.lst C.t82 [], TV.lst C.t114 (varsP ((declsP (p.name.fst.must (⟨#[40]⟩ : ByteArray))).fst.next.must (⟨#[123]⟩ : ByteArray))).fst.stmts.snd]]) else none else (unc (varsP ((declsP (p.name.fst.must (⟨#[40]⟩ : ByteArray))).fst.next.must (⟨#[123]⟩ : ByteArray))).snd).bind fun (x : R82 × List R82) => if (varsP ((declsP (p.name.fst.must (⟨#[40]⟩ : ByteArray))).fst.next.must (⟨#[123]⟩ : ByteArray))).fst.Ok then some ([], TV.tup [(varsP ((declsP (p.name.fst.must (⟨#[40]⟩ : ByteArray))).fst.next.must (⟨#[123]⟩ : ByteArray))).fst.stmts.fst.tv, TV.agg [TV.v (Value.string p.name.snd), TV.v (Value.int IntKind.i64 a), TV.lst C.t82 [], TV.v (Value.int IntKind.i64 0), TV.lst C.t82 (x.fst :: x.snd), TV.lst C.t114 (varsP ((declsP (p.name.fst.must (⟨#[40]⟩ : ByteArray))).fst.next.must (⟨#[123]⟩ : ByteArray))).fst.stmts.snd]]) else none else none else none else none else none else if (declsP (p.name.fst.must (⟨#[40]⟩ : ByteArray))).fst.Ok then bif (declsP (p.name.fst.must (⟨#[40]⟩ : ByteArray))).fst.is (⟨#[58]⟩ : ByteArray) then if (declsP (p.name.fst.must (⟨#[40]⟩ : ByteArray))).fst.Ok then if (declsP (p.name.fst.must (⟨#[40]⟩ : ByteArray))).fst.next.Ok then if (declsP (p.name.fst.must (⟨#[40]⟩ : ByteArray))).fst.next.typ.fst.Ok then if Pre54b ((declsP (p.name.fst.must (⟨#[40]⟩ : ByteArray))).fst.next.typ.fst.must (⟨#[123]⟩ : ByteArray)) 0 0 0 0 0 bz 0 0 true then bif (varsP ((declsP (p.name.fst.must (⟨#[40]⟩ : ByteArray))).fst.next.typ.fst.must (⟨#[123]⟩ : ByteArray))).snd.isEmpty then if (varsP ((declsP (p.name.fst.must (⟨#[40]⟩ : ByteArray))).fst.next.typ.fst.must (⟨#[123]⟩ : ByteArray))).fst.Ok then some ([], TV.tup [(varsP ((declsP (p.name.fst.must (⟨#[40]⟩ : ByteArray))).fst.next.typ.fst.must (⟨#[123]⟩ : ByteArray))).fst.stmts.fst.tv, TV.agg [TV.v (Value.string p.name.snd), TV.v (Value.int IntKind.i64 a), TV.lst C.t82 [], TV.v (Value.int IntKind.i64 (declsP (p.name.fst.must (⟨#[40]⟩ : ByteArray))).fst.next.typ.snd), TV.lst C.t82 [], TV.lst C.t114 (varsP ((declsP (p.name.fst.must (⟨#[40]⟩ : ByteArray))).fst.next.typ.fst.must (⟨#[123]⟩ : ByteArray))).fst.stmts.snd]]) else none else (unc (varsP ((declsP (p.name.fst.must (⟨#[40]⟩ : ByteArray))).fst.next.typ.fst.must (⟨#[123]⟩ : ByteArray))).snd).bind fun (x : R82 × List R82) => if (varsP ((declsP (p.name.fst.must (⟨#[40]⟩ : ByteArray))).fst.next.typ.fst.must (⟨#[123]⟩ : ByteArray))).fst.Ok then some ([], TV.tup [(varsP ((declsP (p.name.fst.must (⟨#[40]⟩ : ByteArray))).fst.next.typ.fst.must (⟨#[123]⟩ : ByteArray))).fst.stmts.fst.tv, TV.agg [TV.v (Value.string p.name.snd), TV.v (Value.int IntKind.i64 a), TV.lst C.t82 [], TV.v (Value.int IntKind.i64 (declsP (p.name.fst.must (⟨#[40]⟩ : ByteArray))).fst.next.typ.snd), TV.lst C.t82 (x.fst :: x.snd), TV.lst C.t114 (varsP ((declsP (p.name.fst.must (⟨#[40]⟩ : ByteArray))).fst.next.typ.fst.must (⟨#[123]⟩ : ByteArray))).fst.stmts.snd]]) else none else none else none else none else none else if (declsP (p.name.fst.must (⟨#[40]⟩ : ByteArray))).fst.Ok then if Pre54b ((declsP (p.name.fst.must (⟨#[40]⟩ : ByteArray))).fst.must (⟨#[123]⟩ : ByteArray)) 0 0 0 0 0 bz 0 0 true then bif (varsP ((declsP (p.name.fst.must (⟨#[40]⟩ : ByteArray))).fst.must (⟨#[123]⟩ : ByteArray))).snd.isEmpty then if (varsP ((declsP (p.name.fst.must (⟨#[40]⟩ : ByteArray))).fst.must (⟨#[123]⟩ : ByteArray))).fst.Ok then some ([], TV.tup [(varsP ((declsP (p.name.fst.must (⟨#[40]⟩ : ByteArray))).fst.must (⟨#[123]⟩ : ByteArray))).fst.stmts.fst.tv, TV.agg [TV.v (Value.string p.name.snd), TV.v (Value.int IntKind.i64 a), TV.lst C.t82 [], TV.v (Value.int IntKind.i64 0), TV.lst C.t82 [], TV.lst C.t114 (varsP ((declsP (p.name.fst.must (⟨#[40]⟩ : ByteArray))).fst.must (⟨#[123]⟩ : ByteArray))).fst.stmts.snd]]) else none else (unc (varsP ((declsP (p.name.fst.must (⟨#[40]⟩ : ByteArray))).fst.must (⟨#[123]⟩ : ByteArray))).snd).bind fun (x : R82 × List R82) => if (varsP ((declsP (p.name.fst.must (⟨#[40]⟩ : ByteArray))).fst.must (⟨#[123]⟩ : ByteArray))).fst.Ok then some ([], TV.tup [(varsP ((declsP (p.name.fst.must (⟨#[40]⟩ : ByteArray))).fst.must (⟨#[123]⟩ : ByteArray))).fst.stmts.fst.tv, TV.agg [TV.v (Value.string p.name.snd), TV.v (Value.int IntKind.i64 a), TV.lst C.t82 [], TV.v (Value.int IntKind.i64 0), TV.lst C.t82 (x.fst :: x.snd), TV.lst C.t114 (varsP ((declsP (p.name.fst.must (⟨#[40]⟩ : ByteArray))).fst.must (⟨#[123]⟩ : ByteArray))).fst.stmts.snd]]) else none else none else none else none else (unc (declsP (p.name.fst.must (⟨#[40]⟩ : ByteArray))).snd).bind fun (x : R82 × List R82) => bif decide ((declsP (p.name.fst.must (⟨#[40]⟩ : ByteArray))).fst.Code = 0) then if (declsP (p.name.fst.must (⟨#[40]⟩ : ByteArray))).fst.Ok then if (declsP (p.name.fst.must (⟨#[40]⟩ : ByteArray))).fst.next.Ok then bif (declsP (p.name.fst.must (⟨#[40]⟩ : ByteArray))).fst.next.is (⟨#[58]⟩ : ByteArray) then if (declsP (p.name.fst.must (⟨#[40]⟩ : ByteArray))).fst.next.Ok then if (declsP (p.name.fst.must (⟨#[40]⟩ : ByteArray))).fst.next.next.Ok then if (declsP (p.name.fst.must (⟨#[40]⟩ : ByteArray))).fst.next.next.typ.fst.Ok then if Pre54b ((declsP (p.name.fst.must (⟨#[40]⟩ : ByteArray))).fst.next.next.typ.fst.must (⟨#[123]⟩ : ByteArray)) 0 0 0 0 0 bz 0 0 !(x.fst :: x.snd).isEmpty then bif (varsP ((declsP (p.name.fst.must (⟨#[40]⟩ : ByteArray))).fst.next.next.typ.fst.must (⟨#[123]⟩ : ByteArray))).snd.isEmpty then if (varsP ((declsP (p.name.fst.must (⟨#[40]⟩ : ByteArray))).fst.next.next.typ.fst.must (⟨#[123]⟩ : ByteArray))).fst.Ok then some ([], TV.tup [(varsP ((declsP (p.name.fst.must (⟨#[40]⟩ : ByteArray))).fst.next.next.typ.fst.must (⟨#[123]⟩ : ByteArray))).fst.stmts.fst.tv, TV.agg [TV.v (Value.string p.name.snd), TV.v (Value.int IntKind.i64 a), TV.lst C.t82 (x.fst :: x.snd), TV.v (Value.int IntKind.i64 (declsP (p.name.fst.must (⟨#[40]⟩ : ByteArray))).fst.next.next.typ.snd), TV.lst C.t82 [], TV.lst C.t114 (varsP ((declsP (p.name.fst.must (⟨#[40]⟩ : ByteArray))).fst.next.next.typ.fst.must (⟨#[123]⟩ : ByteArray))).fst.stmts.snd]]) else none else (unc (varsP ((declsP (p.name.fst.must (⟨#[40]⟩ : ByteArray))).fst.next.next.typ.fst.must (⟨#[123]⟩ : ByteArray))).snd).bind fun (x_1 : R82 × List R82) => if (varsP ((declsP (p.name.fst.must (⟨#[40]⟩ : ByteArray))).fst.next.next.typ.fst.must (⟨#[123]⟩ : ByteArray))).fst.Ok then some ([], TV.tup [(varsP ((declsP (p.name.fst.must (⟨#[40]⟩ : ByteArray))).fst.next.next.typ.fst.must (⟨#[123]⟩ : ByteArray))).fst.stmts.fst.tv, TV.agg [TV.v (Value.string p.name.snd), TV.v (Value.int IntKind.i64 a), TV.lst C.t82 (x.fst :: x.snd), TV.v (Value.int IntKind.i64 (declsP (p.name.fst.must (⟨#[40]⟩ : ByteArray))).fst.next.next.typ.snd), TV.lst C.t82 (x_1.fst :: x_1.snd), TV.lst C.t114 (varsP ((declsP (p.name.fst.must (⟨#[40]⟩ : ByteArray))).fst.next.next.typ.fst.must (⟨#[123]⟩ : ByteArray))).fst.stmts.snd]]) else none else none else none else none else none else if (declsP (p.name.fst.must (⟨#[40]⟩ : ByteArray))).fst.next.Ok then if Pre54b ((declsP (p.name.fst.must (⟨#[40]⟩ : ByteArray))).fst.next.must (⟨#[123]⟩ : ByteArray)) 0 0 0 0 0 bz 0 0 !(x.fst :: x.snd).isEmpty then bif (varsP ((declsP (p.name.fst.must (⟨#[40]⟩ : ByteArray))).fst.next.must (⟨#[123]⟩ : ByteArray))).snd.isEmpty then if (varsP ((declsP (p.name.fst.must (⟨#[40]⟩ : ByteArray))).fst.next.must (⟨#[123]⟩ : ByteArray))).fst.Ok then some ([], TV.tup [(varsP ((declsP (p.name.fst.must (⟨#[40]⟩ : ByteArray))).fst.next.must (⟨#[123]⟩ : ByteArray))).fst.stmts.fst.tv, TV.agg [TV.v (Value.string p.name.snd), TV.v (Value.int IntKind.i64 a), TV.lst C.t82 (x.fst :: x.snd), TV.v (Value.int IntKind.i64 0), TV.lst C.t82 [], TV.lst C.t114 (varsP ((declsP (p.name.fst.must (⟨#[40]⟩ : ByteArray))).fst.next.must (⟨#[123]⟩ : ByteArray))).fst.stmts.snd]]) else none else (unc (varsP ((declsP (p.name.fst.must (⟨#[40]⟩ : ByteArray))).fst.next.must (⟨#[123]⟩ : ByteArray))).snd).bind fun (x_1 : R82 × List R82) => if (varsP ((declsP (p.name.fst.must (⟨#[40]⟩ : ByteArray))).fst.next.must (⟨#[123]⟩ : ByteArray))).fst.Ok then some ([], TV.tup [(varsP ((declsP (p.name.fst.must (⟨#[40]⟩ : ByteArray))).fst.next.must (⟨#[123]⟩ : ByteArray))).fst.stmts.fst.tv, TV.agg [TV.v (Value.string p.name.snd), TV.v (Value.int IntKind.i64 a), TV.lst C.t82 (x.fst :: x.snd), TV.v (Value.int IntKind.i64 0), TV.lst C.t82 (x_1.fst :: x_1.snd), TV.lst C.t114 (varsP ((declsP (p.name.fst.must (⟨#[40]⟩ : ByteArray))).fst.next.must (⟨#[123]⟩ : ByteArray))).fst.stmts.snd]]) else none else none else none else none else none else if (declsP (p.name.fst.must (⟨#[40]⟩ : ByteArray))).fst.Ok then bif (declsP (p.name.fst.must (⟨#[40]⟩ : ByteArray))).fst.is (⟨#[58]⟩ : ByteArray) then if (declsP (p.name.fst.must (⟨#[40]⟩ : ByteArray))).fst.Ok then if (declsP (p.name.fst.must (⟨#[40]⟩ : ByteArray))).fst.next.Ok then if (declsP (p.name.fst.must (⟨#[40]⟩ : ByteArray))).fst.next.typ.fst.Ok then if Pre54b ((declsP (p.name.fst.must (⟨#[40]⟩ : ByteArray))).fst.next.typ.fst.must (⟨#[123]⟩ : ByteArray)) 0 0 0 0 0 bz 0 0 !(x.fst :: x.snd).isEmpty then bif (varsP ((declsP (p.name.fst.must (⟨#[40]⟩ : ByteArray))).fst.next.typ.fst.must (⟨#[123]⟩ : ByteArray))).snd.isEmpty then if (varsP ((declsP (p.name.fst.must (⟨#[40]⟩ : ByteArray))).fst.next.typ.fst.must (⟨#[123]⟩ : ByteArray))).fst.Ok then some ([], TV.tup [(varsP ((declsP (p.name.fst.must (⟨#[40]⟩ : ByteArray))).fst.next.typ.fst.must (⟨#[123]⟩ : ByteArray))).fst.stmts.fst.tv, TV.agg [TV.v (Value.string p.name.snd), TV.v (Value.int IntKind.i64 a), TV.lst C.t82 (x.fst :: x.snd), TV.v (Value.int IntKind.i64 (declsP (p.name.fst.must (⟨#[40]⟩ : ByteArray))).fst.next.typ.snd), TV.lst C.t82 [], TV.lst C.t114 (varsP ((declsP (p.name.fst.must (⟨#[40]⟩ : ByteArray))).fst.next.typ.fst.must (⟨#[123]⟩ : ByteArray))).fst.stmts.snd]]) else none else (unc (varsP ((declsP (p.name.fst.must (⟨#[40]⟩ : ByteArray))).fst.next.typ.fst.must (⟨#[123]⟩ : ByteArray))).snd).bind fun (x_1 : R82 × List R82) => if (varsP ((declsP (p.name.fst.must (⟨#[40]⟩ : ByteArray))).fst.next.typ.fst.must (⟨#[123]⟩ : ByteArray))).fst.Ok then some ([], TV.tup [(varsP ((declsP (p.name.fst.must (⟨#[40]⟩ : ByteArray))).fst.next.typ.fst.must (⟨#[123]⟩ : ByteArray))).fst.stmts.fst.tv, TV.agg [TV.v (Value.string p.name.snd), TV.v (Value.int IntKind.i64 a), TV.lst C.t82 (x.fst :: x.snd), TV.v (Value.int IntKind.i64 (declsP (p.name.fst.must (⟨#[40]⟩ : ByteArray))).fst.next.typ.snd), TV.lst C.t82 (x_1.fst :: x_1.snd), TV.lst C.t114 (varsP ((declsP (p.name.fst.must (⟨#[40]⟩ : ByteArray))).fst.next.typ.fst.must (⟨#[123]⟩ : ByteArray))).fst.stmts.snd]]) else none else none else none else none else none else if (declsP (p.name.fst.must (⟨#[40]⟩ : ByteArray))).fst.Ok then if Pre54b ((declsP (p.name.fst.must (⟨#[40]⟩ : ByteArray))).fst.must (⟨#[123]⟩ : ByteArray)) 0 0 0 0 0 bz 0 0 !(x.fst :: x.snd).isEmpty then bif (varsP ((declsP (p.name.fst.must (⟨#[40]⟩ : ByteArray))).fst.must (⟨#[123]⟩ : ByteArray))).snd.isEmpty then if (varsP ((declsP (p.name.fst.must (⟨#[40]⟩ : ByteArray))).fst.must (⟨#[123]⟩ : ByteArray))).fst.Ok then some ([], TV.tup [(varsP ((declsP (p.name.fst.must (⟨#[40]⟩ : ByteArray))).fst.must (⟨#[123]⟩ : ByteArray))).fst.stmts.fst.tv, TV.agg [TV.v (Value.string p.name.snd), TV.v (Value.int IntKind.i64 a), TV.lst C.t82 (x.fst :: x.snd), TV.v (Value.int IntKind.i64 0), TV.lst C.t82 [], TV.lst C.t114 (varsP ((declsP (p.name.fst.must (⟨#[40]⟩ : ByteArray))).fst.must (⟨#[123]⟩ : ByteArray))).fst.stmts.snd]]) else none else (unc (varsP ((declsP (p.name.fst.must (⟨#[40]⟩ : ByteArray))).fst.must (⟨#[123]⟩ : ByteArray))).snd).bind fun (x_1 : R82 × List R82) => if (varsP ((declsP (p.name.fst.must (⟨#[40]⟩ : ByteArray))).fst.must (⟨#[123]⟩ : ByteArray))).fst.Ok then some ([], TV.tup [(varsP ((declsP (p.name.fst.must (⟨#[40]⟩ : ByteArray))).fst.must (⟨#[123]⟩ : ByteArray))).fst.stmts.fst.tv, TV.agg [TV.v (Value.string p.name.snd), TV.v (Value.int IntKind.i64 a), TV.lst C.t82 (x.fst :: x.snd), TV.v (Value.int IntKind.i64 0), TV.lst C.t82 (x_1.fst :: x_1.snd), TV.lst C.t114 (varsP ((declsP (p.name.fst.must (⟨#[40]⟩ : ByteArray))).fst.must (⟨#[123]⟩ : ByteArray))).fst.stmts.snd]]) else none else none else none else none else none else none else none := by kernel_rfl
end Go.Proofs.Ytpkgikchphgfaaa.Fl
/- The references' parser: a function, proved. -/
namespace Go.Proofs.Ytpkgikchphgfaaa.Fl
open Go Go.RowKit Go.Proofs.Ytpkgikchphgfaaa.Eng
set_option linter.unusedVariables false
set_option linter.unusedSimpArgs false
set_option maxRecDepth 20000
theorem unc_cons {α : Type} (x : α) (l : List α) : unc (x :: l) = some (x, l) := rfl
theorem declsP_ok {q : PS} (h : q.Ok) : (declsP q).1.Ok := (declsL_ok _ q [] h).1
theorem declsP_cnt {q : PS} (h : q.Ok) : (declsP q).2.length + (declsP q).1.left ≤ q.left := by
  have := (declsL_ok (q.left + 1) q [] h).2
  rw [List.length_nil, Nat.zero_add] at this
  exact this
theorem varsP_ok {q : PS} (h : q.Ok) : (varsP q).1.Ok := (varsL_ok _ q [] h).1
theorem varsP_cnt {q : PS} (h : q.Ok) : (varsP q).2.length + (varsP q).1.left ≤ q.left := by
  have := (varsL_ok (q.left + 1) q [] h).2
  rw [List.length_nil, Nat.zero_add] at this
  exact this
theorem pre54 {q : PS} (h : q.Ok) : Pre54 q 0 0 0 0 0 ⟨#[]⟩ 0 0 0 := ⟨h, ⟨rfl, rfl, rfl, rfl, rfl⟩, rfl, rfl, rfl, rfl⟩
theorem pre54b {q : PS} (h : q.Ok) : Pre54b q 0 0 0 0 0 bz 0 0 true := ⟨h, ⟨rfl, rfl, rfl, rfl, rfl⟩, ⟨rfl, rfl, rfl⟩, rfl⟩
def fnA (p : PS) : PS × List R82 := declsP (p.name.1.must ⟨#[40]⟩)
def fnB (p : PS) : PS := cond (decide ((fnA p).1.Code = 0)) (fnA p).1.next (fnA p).1
def fnC (p : PS) : PS × Int := cond ((fnB p).is ⟨#[58]⟩) (fnB p).next.typ (fnB p, 0)
def fnD (p : PS) : PS × List R82 := varsP ((fnC p).1.must ⟨#[123]⟩)
def PS.fn (p : PS) (a : Int) : PS × R90 := ((fnD p).1.stmts.1, ⟨p.name.2, a, (fnA p).2, (fnC p).2, (fnD p).2, (fnD p).1.stmts.2⟩)
def fnV (f : R90) : TV U := .agg [.v (.string f.Name), .v (.int .i64 f.At), .lst .t82 f.Params, .v (.int .i64 f.Ret), .lst .t82 f.Vars, .lst .t114 f.Body]
def dPi (objs : List (TO U)) (args : List (TV U)) : Option (PS × Int) := match objs, args with
  | [], [a0, a1] =>
    match a0 with
    | .agg [q0, q1, q2, q3, q4, q5] =>
      match q0 with
      | .lst .t53 p_L =>
        match q1 with
        | .v (.int .i64 p_At) =>
          match q2 with
          | .v (.int .i64 p_Deep) =>
            match q3 with
            | .v (.int .i64 p_Many) =>
              match q4 with
              | .v (.int .i64 p_Code) =>
                match q5 with
                | .v (.int .i64 p_FAt) =>
                  match a1 with
                  | .v (.int .i64 a) =>
                    some ((⟨p_L, p_At, p_Deep, p_Many, p_Code, p_FAt⟩ : PS), a)
                  | _ => none
                | _ => none
              | _ => none
            | _ => none
          | _ => none
        | _ => none
      | _ => none
    | _ => none
  | _, _ => none
theorem dPi_ok {objs : List (TO U)} {args : List (TV U)} {p : PS} {a : Int} (h : dPi objs args = some (p, a)) : objs = [] ∧ args = [p.tv, .v (.int .i64 a)] := by
  unfold dPi at h
  repeat' split at h
  all_goals first | (cases h; done) | (cases h; exact ⟨rfl, rfl⟩)
noncomputable def sFn : Spc U := .of dPi (fun x => x.1.Ok) (fun _ => []) fun x => .tup [(x.1.fn x.2).1.tv, fnV (x.1.fn x.2).2]
theorem sFn_ok : SpecOk Try.prog 48 sFn := by
  refine fn_okw wkF X_ok mixed El_ok an54 lp54 Try.func48 (by kernel_rfl) (by kernel_rfl) lp54_ok fun objs args x hp h => ?_
  obtain ⟨p, a⟩ := x
  obtain ⟨rfl, rfl⟩ := dPi_ok hp
  dsimp only at h ⊢
  have hA := declsP_ok (h.name.must ⟨#[40]⟩)
  refine (e54 p a).trans ?_
  unfold PS.fn fnD fnC fnB fnA fnV
  simp only [h, h.name, pre54 (h.name.must ⟨#[40]⟩), hA, if_true]
  generalize declsP (p.name.1.must ⟨#[40]⟩) = x at hA ⊢
  obtain ⟨q, ps⟩ := x
  dsimp only at hA ⊢
  have g1 := hA.next
  have g2 := hA.next.next
  have g3 := PS.Ok.typ hA.next.next
  have g4 := PS.Ok.typ hA.next
  cases ps <;> cases hc : decide (q.Code = 0)
  all_goals simp only [cond_true, cond_false, List.isEmpty_nil, List.isEmpty_cons, unc_cons, Option.bind_some]
  all_goals cases q.next.is ⟨#[58]⟩ <;> cases q.is ⟨#[58]⟩
  all_goals simp only [cond_true, cond_false, Bool.not_false, hA, g1, g2, g3, g4, pre54b (hA.must ⟨#[123]⟩), pre54b (g1.must ⟨#[123]⟩), pre54b (g3.must ⟨#[123]⟩), pre54b (g4.must ⟨#[123]⟩), varsP_ok (hA.must ⟨#[123]⟩), varsP_ok (g1.must ⟨#[123]⟩), varsP_ok (g3.must ⟨#[123]⟩), varsP_ok (g4.must ⟨#[123]⟩), if_true]
  all_goals (generalize varsP _ = v; obtain ⟨v1, vs⟩ := v; cases vs <;> rfl)
end Go.Proofs.Ytpkgikchphgfaaa.Fl
/- The references' lexer: kept names. -/
namespace Go.Proofs.Ytpkgikchphgfaaa.Fl
open Go Go.RowKit Go.Proofs.Ytpkgikchphgfaaa.Eng
set_option linter.unusedVariables false
set_option linter.unusedSimpArgs false
set_option maxRecDepth 20000
def hasW (s : ByteArray) (l : List ByteArray) : Bool := l.any fun w => List.instBEq.1 w.toList s.toList
def kept (s : ByteArray) : Bool := hasW s wds
theorem wds_len : wds.length = 17 := by decide
theorem round31 (lp : Lp U) (s : ByteArray) : ∀ (N : Nat) (v : Int), 0 ≤ v → 17 ≤ v + N → v ≤ 17 →
    fnLoop X E31 an31 lp Try.f93 0 (N + 1) (g31_S0 s v) = some (cond (hasW s (wds.drop v.toNat)) (Exit.ret, mkS 18 [(2, .v (.bool true))] [] 0) (.exit 0, mkS 18 [] [] 0)) := by
  intro N
  induction N with
  | zero =>
    intro v h0 h1 h2
    have hv : ¬ v < (wds.length : Int) := by rw [wds_len]; omega
    have e : wds.drop v.toNat = [] := List.drop_eq_nil_of_le (by rw [wds_len]; omega)
    rw [g31_e0, e]
    simp only [hv, decide_false, cond_false]
    rfl
  | succ N ih =>
    intro v h0 h1 h2
    rw [g31_e0]
    by_cases hv : v < (wds.length : Int)
    · have hlt : v.toNat < wds.length := by omega
      have hg : getI wds v = some wds[v.toNat] := by unfold getI; rw [if_pos h0]; exact List.getElem?_eq_getElem hlt
      have hd : wds.drop v.toNat = wds[v.toNat] :: wds.drop (v.toNat + 1) := List.drop_eq_getElem_cons hlt
      have hw : IntKind.i64.wrap (v + 1) = v + 1 := wrap_i64 (by omega) (by omega)
      rw [wds_len] at hv
      rw [hg, hd, hw, ih (v + 1) (by omega) (by omega) (by omega), show (v + 1).toNat = v.toNat + 1 by omega]
      have hv' : v < (wds.length : Int) := by rw [wds_len]; exact hv
      simp only [hv', decide_true, cond_true, Option.bind_some]
      generalize wds[v.toNat] = z
      have e : hasW s (z :: wds.drop (v.toNat + 1)) = (List.instBEq.1 z.toList s.toList || hasW s (wds.drop (v.toNat + 1))) := rfl
      rw [e]
      cases List.instBEq.1 z.toList s.toList <;> rfl
    · have e : wds.drop v.toNat = [] := List.drop_eq_nil_of_le (by omega)
      rw [e]
      simp only [hv, decide_false, cond_false]
      rfl
def dl31 (s : TS U) : Option (ByteArray × List ByteArray × Int) := match told s 18 [0, 3, 4] 0, s.objs with
  | some [a0, a1, a2], [] =>
    match a0 with
    | .v (.string b) =>
      match a1 with
      | .lst .str l =>
        match a2 with
        | .v (.int .i64 v) =>
          some (b, l, v)
        | _ => none
      | _ => none
    | _ => none
  | _, _ => none
theorem dl31_ok {s : TS U} {b : ByteArray} {l : List ByteArray} {v : Int} (h : dl31 s = some (b, l, v)) : s = mkS (U := U) 18 ([0, 3, 4].zip ([.v (.string b), .lst .str l, .v (.int .i64 v)] : List (TV U))) ([] : List (TO U)) 0 := by
  unfold dl31 at h
  split at h <;> try (cases h; done)
  rename_i ht ho
  have hs := told_ok ht
  rw [ho] at hs
  repeat' split at h
  all_goals first | (cases h; done) | (cases h; exact hs)
def lc31 : LC U := .of2 dl31 (fun x => x.2.1 = wds ∧ x.2.2 = 0) (fun x => kept x.1) .ret (fun x => mkS 18 [(2, .v (.bool true))] [] 0) (.exit 0) (fun x => mkS 18 [] [] 0)
theorem lp31_ok : ∀ c, Try.f93.body = some c → LpOk X E31 an31 (lpL [(0, lc31)]) (loops c 0) := lpL_ok (by kernel_rfl) fun b L hm st p hs => by
  cases hm with
  | tail _ h => cases h
  | head =>
    obtain ⟨⟨s, l, v⟩, hx, ⟨hl, hv⟩, rfl⟩ := LC.of2_some hs
    obtain rfl := dl31_ok hx
    dsimp only at hl hv ⊢
    subst hl hv
    exact ⟨18, round31 _ s 17 0 (by decide) (by decide) (by decide)⟩
theorem e31 (s : ByteArray) : evFn X E31 an31 (lpL [(0, lc31)]) Try.f93 [] [.v (.string s)] (fun o v => some (o, v)) = if wds = wds ∧ (0 : Int) = 0 then cond (kept s) (some ([], .v (.bool true))) (some ([], .v (.bool false))) else none := by kernel_rfl
def dstr (objs : List (TO U)) (args : List (TV U)) : Option (ByteArray) := match objs, args with
  | [], [a0] =>
    match a0 with
    | .v (.string s) =>
      some s
    | _ => none
  | _, _ => none
theorem dstr_ok {objs : List (TO U)} {args : List (TV U)} {s : ByteArray} (h : dstr objs args = some s) : objs = [] ∧ args = [.v (.string s)] := by
  unfold dstr at h
  repeat' split at h
  all_goals first | (cases h; done) | (cases h; exact ⟨rfl, rfl⟩)
def sKept : Spc U := .of dstr (fun x => True) (fun x => []) fun x => .v (.bool (kept x))
theorem sKept_ok : SpecOk Try.prog 93 sKept := by
  refine fn_ok X_ok mixed E31_ok an31 (lpL [(0, lc31)]) Try.func93 (by kernel_rfl) (by kernel_rfl) lp31_ok fun objs args s hx hp => ?_
  obtain ⟨rfl, rfl⟩ := dstr_ok hx
  dsimp only
  rw [e31, if_pos ⟨rfl, rfl⟩]
  cases kept s <;> rfl
end Go.Proofs.Ytpkgikchphgfaaa.Fl
/- The references' lexer: signs, and what says nothing. -/
namespace Go.Proofs.Ytpkgikchphgfaaa.Fl
open Go Go.RowKit Go.Proofs.Ytpkgikchphgfaaa.Eng
set_option linter.unusedVariables false
set_option linter.unusedSimpArgs false
set_option maxRecDepth 20000
def an45 : Ann := ⟨fun | 0 => 99 | _ => 0, fun | 0 => 16 | _ => 0, fun _ => [], false⟩
def an43 : Ann := ⟨fun | 0 => 97 | _ => 0, fun | 0 => 48 | _ => 0, fun _ => [], false⟩
def g43_S0 (s : ByteArray) (v1 : Int) (v2 : Bool) : TS U := mkS 40
  [(0, TV.v (Value.string s)), (5, TV.v (Value.int IntKind.i64 v1)), (6, TV.v (Value.bool v2))] [] 0
theorem g43_e0 (lp : Lp U) (s : ByteArray) (N : Nat) (v1 : Int) (v2 : Bool) : fnLoop X (fun (x : FuncId) => none) an43 lp Try.f91 0 N.succ (g43_S0 s v1 v2) = bif decide (v1 < (↑s.size : Int)) then (getB s v1).bind fun (n : Int) => bif decide (n = 10) then fnLoop X (fun (x : FuncId) => none) an43 lp Try.f91 0 N (g43_S0 s (IntKind.i64.wrap (v1 + 1)) false) else bif v2 then fnLoop X (fun (x : FuncId) => none) an43 lp Try.f91 0 N (g43_S0 s (IntKind.i64.wrap (v1 + 1)) v2) else bif decide (n = 32) then fnLoop X (fun (x : FuncId) => none) an43 lp Try.f91 0 N (g43_S0 s (IntKind.i64.wrap (v1 + 1)) v2) else bif decide (n = 9) then fnLoop X (fun (x : FuncId) => none) an43 lp Try.f91 0 N (g43_S0 s (IntKind.i64.wrap (v1 + 1)) v2) else bif decide (n = 13) then fnLoop X (fun (x : FuncId) => none) an43 lp Try.f91 0 N (g43_S0 s (IntKind.i64.wrap (v1 + 1)) v2) else bif decide (n = 35) then fnLoop X (fun (x : FuncId) => none) an43 lp Try.f91 0 N (g43_S0 s (IntKind.i64.wrap (v1 + 1)) true) else some (Exit.ret, mkS 40 [(4, TV.v (Value.int IntKind.i64 v1)), (5, TV.v (Value.int IntKind.i64 v1))] [] 0) else some (Exit.exit 0, mkS 40 [(5, TV.v (Value.int IntKind.i64 v1))] [] 0) := by kernel_rfl
/-- Where what says something stands; whether there is any. -/
def sk (s : ByteArray) : Nat → Int → Bool → Int × Bool
  | 0, v, _ => (v, false)
  | N + 1, v, note => if v < s.size then (match getB s v with
    | none => (v, false)
    | some n => if n = 10 then sk s N (v + 1) false else if note = true then sk s N (v + 1) note else if n = 32 ∨ n = 9 ∨ n = 13 then sk s N (v + 1) note else if n = 35 then sk s N (v + 1) true else (v, true)) else (v, false)
theorem getB_at {s : ByteArray} {v : Int} (h0 : 0 ≤ v) (h1 : v < s.size) : ∃ n, getB s v = some n := by
  unfold getB
  have hlt : v.toNat < s.data.size := by
    have e : s.data.size = s.size := rfl
    omega
  rw [if_pos h0, Array.getElem?_eq_getElem hlt]
  exact ⟨_, rfl⟩
theorem sk_ge (s : ByteArray) : ∀ (N : Nat) (v : Int) (b : Bool), v ≤ s.size → v ≤ (sk s N v b).1 ∧ (sk s N v b).1 ≤ s.size := by
  intro N
  induction N with
  | zero => intro v b h; exact ⟨Int.le_refl _, h⟩
  | succ N ih =>
    intro v b h
    unfold sk
    split
    · rename_i hv
      have h1 := ih (v + 1) false (by omega)
      have h2 := ih (v + 1) b (by omega)
      have h3 := ih (v + 1) true (by omega)
      split
      · exact ⟨Int.le_refl _, h⟩
      · split
        · exact ⟨by omega, h1.2⟩
        · split
          · exact ⟨by omega, h2.2⟩
          · split
            · exact ⟨by omega, h2.2⟩
            · split
              · exact ⟨by omega, h3.2⟩
              · exact ⟨Int.le_refl _, h⟩
    · exact ⟨Int.le_refl _, h⟩
def st43 (v : Int) : TS U := mkS 40 [(4, .v (.int .i64 v)), (5, .v (.int .i64 v))] [] 0
def sx43 (v : Int) : TS U := mkS 40 [(5, .v (.int .i64 v))] [] 0
theorem round43 (lp : Lp U) (s : ByteArray) (hs : s.size ≤ 1000000) : ∀ (N : Nat) (v : Int) (b : Bool), 0 ≤ v → (s.size : Int) ≤ v + N →
    fnLoop X (fun _ => none) an43 lp Try.f91 0 (N + 1) (g43_S0 s v b) = some (cond (sk s (N + 1) v b).2 (Exit.ret, st43 (sk s (N + 1) v b).1) (.exit 0, sx43 (sk s (N + 1) v b).1)) := by
  intro N
  induction N with
  | zero =>
    intro v b h0 h1
    have hv : ¬ v < (s.size : Int) := by omega
    have e : sk s 1 v b = (v, false) := by unfold sk; rw [if_neg hv]
    rw [g43_e0, e]
    simp only [hv, decide_false, cond_false]
    rfl
  | succ N ih =>
    intro v b h0 h1
    rw [g43_e0]
    by_cases hv : v < (s.size : Int)
    · obtain ⟨n, hn⟩ := getB_at h0 hv
      have hw : IntKind.i64.wrap (v + 1) = v + 1 := wrap_i64 (by omega) (by omega)
      have i1 := ih (v + 1) false (by omega) (by omega)
      have i2 := ih (v + 1) b (by omega) (by omega)
      have i3 := ih (v + 1) true (by omega) (by omega)
      have e : sk s (N + 1 + 1) v b = if n = 10 then sk s (N + 1) (v + 1) false else if b = true then sk s (N + 1) (v + 1) b else if n = 32 ∨ n = 9 ∨ n = 13 then sk s (N + 1) (v + 1) b else if n = 35 then sk s (N + 1) (v + 1) true else (v, true) := by
        rw [sk, if_pos hv, hn]
      rw [hn, hw, e]
      simp only [hv, decide_true, cond_true, Option.bind_some]
      rw [i1, i2, i3]
      by_cases c1 : n = 10
      · simp only [c1, decide_true, cond_true, if_true]
      · simp only [c1, decide_false, cond_false, if_false]
        cases b with
        | true => simp only [cond_true, if_true]
        | false =>
          by_cases c2 : n = 32 <;> by_cases c3 : n = 9 <;> by_cases c4 : n = 13 <;> by_cases c5 : n = 35 <;> first | (exfalso; omega) | (simp only [c2, c3, c4, c5, decide_true, decide_false, cond_true, cond_false, if_true, if_false, true_or, or_true, or_false, false_or, Bool.false_eq_true]; done) | (simp only [c2, c3, c4, c5, decide_true, decide_false, cond_true, cond_false, if_true, if_false, true_or, or_true, or_false, false_or, Bool.false_eq_true]; rfl)
    · have e : sk s (N + 1 + 1) v b = (v, false) := by rw [sk, if_neg hv]
      rw [e]
      simp only [hv, decide_false, cond_false]
      rfl
def PreS (s : ByteArray) (v : Int) : Prop := s.size ≤ 1000000 ∧ 0 ≤ v
instance (s : ByteArray) (v : Int) : Decidable (PreS s v) := by unfold PreS; infer_instance
def dl43 (s : TS U) : Option (ByteArray × Int × Bool) := match told s 40 [0, 5, 6] 0, s.objs with
  | some [a0, a1, a2], [] =>
    match a0 with
    | .v (.string t) =>
      match a1 with
      | .v (.int .i64 v) =>
        match a2 with
        | .v (.bool b) =>
          some (t, v, b)
        | _ => none
      | _ => none
    | _ => none
  | _, _ => none
theorem dl43_ok {s : TS U} {t : ByteArray} {v : Int} {b : Bool} (h : dl43 s = some (t, v, b)) : s = mkS (U := U) 40 ([0, 5, 6].zip ([.v (.string t), .v (.int .i64 v), .v (.bool b)] : List (TV U))) ([] : List (TO U)) 0 := by
  unfold dl43 at h
  split at h <;> try (cases h; done)
  rename_i ht ho
  have hs := told_ok ht
  rw [ho] at hs
  repeat' split at h
  all_goals first | (cases h; done) | (cases h; exact hs)
def lc43 : LC U := .of2 dl43 (fun x => PreS x.1 x.2.1) (fun x => (sk x.1 (x.1.size + 1) x.2.1 x.2.2).2) .ret (fun x => st43 (sk x.1 (x.1.size + 1) x.2.1 x.2.2).1) (.exit 0) (fun x => sx43 (sk x.1 (x.1.size + 1) x.2.1 x.2.2).1)
theorem lp43_ok : ∀ c, Try.f91.body = some c → LpOk X (fun _ => none) an43 (lpL [(0, lc43)]) (loops c 0) := lpL_ok (by kernel_rfl) fun b L hm st p hs => by
  cases hm with
  | tail _ h => cases h
  | head =>
    obtain ⟨⟨s, v, b⟩, hx, ⟨hl, hv⟩, rfl⟩ := LC.of2_some hs
    obtain rfl := dl43_ok hx
    dsimp only at hl hv ⊢
    exact ⟨s.size + 1, round43 _ s hl s.size v b hv (by omega)⟩
theorem e43 (s : ByteArray) (a : Int) : evFn X (fun _ => none) an43 (lpL [(0, lc43)]) Try.f91 [] [.v (.string s), .v (.int .i64 a)] (fun o v => some (o, v)) = if PreS s a then cond (sk s (s.size + 1) a false).2 (some ([], .v (.int .i64 (sk s (s.size + 1) a false).1))) (some ([], .v (.int .i64 (sk s (s.size + 1) a false).1))) else none := by kernel_rfl
def dsi (objs : List (TO U)) (args : List (TV U)) : Option (ByteArray × Int) := match objs, args with
  | [], [a0, a1] =>
    match a0 with
    | .v (.string s) =>
      match a1 with
      | .v (.int .i64 a) =>
        some (s, a)
      | _ => none
    | _ => none
  | _, _ => none
theorem dsi_ok {objs : List (TO U)} {args : List (TV U)} {s : ByteArray} {a : Int} (h : dsi objs args = some (s, a)) : objs = [] ∧ args = [.v (.string s), .v (.int .i64 a)] := by
  unfold dsi at h
  repeat' split at h
  all_goals first | (cases h; done) | (cases h; exact ⟨rfl, rfl⟩)
def sSkip : Spc U := .of dsi (fun x => PreS x.1 x.2) (fun x => []) fun x => .v (.int .i64 (sk x.1 (x.1.size + 1) x.2 false).1)
theorem sSkip_ok : SpecOk Try.prog 91 sSkip := by
  refine fn_ok X_ok mixed E0_ok an43 (lpL [(0, lc43)]) Try.func91 (by kernel_rfl) (by kernel_rfl) lp43_ok fun objs args x hx hp => ?_
  obtain ⟨s, a⟩ := x
  obtain ⟨rfl, rfl⟩ := dsi_ok hx
  dsimp only at hp ⊢
  rw [e43, if_pos hp]
  cases (sk s (s.size + 1) a false).2 <;> rfl
end Go.Proofs.Ytpkgikchphgfaaa.Fl
/- The references' lexer: signs. -/
namespace Go.Proofs.Ytpkgikchphgfaaa.Fl
open Go Go.RowKit Go.Proofs.Ytpkgikchphgfaaa.Eng
set_option linter.unusedVariables false
set_option linter.unusedSimpArgs false
set_option maxRecDepth 20000
def sgs : List ByteArray := [⟨#[123]⟩, ⟨#[125]⟩, ⟨#[40]⟩, ⟨#[41]⟩, ⟨#[59]⟩, ⟨#[58]⟩, ⟨#[44]⟩, ⟨#[46]⟩, ⟨#[64]⟩, ⟨#[38]⟩, ⟨#[42]⟩, ⟨#[60]⟩, ⟨#[43]⟩, ⟨#[45]⟩, ⟨#[61]⟩]
def S45 (s : ByteArray) (a v : Int) : TS U := mkS 37 [(0, .v (.string s)), (1, .v (.int .i64 a)), (5, .full 0), (6, .v (.int .i64 v))] [.row .str sgs false] 0
def r45 (v : Int) : Exit × TS U := (.ret, mkS 37 [(4, .v (.int .i64 v))] [] 0)
def two (s : ByteArray) (a : Int) : Option (Exit × TS U) := cond (decide (IntKind.i64.wrap (a + 2) ≤ s.size)) ((cutB s (some a) (some (IntKind.i64.wrap (a + 2)))).bind fun c => cond (List.instBEq.1 c.toList (ByteArray.toList ⟨#[61, 61]⟩)) (some (r45 2)) (some (r45 1))) (some (r45 1))
theorem g45 (lp : Lp U) (s : ByteArray) (a v : Int) (N : Nat) : fnLoop X (fun _ => none) an45 lp Try.f94 0 N.succ (S45 s a v) = cond (decide (v < sgs.length)) ((cutB s (some a) (some (IntKind.i64.wrap (a + 1)))).bind fun c => if 0 ≤ v ∧ v < sgs.length then sgs[v.toNat]?.bind fun y => cond (List.instBEq.1 c.toList (ByteArray.toList y)) (two s a) (fnLoop X (fun _ => none) an45 lp Try.f94 0 N (S45 s a (IntKind.i64.wrap (v + 1)))) else none) (some (.exit 0, mkS 37 [] [] 0)) := by kernel_rfl
def cut1 (s : ByteArray) (a : Int) : ByteArray := s.extract a.toNat (a + 1).toNat
def cut2 (s : ByteArray) (a : Int) : ByteArray := s.extract a.toNat (a + 2).toNat
def isSg (s : ByteArray) (a : Int) : Bool := hasSg (cut1 s a) sgs
where hasSg (c : ByteArray) (l : List ByteArray) : Bool := l.any fun y => List.instBEq.1 c.toList y.toList
def eqEq (s : ByteArray) (a : Int) : Bool := decide (a + 2 ≤ s.size) && List.instBEq.1 (cut2 s a).toList (ByteArray.toList ⟨#[61, 61]⟩)
def sgn (s : ByteArray) (a : Int) : Int := cond (isSg s a) (cond (eqEq s a) 2 1) 0
theorem sgs_len : sgs.length = 15 := by decide
theorem two_ok {s : ByteArray} {a : Int} (hs : s.size ≤ 1000000) (h0 : 0 ≤ a) (h1 : a < s.size) : two s a = some (r45 (cond (eqEq s a) 2 1)) := by
  have hw : IntKind.i64.wrap (a + 2) = a + 2 := wrap_i64 (by omega) (by omega)
  unfold two eqEq
  rw [hw]
  by_cases h : a + 2 ≤ (s.size : Int)
  · have hc : cutB s (some a) (some (a + 2)) = some (cut2 s a) := if_pos ⟨h0, by omega, h⟩
    rw [hc, Option.bind_some]
    simp only [h, decide_true, cond_true, Bool.true_and]
    cases List.instBEq.1 (cut2 s a).toList (ByteArray.toList ⟨#[61, 61]⟩) <;> rfl
  · simp only [h, decide_false, cond_false, Bool.false_and]
theorem round45 (lp : Lp U) {s : ByteArray} {a : Int} (hs : s.size ≤ 1000000) (h0 : 0 ≤ a) (h1 : a < s.size) : ∀ (N : Nat) (v : Int), 0 ≤ v → 15 ≤ v + N → v ≤ 15 →
    fnLoop X (fun _ => none) an45 lp Try.f94 0 (N + 1) (S45 s a v) = some (cond (isSg.hasSg (cut1 s a) (sgs.drop v.toNat)) (r45 (cond (eqEq s a) 2 1)) (.exit 0, mkS 37 [] [] 0)) := by
  intro N
  induction N with
  | zero =>
    intro v hv0 hv1 hv2
    have hv : ¬ v < (sgs.length : Int) := by rw [sgs_len]; omega
    have e : sgs.drop v.toNat = [] := List.drop_eq_nil_of_le (by rw [sgs_len]; omega)
    rw [g45, e]
    simp only [hv, decide_false, cond_false]
    rfl
  | succ N ih =>
    intro v hv0 hv1 hv2
    rw [g45]
    by_cases hv : v < (sgs.length : Int)
    · have hlt : v.toNat < sgs.length := by omega
      have hx : sgs[v.toNat]? = some sgs[v.toNat] := List.getElem?_eq_getElem hlt
      have hd : sgs.drop v.toNat = sgs[v.toNat] :: sgs.drop (v.toNat + 1) := List.drop_eq_getElem_cons hlt
      have hw : IntKind.i64.wrap (v + 1) = v + 1 := wrap_i64 (by omega) (by omega)
      have hw1 : IntKind.i64.wrap (a + 1) = a + 1 := wrap_i64 (by omega) (by omega)
      have hc : cutB s (some a) (some (a + 1)) = some (cut1 s a) := if_pos ⟨h0, by omega, by omega⟩
      have hvl : v < 15 := by rw [sgs_len] at hv; exact hv
      rw [hd, hw, hw1, hc, Option.bind_some, if_pos ⟨hv0, hv⟩, hx, Option.bind_some, two_ok hs h0 h1, ih (v + 1) (by omega) (by omega) (by omega), show (v + 1).toNat = v.toNat + 1 by omega]
      simp only [hv, decide_true, cond_true]
      generalize sgs[v.toNat] = z
      have e : isSg.hasSg (cut1 s a) (z :: sgs.drop (v.toNat + 1)) = (List.instBEq.1 (cut1 s a).toList z.toList || isSg.hasSg (cut1 s a) (sgs.drop (v.toNat + 1))) := rfl
      rw [e]
      cases List.instBEq.1 (cut1 s a).toList z.toList <;> rfl
    · have e : sgs.drop v.toNat = [] := List.drop_eq_nil_of_le (by omega)
      rw [e]
      simp only [hv, decide_false, cond_false]
      rfl
def Pre45 (s : ByteArray) (a : Int) : Prop := s.size ≤ 1000000 ∧ 0 ≤ a ∧ a < s.size
instance (s : ByteArray) (a : Int) : Decidable (Pre45 s a) := by unfold Pre45; infer_instance
def Pre45l (s : ByteArray) (a : Int) (l : List ByteArray) (v : Int) : Prop := Pre45 s a ∧ l = sgs ∧ v = 0
instance (s : ByteArray) (a : Int) (l : List ByteArray) (v : Int) : Decidable (Pre45l s a l v) := by unfold Pre45l; infer_instance
def dl45 (s : TS U) : Option (List ByteArray × ByteArray × Int × Int) := match told s 37 [0, 1, 5, 6] 0, s.objs with
  | some [a0, a1, a2, a3], [o0] =>
    match o0 with
    | .row .str l false =>
      match a0 with
      | .v (.string t) =>
        match a1 with
        | .v (.int .i64 a) =>
          match a2 with
          | .full 0 =>
            match a3 with
            | .v (.int .i64 v) =>
              some (l, t, a, v)
            | _ => none
          | _ => none
        | _ => none
      | _ => none
    | _ => none
  | _, _ => none
theorem dl45_ok {s : TS U} {l : List ByteArray} {t : ByteArray} {a : Int} {v : Int} (h : dl45 s = some (l, t, a, v)) : s = mkS (U := U) 37 ([0, 1, 5, 6].zip ([.v (.string t), .v (.int .i64 a), .full 0, .v (.int .i64 v)] : List (TV U))) ([.row .str l false] : List (TO U)) 0 := by
  unfold dl45 at h
  split at h <;> try (cases h; done)
  rename_i ht ho
  have hs := told_ok ht
  rw [ho] at hs
  repeat' split at h
  all_goals first | (cases h; done) | (cases h; exact hs)
def lc45 : LC U := .of2 dl45 (fun x => Pre45l x.2.1 x.2.2.1 x.1 x.2.2.2) (fun x => isSg x.2.1 x.2.2.1) .ret (fun x => (r45 (cond (eqEq x.2.1 x.2.2.1) 2 1)).2) (.exit 0) (fun x => mkS 37 [] [] 0)
theorem lp45_ok : ∀ c, Try.f94.body = some c → LpOk X (fun _ => none) an45 (lpL [(0, lc45)]) (loops c 0) := lpL_ok (by kernel_rfl) fun b L hm st p hs => by
  cases hm with
  | tail _ h => cases h
  | head =>
    obtain ⟨⟨l, s, a, v⟩, hx, hp, rfl⟩ := LC.of2_some hs
    obtain rfl := dl45_ok hx
    dsimp only at hp ⊢
    obtain ⟨⟨h1, h2, h3⟩, rfl, rfl⟩ := hp
    exact ⟨16, round45 _ h1 h2 h3 15 0 (by decide) (by decide) (by decide)⟩
theorem e45 (s : ByteArray) (a : Int) : evFn X (fun _ => none) an45 (lpL [(0, lc45)]) Try.f94 [] [.v (.string s), .v (.int .i64 a)] (fun o v => some (o, v)) = if Pre45l s a sgs 0 then cond (isSg s a) (some ([], .v (.int .i64 (cond (eqEq s a) 2 1)))) (some ([], .v (.int .i64 0))) else none := by kernel_rfl
def sSign : Spc U := .of dsi (fun x => Pre45 x.1 x.2) (fun x => []) fun x => .v (.int .i64 (sgn x.1 x.2))
theorem sSign_ok : SpecOk Try.prog 94 sSign := by
  refine fn_ok X_ok mixed E0_ok an45 (lpL [(0, lc45)]) Try.func94 (by kernel_rfl) (by kernel_rfl) lp45_ok fun objs args x hx hp => ?_
  obtain ⟨s, a⟩ := x
  obtain ⟨rfl, rfl⟩ := dsi_ok hx
  dsimp only at hp ⊢
  rw [e45, if_pos ⟨hp, rfl, rfl⟩]
  unfold sgn
  cases isSg s a <;> rfl
end Go.Proofs.Ytpkgikchphgfaaa.Fl
/- The references' lexer: words. -/
namespace Go.Proofs.Ytpkgikchphgfaaa.Fl
open Go Go.RowKit Go.Proofs.Ytpkgikchphgfaaa.Eng
set_option linter.unusedVariables false
set_option linter.unusedSimpArgs false
set_option maxRecDepth 20000
def an27 : Ann := ⟨fun | 0 => 57 | 3 => 249 | 5 => 249 | 1004 => 524345 | 1005 => 249 | 1006 => 67109113 | 1007 => 505 | 1008 => 2147484153 | 1010 => 249 | 1011 => 137506062585 | 1014 => 249 | 1015 => 144115188075856121 | 1016 => 249 | 1017 => 576460752303423737 | 1018 => 249 | 1024 => 121 | 1025 => 57 | 1026 => 57 | _ => 0, fun | 0 => 29 | 3 => 253 | 5 => 253 | _ => 0, fun _ => [], false⟩
noncomputable def E27 : FuncId → Option (Spc U)
  | 93 => some sKept
  | 91 => some sSkip
  | 92 => some sLetter
  | 94 => some sSign
  | _ => none
theorem E27_ok : ∀ f S, E27 f = some S → SpecOk Try.prog f S := fun f S h => by
  unfold E27 at h
  split at h
  · cases h; exact sKept_ok
  · cases h; exact sSkip_ok
  · cases h; exact sLetter_ok
  · cases h; exact sSign_ok
  · cases h
def ob27 (fa fb : Int) (out : List R53) (k at' n : Int) (w : ByteArray) : List (TO U) := [.cells [.v (.int .i64 fa), .v (.int .i64 fb)] false, .row .t53 out false, .cells [.v (.int .i64 k), .v (.int .i64 at'), .v (.int .i64 n), .v (.string w)] false]
def in27 (s : ByteArray) (i from' : Int) (o : List (TO U)) : TS U := mkS 109 [(0, .v (.string s)), (3, .ref 0 0 0), (4, .full 1), (5, .v (.int .i64 i)), (6, .ref 2 0 0), (7, .v (.int .i64 from'))] o 0
/-- Behind a name. -/
def we (s : ByteArray) : Nat → Int → Int
  | 0, i => i
  | N + 1, i => if i < s.size then (match getB s i with
    | some c => if 0 < letter c then we s N (i + 1) else i
    | none => i) else i
theorem g3 (lp : Lp U) (s : ByteArray) (out : List R53) (fa fb k at' n i from' : Int) (w : ByteArray) (N : Nat) : fnLoop X E27 an27 lp Try.f41 3 N.succ (in27 s i from' (ob27 fa fb out k at' n w)) = cond (decide (i < s.size)) ((getB s i).bind fun c => cond (decide (0 < letter c)) (fnLoop X E27 an27 lp Try.f41 3 N (in27 s (IntKind.i64.wrap (i + 1)) from' (ob27 fa fb out k at' n w))) (some (.exit 3, in27 s i from' (ob27 fa fb out k at' n w)))) (some (.exit 3, in27 s i from' (ob27 fa fb out k at' n w))) := by kernel_rfl
theorem rounds3 (lp : Lp U) {s : ByteArray} (hs : s.size ≤ 1000000) (out : List R53) (fa fb k at' n from' : Int) (w : ByteArray) : ∀ (N : Nat) (i : Int), 0 ≤ i → (s.size : Int) ≤ i + N →
    fnLoop X E27 an27 lp Try.f41 3 (N + 1) (in27 s i from' (ob27 fa fb out k at' n w)) = some (.exit 3, in27 s (we s (N + 1) i) from' (ob27 fa fb out k at' n w)) := by
  intro N
  induction N with
  | zero =>
    intro i h0 h1
    have hi : ¬ i < (s.size : Int) := by omega
    rw [g3, we, if_neg hi]
    simp only [hi, decide_false, cond_false]
  | succ N ih =>
    intro i h0 h1
    rw [g3, we]
    by_cases hi : i < (s.size : Int)
    · obtain ⟨c, hc⟩ := getB_at h0 hi
      have hw : IntKind.i64.wrap (i + 1) = i + 1 := wrap_i64 (by omega) (by omega)
      rw [if_pos hi, hc, hw, ih (i + 1) (by omega) (by omega), Option.bind_some]
      simp only [hi, decide_true, cond_true]
      by_cases hl : 0 < letter c
      · simp only [hl, decide_true, cond_true, if_true]
      · simp only [hl, decide_false, cond_false, if_false]
    · rw [if_neg hi]
      simp only [hi, decide_false, cond_false]
theorem we_ge (s : ByteArray) : ∀ (N : Nat) (i : Int), i ≤ s.size → i ≤ we s N i ∧ we s N i ≤ s.size := by
  intro N
  induction N with
  | zero => intro i h; exact ⟨Int.le_refl _, h⟩
  | succ N ih =>
    intro i h
    unfold we
    split
    · have := ih (i + 1) (by omega)
      split
      · split
        · exact ⟨by omega, this.2⟩
        · exact ⟨Int.le_refl _, h⟩
      · exact ⟨Int.le_refl _, h⟩
    · exact ⟨Int.le_refl _, h⟩
/-! ### Numbers -/
def dig (n c : Int) : Int := IntKind.i64.wrap (IntKind.i64.wrap (n * 10) + IntKind.i64.wrap (IntKind.u8.wrap (c - 48)))
/-- A number's flaw: the nil list, and where the number begins. -/
def bad5 (s : ByteArray) (i from' : Int) (o : List (TO U)) : TS U := mkS 109 [(0, .v (.string s)), (2, .v (.slice none 0 0)), (3, .ref 0 0 0), (4, .full 1), (5, .v (.int .i64 i)), (6, .ref 2 0 0), (7, .v (.int .i64 from'))] o 0
theorem g5 (lp : Lp U) (s : ByteArray) (out : List R53) (fa fb k at' n i from' : Int) (w : ByteArray) (N : Nat) : fnLoop X E27 an27 lp Try.f41 5 N.succ (in27 s i from' (ob27 fa fb out k at' n w)) = cond (decide (i < s.size)) ((getB s i).bind fun c => cond (decide (letter c = 2)) ((getB s i).bind fun c2 => cond (decide (2147483648 < dig n c2)) (some (.ret, bad5 s i from' (ob27 180 from' out k at' (dig n c2) w))) (fnLoop X E27 an27 lp Try.f41 5 N (in27 s (IntKind.i64.wrap (i + 1)) from' (ob27 fa fb out k at' (dig n c2) w)))) (some (.exit 5, in27 s i from' (ob27 fa fb out k at' n w)))) (some (.exit 5, in27 s i from' (ob27 fa fb out k at' n w))) := by kernel_rfl
def nb (s : ByteArray) : Nat → Int → Int → Int × Int × Bool
  | 0, i, n => (i, n, false)
  | N + 1, i, n => if i < s.size then (match getB s i with
    | some c => if letter c = 2 then (if 2147483648 < dig n c then (i, dig n c, true) else nb s N (i + 1) (dig n c)) else (i, n, false)
    | none => (i, n, false)) else (i, n, false)
def end5 (s : ByteArray) (from' : Int) (fa fb : Int) (out : List R53) (k at' : Int) (w : ByteArray) (r : Int × Int × Bool) : Exit × TS U :=
  cond r.2.2 (.ret, bad5 s r.1 from' (ob27 180 from' out k at' r.2.1 w)) (.exit 5, in27 s r.1 from' (ob27 fa fb out k at' r.2.1 w))
theorem rounds5 (lp : Lp U) {s : ByteArray} (hs : s.size ≤ 1000000) (out : List R53) (fa fb k at' from' : Int) (w : ByteArray) : ∀ (N : Nat) (i n : Int), 0 ≤ i → (s.size : Int) ≤ i + N →
    fnLoop X E27 an27 lp Try.f41 5 (N + 1) (in27 s i from' (ob27 fa fb out k at' n w)) = some (end5 s from' fa fb out k at' w (nb s (N + 1) i n)) := by
  intro N
  induction N with
  | zero =>
    intro i n h0 h1
    have hi : ¬ i < (s.size : Int) := by omega
    rw [g5, nb, if_neg hi]
    simp only [hi, decide_false, cond_false]
    rfl
  | succ N ih =>
    intro i n h0 h1
    rw [g5, nb]
    by_cases hi : i < (s.size : Int)
    · obtain ⟨c, hc⟩ := getB_at h0 hi
      have hw : IntKind.i64.wrap (i + 1) = i + 1 := wrap_i64 (by omega) (by omega)
      rw [if_pos hi, hc, hw, Option.bind_some, Option.bind_some, ih (i + 1) (dig n c) (by omega) (by omega)]
      simp only [hi, decide_true, cond_true]
      by_cases hl : letter c = 2
      · by_cases hb : 2147483648 < dig n c
        · simp only [hl, hb, decide_true, cond_true, if_true]
          rfl
        · simp only [hl, hb, decide_true, decide_false, cond_true, cond_false, if_true, if_false]
      · simp only [hl, decide_false, cond_false, if_false]
        rfl
    · rw [if_neg hi]
      simp only [hi, decide_false, cond_false]
      rfl
theorem nb_ge (s : ByteArray) : ∀ (N : Nat) (i n : Int), i ≤ s.size → i ≤ (nb s N i n).1 ∧ (nb s N i n).1 ≤ s.size := by
  intro N
  induction N with
  | zero => intro i n h; exact ⟨Int.le_refl _, h⟩
  | succ N ih =>
    intro i n h
    unfold nb
    split
    · split
      · rename_i c hc
        have := ih (i + 1) (dig n c) (by omega)
        split
        · split
          · exact ⟨Int.le_refl _, h⟩
          · exact ⟨by omega, this.2⟩
        · exact ⟨Int.le_refl _, h⟩
      · exact ⟨Int.le_refl _, h⟩
    · exact ⟨Int.le_refl _, h⟩
/-! ### Loops of Lex -/
def dl3 (s : TS U) : Option (Int × Int × List R53 × Int × Int × Int × ByteArray × ByteArray × Int × Int) := match told s 109 [0, 3, 4, 5, 6, 7] 0, s.objs with
  | some [a0, a1, a2, a3, a4, a5], [o0, o1, o2] =>
    match o0 with
    | .cells [q0, q1] false =>
      match q0 with
      | .v (.int .i64 fa) =>
        match q1 with
        | .v (.int .i64 fb) =>
          match o1 with
          | .row .t53 out false =>
            match o2 with
            | .cells [q2, q3, q4, q5] false =>
              match q2 with
              | .v (.int .i64 k) =>
                match q3 with
                | .v (.int .i64 at') =>
                  match q4 with
                  | .v (.int .i64 n) =>
                    match q5 with
                    | .v (.string w) =>
                      match a0 with
                      | .v (.string t) =>
                        match a1 with
                        | .ref 0 0 0 =>
                          match a2 with
                          | .full 1 =>
                            match a3 with
                            | .v (.int .i64 i) =>
                              match a4 with
                              | .ref 2 0 0 =>
                                match a5 with
                                | .v (.int .i64 from') =>
                                  some (fa, fb, out, k, at', n, w, t, i, from')
                                | _ => none
                              | _ => none
                            | _ => none
                          | _ => none
                        | _ => none
                      | _ => none
                    | _ => none
                  | _ => none
                | _ => none
              | _ => none
            | _ => none
          | _ => none
        | _ => none
      | _ => none
    | _ => none
  | _, _ => none
theorem dl3_ok {s : TS U} {fa : Int} {fb : Int} {out : List R53} {k : Int} {at' : Int} {n : Int} {w : ByteArray} {t : ByteArray} {i : Int} {from' : Int} (h : dl3 s = some (fa, fb, out, k, at', n, w, t, i, from')) : s = mkS (U := U) 109 ([0, 3, 4, 5, 6, 7].zip ([.v (.string t), .ref 0 0 0, .full 1, .v (.int .i64 i), .ref 2 0 0, .v (.int .i64 from')] : List (TV U))) ([.cells [.v (.int .i64 fa), .v (.int .i64 fb)] false, .row .t53 out false, .cells [.v (.int .i64 k), .v (.int .i64 at'), .v (.int .i64 n), .v (.string w)] false] : List (TO U)) 0 := by
  unfold dl3 at h
  split at h <;> try (cases h; done)
  rename_i ht ho
  have hs := told_ok ht
  rw [ho] at hs
  repeat' split at h
  all_goals first | (cases h; done) | (cases h; exact hs)
def lc3 : LC U := .of dl3 (fun (fa, fb, out, k, at', n, w, t, i, from') => PreS t i) (.exit 3) (fun (fa, fb, out, k, at', n, w, t, i, from') => in27 t (we t (t.size + 1) i) from' (ob27 fa fb out k at' n w))
def lc5 : LC U := .of2 dl3 (fun (fa, fb, out, k, at', n, w, t, i, from') => PreS t i) (fun (fa, fb, out, k, at', n, w, t, i, from') => (nb t (t.size + 1) i n).2.2)
  .ret (fun (fa, fb, out, k, at', n, w, t, i, from') => bad5 t (nb t (t.size + 1) i n).1 from' (ob27 180 from' out k at' (nb t (t.size + 1) i n).2.1 w))
  (.exit 5) (fun (fa, fb, out, k, at', n, w, t, i, from') => in27 t (nb t (t.size + 1) i n).1 from' (ob27 fa fb out k at' (nb t (t.size + 1) i n).2.1 w))
theorem lc3_ok (lp : Lp U) (st : TS U) (p : Exit × TS U) (hs : lc3.F st (fun e s => some (e, s)) = some p) : ∃ n, fnLoop X E27 an27 lp Try.f41 3 n st = some p := by
  obtain ⟨⟨fa, fb, out, k, at', n, w, t, i, from'⟩, hx, hp, rfl⟩ := LC.of_some hs
  obtain rfl := dl3_ok hx
  obtain ⟨h1, h2⟩ := hp
  exact ⟨t.size + 1, rounds3 lp h1 out fa fb k at' n from' w t.size i h2 (by omega)⟩
theorem lc5_ok (lp : Lp U) (st : TS U) (p : Exit × TS U) (hs : lc5.F st (fun e s => some (e, s)) = some p) : ∃ n, fnLoop X E27 an27 lp Try.f41 5 n st = some p := by
  obtain ⟨⟨fa, fb, out, k, at', n, w, t, i, from'⟩, hx, hp, rfl⟩ := LC.of2_some hs
  obtain rfl := dl3_ok hx
  obtain ⟨h1, h2⟩ := hp
  exact ⟨t.size + 1, rounds5 lp h1 out fa fb k at' from' w t.size i n h2 (by omega)⟩
end Go.Proofs.Ytpkgikchphgfaaa.Fl
/- The references' lexer: a word. -/
namespace Go.Proofs.Ytpkgikchphgfaaa.Fl
open Go Go.RowKit Go.Proofs.Ytpkgikchphgfaaa.Eng
set_option linter.unusedVariables false
set_option linter.unusedSimpArgs false
set_option maxRecDepth 20000
noncomputable def L0 : Code := loopAt Try.f41 0
noncomputable def LB : Code := bB (sR L0)
def ob2 (fa fb : Int) (out : List R53) : List (TO U) := [.cells [.v (.int .i64 fa), .v (.int .i64 fb)] false, .row .t53 out false]
/-- A cut. -/
def cutS (s : ByteArray) (i j : Int) : ByteArray := (cutB s (some i) (some j)).getD ⟨#[]⟩
/-- The word that begins there, and where it ends; none: none can. -/
def wd1 (s : ByteArray) (i : Int) : Option (R53 × Int) := (getB s i).bind fun c =>
  if letter c = 1 then some (⟨if kept (cutS s i (we s (s.size + 1) i)) then 3 else 1, i, 0, cutS s i (we s (s.size + 1) i)⟩, we s (s.size + 1) i)
  else if letter c = 2 then (if (nb s (s.size + 1) i 0).2.2 then none else some (⟨2, i, (nb s (s.size + 1) i 0).2.1, cutS s i (nb s (s.size + 1) i 0).1⟩, (nb s (s.size + 1) i 0).1))
  else if sgn s i = 0 then none else some (⟨4, i, 0, cutS s i (i + sgn s i)⟩, i + sgn s i)
/-- The words from there on; where none can be. -/
def lxs (s : ByteArray) : Nat → Int → List R53 → List R53 × Option Int
  | 0, i, out => (out, none)
  | N + 1, i, out => if i < s.size then (match wd1 s i with
    | some (t, j) => lxs s N (sk s (s.size + 1) j false).1 (out ++ [t])
    | none => (out, some i)) else (out, none)
def badL (s : ByteArray) (fb : Int) (out : List R53) : TS U := mkS 109 [(0, .v (.string s)), (2, .v (.slice none 0 0)), (3, .ref 0 0 0), (4, .full 1)] (ob2 180 fb out) 0
def exL (s : ByteArray) (fa fb : Int) (out : List R53) : TS U := mkS 109 [(0, .v (.string s)), (3, .ref 0 0 0), (4, .full 1)] (ob2 fa fb out) 0
def dl0 (s : TS U) : Option (Int × Int × List R53 × ByteArray × Int) := match told s 109 [0, 3, 4, 5] 0, s.objs with
  | some [a0, a1, a2, a3], [o0, o1] =>
    match o0 with
    | .cells [q0, q1] false =>
      match q0 with
      | .v (.int .i64 fa) =>
        match q1 with
        | .v (.int .i64 fb) =>
          match o1 with
          | .row .t53 out false =>
            match a0 with
            | .v (.string t) =>
              match a1 with
              | .ref 0 0 0 =>
                match a2 with
                | .full 1 =>
                  match a3 with
                  | .v (.int .i64 i) =>
                    some (fa, fb, out, t, i)
                  | _ => none
                | _ => none
              | _ => none
            | _ => none
          | _ => none
        | _ => none
      | _ => none
    | _ => none
  | _, _ => none
theorem dl0_ok {s : TS U} {fa : Int} {fb : Int} {out : List R53} {t : ByteArray} {i : Int} (h : dl0 s = some (fa, fb, out, t, i)) : s = mkS (U := U) 109 ([0, 3, 4, 5].zip ([.v (.string t), .ref 0 0 0, .full 1, .v (.int .i64 i)] : List (TV U))) ([.cells [.v (.int .i64 fa), .v (.int .i64 fb)] false, .row .t53 out false] : List (TO U)) 0 := by
  unfold dl0 at h
  split at h <;> try (cases h; done)
  rename_i ht ho
  have hs := told_ok ht
  rw [ho] at hs
  repeat' split at h
  all_goals first | (cases h; done) | (cases h; exact hs)
def PreL (s : ByteArray) (i : Int) (out : Nat) : Prop := s.size ≤ 100000 ∧ 0 ≤ i ∧ out = 0
instance (s : ByteArray) (i : Int) (out : Nat) : Decidable (PreL s i out) := by unfold PreL; infer_instance
def lc0 : LC U := .of2 dl0 (fun (fa, fb, out, t, i) => PreL t i out.length) (fun (fa, fb, out, t, i) => (lxs t (t.size + 1) i []).2.isSome)
  .ret (fun (fa, fb, out, t, i) => badL t ((lxs t (t.size + 1) i []).2.getD 0) (lxs t (t.size + 1) i []).1) (.exit 0) (fun (fa, fb, out, t, i) => exL t fa fb (lxs t (t.size + 1) i []).1)
def lp27 : Lp U := lpL [(0, lc0), (3, lc3), (5, lc5)]
def l0 (s : ByteArray) (i : Int) (o : List (TO U)) : TS U := mkS 109 [(0, .v (.string s)), (3, .ref 0 0 0), (4, .full 1), (5, .v (.int .i64 i))] o 0
def ix (s : ByteArray) (i from' : Int) (o : List (TO U)) (l : List (Nat × TV U)) : TS U := mkS 109 ([(0, .v (.string s)), (3, .ref 0 0 0), (4, .full 1), (5, .v (.int .i64 i)), (6, .ref 2 0 0), (7, .v (.int .i64 from'))] ++ l) o 0
noncomputable def SW : Code := bB (sR (sL (sR LB)))
noncomputable def SA : Code := cT (sR SW)
noncomputable def SBC : Code := cF (sR SW)
section
variable (R : Type) (K : Exit → TS U → Option R) (lp : Lp U) (s : ByteArray) (out : List R53) (fa fb k at' n i from' : Int) (w : ByteArray)
theorem a0 : evC X E27 an27 lp (sL L0) 0 (l0 s i (ob2 fa fb out)) K = cond (decide (i < s.size)) (K .normal (mkS 109 [(0, .v (.string s)), (3, .ref 0 0 0), (4, .full 1), (5, .v (.int .i64 i)), (19, .v (.bool true))] (ob2 fa fb out) 0)) (K (.exit 0) (mkS 109 [(0, .v (.string s)), (3, .ref 0 0 0), (4, .full 1), (5, .v (.int .i64 i)), (19, .v (.bool false))] (ob2 fa fb out) 0)) := by kernel_rfl
theorem a1 : evC X E27 an27 lp (sL LB) 1 (mkS 109 [(0, .v (.string s)), (3, .ref 0 0 0), (4, .full 1), (5, .v (.int .i64 i)), (19, .v (.bool true))] (ob2 fa fb out) 0) K = K .normal (ix s i i (ob27 fa fb out 4 i 0 ⟨#[]⟩) []) := by kernel_rfl
theorem a2 : evC X E27 an27 lp (sL (sL (sR LB))) 1 (ix s i from' (ob27 fa fb out k at' n w) []) K = (getB s i).bind fun c => K .normal (ix s i from' (ob27 fa fb out k at' n w) [(26, .v (.int .i64 (letter c)))]) := by kernel_rfl
end
theorem b1 (R : Type) (K : Exit → TS U → Option R) (lp : Lp U) (s : ByteArray) (out : List R53) (fa : Int) (fb : Int) (k : Int) (at' : Int) (n : Int) (i : Int) (from' : Int) (c : Int) (w : ByteArray) : (evC X E27 an27 lp (sL SW) 2 (ix s i from' (ob27 fa fb out k at' n w) [(26, TV.v (Value.int IntKind.i64 c))]) K) = K Exit.normal (mkS 109 [(0, TV.v (Value.string s)), (3, TV.ref 0 0 0), (4, TV.full 1), (5, TV.v (Value.int IntKind.i64 i)), (6, TV.ref 2 0 0), (7, TV.v (Value.int IntKind.i64 from')), (26, TV.v (Value.int IntKind.i64 c)), (37, TV.v (Value.bool (decide (c = 1))))] [TO.cells [TV.v (Value.int IntKind.i64 fa), TV.v (Value.int IntKind.i64 fb)] false, TO.row C.t53 out false, TO.cells [TV.v (Value.int IntKind.i64 k), TV.v (Value.int IntKind.i64 at'), TV.v (Value.int IntKind.i64 n), TV.v (Value.string w)] false] 0) := by kernel_rfl
theorem b2 (R : Type) (K : Exit → TS U → Option R) (s : ByteArray) (out : List R53) (fa : Int) (fb : Int) (k : Int) (at' : Int) (n : Int) (i : Int) (from' : Int) (c : Int) (w : ByteArray) : (evC X E27 an27 lp27 SA 2 (ix s i from' (ob27 fa fb out k at' n w) [(26, TV.v (Value.int IntKind.i64 c)), (37, TV.v (Value.bool true))]) K) = if PreS s i then (cutB s (some from') (some (we s (s.size + 1) i))).bind fun (c : ByteArray) => if True then bif kept c then K Exit.normal (mkS 109 [(0, TV.v (Value.string s)), (3, TV.ref 0 0 0), (4, TV.full 1), (5, TV.v (Value.int IntKind.i64 (we s (s.size + 1) i))), (6, TV.ref 2 0 0), (7, TV.v (Value.int IntKind.i64 from'))] [TO.cells [TV.v (Value.int IntKind.i64 fa), TV.v (Value.int IntKind.i64 fb)] false, TO.row C.t53 out false, TO.cells [TV.v (Value.int IntKind.i64 3), TV.v (Value.int IntKind.i64 at'), TV.v (Value.int IntKind.i64 n), TV.v (Value.string w)] false] 0) else K Exit.normal (mkS 109 [(0, TV.v (Value.string s)), (3, TV.ref 0 0 0), (4, TV.full 1), (5, TV.v (Value.int IntKind.i64 (we s (s.size + 1) i))), (6, TV.ref 2 0 0), (7, TV.v (Value.int IntKind.i64 from')), (57, TV.v (Value.bool false))] [TO.cells [TV.v (Value.int IntKind.i64 fa), TV.v (Value.int IntKind.i64 fb)] false, TO.row C.t53 out false, TO.cells [TV.v (Value.int IntKind.i64 1), TV.v (Value.int IntKind.i64 at'), TV.v (Value.int IntKind.i64 n), TV.v (Value.string w)] false] 0) else none else none := by kernel_rfl
theorem b3 (R : Type) (K : Exit → TS U → Option R) (lp : Lp U) (s : ByteArray) (out : List R53) (fa : Int) (fb : Int) (k : Int) (at' : Int) (n : Int) (i : Int) (from' : Int) (c : Int) (w : ByteArray) : (evC X E27 an27 lp (sL SBC) 2 (ix s i from' (ob27 fa fb out k at' n w) [(26, TV.v (Value.int IntKind.i64 c)), (37, TV.v (Value.bool false))]) K) = K Exit.normal (mkS 109 [(0, TV.v (Value.string s)), (3, TV.ref 0 0 0), (4, TV.full 1), (5, TV.v (Value.int IntKind.i64 i)), (6, TV.ref 2 0 0), (7, TV.v (Value.int IntKind.i64 from')), (59, TV.v (Value.bool (decide (c = 2))))] [TO.cells [TV.v (Value.int IntKind.i64 fa), TV.v (Value.int IntKind.i64 fb)] false, TO.row C.t53 out false, TO.cells [TV.v (Value.int IntKind.i64 k), TV.v (Value.int IntKind.i64 at'), TV.v (Value.int IntKind.i64 n), TV.v (Value.string w)] false] 0) := by kernel_rfl
theorem b4 (R : Type) (K : Exit → TS U → Option R) (s : ByteArray) (out : List R53) (fa : Int) (fb : Int) (k : Int) (at' : Int) (n : Int) (i : Int) (from' : Int) (w : ByteArray) : (evC X E27 an27 lp27 (cT (sR SBC)) 2 (ix s i from' (ob27 fa fb out k at' n w) [(59, TV.v (Value.bool true))]) K) = if PreS s i then bif (nb s (s.size + 1) i n).snd.snd then K Exit.ret (mkS 109 [(0, TV.v (Value.string s)), (2, TV.v (Value.slice none 0 0)), (3, TV.ref 0 0 0), (4, TV.full 1), (5, TV.v (Value.int IntKind.i64 (nb s (s.size + 1) i n).fst)), (6, TV.ref 2 0 0), (7, TV.v (Value.int IntKind.i64 from'))] [TO.cells [TV.v (Value.int IntKind.i64 180), TV.v (Value.int IntKind.i64 from')] false, TO.row C.t53 out false, TO.cells [TV.v (Value.int IntKind.i64 2), TV.v (Value.int IntKind.i64 at'), TV.v (Value.int IntKind.i64 (nb s (s.size + 1) i n).snd.fst), TV.v (Value.string w)] false] 0) else K Exit.normal (mkS 109 [(0, TV.v (Value.string s)), (3, TV.ref 0 0 0), (4, TV.full 1), (5, TV.v (Value.int IntKind.i64 (nb s (s.size + 1) i n).fst)), (6, TV.ref 2 0 0), (7, TV.v (Value.int IntKind.i64 from'))] [TO.cells [TV.v (Value.int IntKind.i64 fa), TV.v (Value.int IntKind.i64 fb)] false, TO.row C.t53 out false, TO.cells [TV.v (Value.int IntKind.i64 2), TV.v (Value.int IntKind.i64 at'), TV.v (Value.int IntKind.i64 (nb s (s.size + 1) i n).snd.fst), TV.v (Value.string w)] false] 0) else none := by kernel_rfl
theorem b5 (R : Type) (K : Exit → TS U → Option R) (lp : Lp U) (s : ByteArray) (out : List R53) (fa : Int) (fb : Int) (k : Int) (at' : Int) (n : Int) (i : Int) (from' : Int) (w : ByteArray) : (evC X E27 an27 lp (cF (sR SBC)) 2 (ix s i from' (ob27 fa fb out k at' n w) [(59, TV.v (Value.bool false))]) K) = if Pre45 s i then bif decide (sgn s i = 0) then K Exit.ret (mkS 109 [(0, TV.v (Value.string s)), (2, TV.v (Value.slice none 0 0)), (3, TV.ref 0 0 0), (4, TV.full 1), (5, TV.v (Value.int IntKind.i64 i)), (6, TV.ref 2 0 0), (7, TV.v (Value.int IntKind.i64 from')), (8, TV.v (Value.int IntKind.i64 (sgn s i))), (31, TV.v (Value.bool true)), (32, TV.v (Value.int IntKind.i64 from')), (33, TV.agg [TV.v (Value.int IntKind.i64 180), TV.v (Value.int IntKind.i64 from')])] [TO.cells [TV.v (Value.int IntKind.i64 180), TV.v (Value.int IntKind.i64 from')] false, TO.row C.t53 out false, TO.cells [TV.v (Value.int IntKind.i64 k), TV.v (Value.int IntKind.i64 at'), TV.v (Value.int IntKind.i64 n), TV.v (Value.string w)] false] 0) else K Exit.normal (mkS 109 [(0, TV.v (Value.string s)), (3, TV.ref 0 0 0), (4, TV.full 1), (5, TV.v (Value.int IntKind.i64 (IntKind.i64.wrap (i + sgn s i)))), (6, TV.ref 2 0 0), (7, TV.v (Value.int IntKind.i64 from'))] [TO.cells [TV.v (Value.int IntKind.i64 fa), TV.v (Value.int IntKind.i64 fb)] false, TO.row C.t53 out false, TO.cells [TV.v (Value.int IntKind.i64 k), TV.v (Value.int IntKind.i64 at'), TV.v (Value.int IntKind.i64 n), TV.v (Value.string w)] false] 0) else none := by kernel_rfl
end Go.Proofs.Ytpkgikchphgfaaa.Fl
/- The references' lexer: a round, and all of them. -/
namespace Go.Proofs.Ytpkgikchphgfaaa.Fl
open Go Go.RowKit Go.Proofs.Ytpkgikchphgfaaa.Eng
set_option linter.unusedVariables false
set_option linter.unusedSimpArgs false
set_option maxRecDepth 20000
theorem hL0 : loopAt Try.f41 0 = .seq (sL L0) (.block 1 (.seq (sL LB) (.seq (.seq (sL (sL (sR LB))) (.block 2 (.seq (sL SW) (sR SW)))) (sR (sR LB))))) := by kernel_rfl
section
variable (R : Type) (K : Exit → TS U → Option R) (lp : Lp U) (s : ByteArray) (out : List R53) (fa fb k at' n i from' c : Int) (w : ByteArray) (v : Bool)
theorem c1 : evC X E27 an27 lp (sR SW) 2 (ix s i from' (ob27 fa fb out k at' n w) [(26, .v (.int .i64 c)), (37, .v (.bool v))]) K = cond v (evC X E27 an27 lp SA 2 (ix s i from' (ob27 fa fb out k at' n w) [(26, .v (.int .i64 c)), (37, .v (.bool true))]) K) (evC X E27 an27 lp SBC 2 (ix s i from' (ob27 fa fb out k at' n w) [(26, .v (.int .i64 c)), (37, .v (.bool false))]) K) := by kernel_rfl
theorem c2 : evC X E27 an27 lp (sR SBC) 2 (ix s i from' (ob27 fa fb out k at' n w) [(59, .v (.bool v))]) K = cond v (evC X E27 an27 lp (cT (sR SBC)) 2 (ix s i from' (ob27 fa fb out k at' n w) [(59, .v (.bool true))]) K) (evC X E27 an27 lp (cF (sR SBC)) 2 (ix s i from' (ob27 fa fb out k at' n w) [(59, .v (.bool false))]) K) := by kernel_rfl
theorem hSBC : SBC = .seq (sL SBC) (sR SBC) := by kernel_rfl
theorem a3 : evC X E27 an27 lp (sR (sR LB)) 1 (ix s i from' (ob27 fa fb out k at' n w) []) K = (cutB s (some from') (some i)).bind fun c => if (out.length + 1) * 40 ≤ 140737488355328 then (if PreS s i then K .normal (l0 s (sk s (s.size + 1) i false).1 (ob2 fa fb (out ++ [⟨k, at', n, c⟩]))) else none) else none := by kernel_rfl
theorem a3' : evC X E27 an27 lp (sR (sR LB)) 1 (ix s i from' (ob27 fa fb out k at' n w) [(57, .v (.bool false))]) K = (cutB s (some from') (some i)).bind fun c => if (out.length + 1) * 40 ≤ 140737488355328 then (if PreS s i then K .normal (l0 s (sk s (s.size + 1) i false).1 (ob2 fa fb (out ++ [⟨k, at', n, c⟩]))) else none) else none := by kernel_rfl
end
theorem cutB_at {s : ByteArray} {i j : Int} (h0 : 0 ≤ i) (h1 : i ≤ j) (h2 : j ≤ s.size) : cutB s (some i) (some j) = some (cutS s i j) := by
  have e : cutB s (some i) (some j) = some (s.extract i.toNat j.toNat) := if_pos ⟨h0, h1, h2⟩
  unfold cutS
  rw [e]
  rfl
theorem we_gt {s : ByteArray} {N : Nat} {i c : Int} (hc : getB s i = some c) (hl : 0 < letter c) (hi : i < s.size) : i + 1 ≤ we s (N + 1) i ∧ we s (N + 1) i ≤ s.size := by
  rw [we, if_pos hi, hc]
  dsimp only
  rw [if_pos hl]
  exact we_ge s N (i + 1) (by omega)
theorem nb_gt {s : ByteArray} {N : Nat} {i n c : Int} (hc : getB s i = some c) (hl : letter c = 2) (hi : i < s.size) (hb : (nb s (N + 1) i n).2.2 = false) : i + 1 ≤ (nb s (N + 1) i n).1 ∧ (nb s (N + 1) i n).1 ≤ s.size := by
  rw [nb, if_pos hi, hc] at hb ⊢
  dsimp only at hb ⊢
  rw [if_pos hl] at hb ⊢
  split
  · rename_i hg
    rw [if_pos hg] at hb
    cases hb
  · exact nb_ge s N (i + 1) _ (by omega)
theorem sgn_gt {s : ByteArray} {i : Int} (hi : i < s.size) (h : sgn s i ≠ 0) : i + 1 ≤ i + sgn s i ∧ i + sgn s i ≤ s.size := by
  unfold sgn at h ⊢
  cases hs : isSg s i with
  | false => rw [hs] at h; exact absurd rfl h
  | true =>
    cases he : eqEq s i with
    | false => exact ⟨by simp only [cond_true, cond_false]; omega, by simp only [cond_true, cond_false]; omega⟩
    | true =>
      unfold eqEq at he
      rw [Bool.and_eq_true] at he
      have := of_decide_eq_true he.1
      simp only [cond_true]
      omega
theorem letter_cases (c : Int) : letter c = 0 ∨ letter c = 1 ∨ letter c = 2 := by
  unfold letter
  split
  · exact .inr (.inl rfl)
  · split
    · exact .inr (.inr rfl)
    · exact .inl rfl
theorem wd1_gt {s : ByteArray} {i : Int} (h0 : 0 ≤ i) (hi : i < s.size) {t : R53} {j : Int} (h : wd1 s i = some (t, j)) : i + 1 ≤ j ∧ j ≤ s.size := by
  obtain ⟨c, hc⟩ := getB_at h0 hi
  unfold wd1 at h
  rw [hc, Option.bind_some] at h
  split at h
  · rename_i hl
    cases h
    exact we_gt hc (by omega) hi
  · split at h
    · rename_i hl
      split at h
      · cases h
      · rename_i hb
        cases h
        exact nb_gt hc hl hi (by simpa using hb)
    · split at h
      · cases h
      · rename_i hs
        cases h
        exact sgn_gt hi hs
theorem roundL {R : Type} {K : Exit → TS U → Option R} {s : ByteArray} {out : List R53} {fa fb i : Int} (hs : s.size ≤ 1000000) (h0 : 0 ≤ i) (hi : i < s.size) (ho : out.length ≤ 1000000) :
    (∀ t j, wd1 s i = some (t, j) → evC X E27 an27 lp27 (loopAt Try.f41 0) 0 (l0 s i (ob2 fa fb out)) K = K .normal (l0 s (sk s (s.size + 1) j false).1 (ob2 fa fb (out ++ [t])))) ∧
    (wd1 s i = none → ∃ st : TS U, evNorm (X := X) (an27.out 0) st = some (badL s i out) ∧ evC X E27 an27 lp27 (loopAt Try.f41 0) 0 (l0 s i (ob2 fa fb out)) K = K .ret st) := by
  obtain ⟨c, hc⟩ := getB_at h0 hi
  have hd : decide (i < (s.size : Int)) = true := decide_eq_true hi
  have hps : PreS s i := ⟨hs, h0⟩
  have hp45 : Pre45 s i := ⟨hs, h0, hi⟩
  have hlen : ∀ _ : Unit, (out.length + 1) * 40 ≤ 140737488355328 := fun _ => by omega
  have hcut : ∀ j, i ≤ j → j ≤ s.size → cutB s (some i) (some j) = some (cutS s i j) := fun j h1 h2 => cutB_at h0 h1 h2
  rw [hL0, evC_seq, a0, hd, cond_true]
  dsimp only
  rw [evC_block, evC_seq, a1]
  dsimp only
  rw [evC_seq, evC_seq, a2, hc, Option.bind_some]
  dsimp only
  rw [evC_block, evC_seq, b1]
  have e1 : ∀ (v : Bool), mkS (U := U) 109 [(0, .v (.string s)), (3, .ref 0 0 0), (4, .full 1), (5, .v (.int .i64 i)), (6, .ref 2 0 0), (7, .v (.int .i64 i)), (26, .v (.int .i64 (letter c))), (37, .v (.bool v))] [.cells [.v (.int .i64 fa), .v (.int .i64 fb)] false, .row .t53 out false, .cells [.v (.int .i64 4), .v (.int .i64 i), .v (.int .i64 0), .v (.string ⟨#[]⟩)] false] 0 = ix s i i (ob27 fa fb out 4 i 0 ⟨#[]⟩) [(26, .v (.int .i64 (letter c))), (37, .v (.bool v))] := fun _ => rfl
  have e2 : ∀ (v : Bool), mkS (U := U) 109 [(0, .v (.string s)), (3, .ref 0 0 0), (4, .full 1), (5, .v (.int .i64 i)), (6, .ref 2 0 0), (7, .v (.int .i64 i)), (59, .v (.bool v))] [.cells [.v (.int .i64 fa), .v (.int .i64 fb)] false, .row .t53 out false, .cells [.v (.int .i64 4), .v (.int .i64 i), .v (.int .i64 0), .v (.string ⟨#[]⟩)] false] 0 = ix s i i (ob27 fa fb out 4 i 0 ⟨#[]⟩) [(59, .v (.bool v))] := fun _ => rfl
  have e3 : ∀ (k n j : Int), mkS (U := U) 109 [(0, .v (.string s)), (3, .ref 0 0 0), (4, .full 1), (5, .v (.int .i64 j)), (6, .ref 2 0 0), (7, .v (.int .i64 i))] [.cells [.v (.int .i64 fa), .v (.int .i64 fb)] false, .row .t53 out false, .cells [.v (.int .i64 k), .v (.int .i64 i), .v (.int .i64 n), .v (.string ⟨#[]⟩)] false] 0 = ix s j i (ob27 fa fb out k i n ⟨#[]⟩) [] := fun _ _ _ => rfl
  have e4 : ∀ (k n j : Int), mkS (U := U) 109 [(0, .v (.string s)), (3, .ref 0 0 0), (4, .full 1), (5, .v (.int .i64 j)), (6, .ref 2 0 0), (7, .v (.int .i64 i)), (57, .v (.bool false))] [.cells [.v (.int .i64 fa), .v (.int .i64 fb)] false, .row .t53 out false, .cells [.v (.int .i64 k), .v (.int .i64 i), .v (.int .i64 n), .v (.string ⟨#[]⟩)] false] 0 = ix s j i (ob27 fa fb out k i n ⟨#[]⟩) [(57, .v (.bool false))] := fun _ _ _ => rfl
  dsimp only
  rw [e1, c1]
  unfold wd1
  rw [hc, Option.bind_some]
  rcases letter_cases c with hl | hl | hl
  · rw [hl, if_neg (by decide), if_neg (by decide)]
    simp only [show decide ((0 : Int) = 1) = false from rfl, cond_false]
    rw [hSBC, evC_seq, b3]
    dsimp only
    rw [e2, c2]
    simp only [show decide ((0 : Int) = 2) = false from rfl, cond_false]
    rw [b5, if_pos hp45]
    by_cases hg : sgn s i = 0
    · rw [if_pos hg]
      simp only [hg, decide_true, cond_true]
      exact ⟨fun t j h => (by cases h), fun _ => ⟨_, by kernel_rfl, rfl⟩⟩
    · rw [if_neg hg]
      obtain ⟨hj1, hj2⟩ := sgn_gt hi hg
      have hw : IntKind.i64.wrap (i + sgn s i) = i + sgn s i := wrap_i64 (by omega) (by omega)
      simp only [hg, decide_false, cond_false]
      rw [hw, e3, a3, hcut _ (by omega) hj2, Option.bind_some, if_pos (hlen ()), if_pos (show PreS s (i + sgn s i) from ⟨hs, by omega⟩)]
      exact ⟨fun t j h => (by cases h; rfl), fun h => (by cases h)⟩
  · rw [hl, if_pos (rfl : (1 : Int) = 1)]
    obtain ⟨hj1, hj2⟩ := we_gt (N := s.size) hc (by omega) hi
    rw [show decide ((1 : Int) = 1) = true from rfl, cond_true]
    rw [b2, if_pos hps, hcut _ (by omega) hj2, Option.bind_some, if_pos trivial]
    cases hk : kept (cutS s i (we s (s.size + 1) i)) with
    | true =>
      rw [cond_true]
      dsimp only
      rw [e3, a3, hcut _ (by omega) hj2, Option.bind_some, if_pos (hlen ()), if_pos (show PreS s (we s (s.size + 1) i) from ⟨hs, by omega⟩)]
      exact ⟨fun t j h => (by cases h; rfl), fun h => (by cases h)⟩
    | false =>
      rw [cond_false]
      dsimp only
      rw [e4, a3', hcut _ (by omega) hj2, Option.bind_some, if_pos (hlen ()), if_pos (show PreS s (we s (s.size + 1) i) from ⟨hs, by omega⟩)]
      exact ⟨fun t j h => (by cases h; rfl), fun h => (by cases h)⟩
  · rw [hl, if_neg (by decide), if_pos (rfl : (2 : Int) = 2)]
    simp only [show decide ((2 : Int) = 1) = false from rfl, cond_false]
    rw [hSBC, evC_seq, b3]
    dsimp only
    rw [e2, c2]
    rw [show decide ((2 : Int) = 2) = true from rfl, cond_true]
    rw [b4, if_pos hps]
    cases hb : (nb s (s.size + 1) i 0).2.2 with
    | true =>
      rw [cond_true]
      exact ⟨fun t j h => (by cases h), fun _ => ⟨_, by kernel_rfl, rfl⟩⟩
    | false =>
      obtain ⟨hj1, hj2⟩ := nb_gt (N := s.size) (n := 0) hc hl hi hb
      rw [cond_false]
      dsimp only
      rw [e3, a3, hcut _ (by omega) hj2, Option.bind_some, if_pos (hlen ()), if_pos (show PreS s (nb s (s.size + 1) i 0).1 from ⟨hs, by omega⟩)]
      exact ⟨fun t j h => (by cases h; rfl), fun h => (by cases h)⟩
def end0 (s : ByteArray) (fa fb : Int) (r : List R53 × Option Int) : Exit × TS U := cond r.2.isSome (.ret, badL s (r.2.getD 0) r.1) (.exit 0, exL s fa fb r.1)
theorem exitL {s : ByteArray} {out : List R53} {fa fb i : Int} (hi : ¬ i < s.size) (N : Nat) : fnLoop X E27 an27 lp27 Try.f41 0 (N + 1) (l0 s i (ob2 fa fb out)) = some (.exit 0, exL s fa fb out) := by
  rw [fnLoop_succ, hL0, evC_seq, a0, show decide (i < (s.size : Int)) = false from decide_eq_false hi, cond_false]
  kernel_rfl
theorem normL (s : ByteArray) (i fa fb : Int) (out : List R53) : evNorm (X := X) (an27.live 0) (l0 s i (ob2 fa fb out)) = some (l0 s i (ob2 fa fb out)) := by kernel_rfl
theorem roundsL {s : ByteArray} {fa fb : Int} (hs : s.size ≤ 100000) : ∀ (N : Nat) (i : Int) (out : List R53), 0 ≤ i → (s.size : Int) ≤ i + N → out.length + N ≤ 1000000 →
    fnLoop X E27 an27 lp27 Try.f41 0 (N + 1) (l0 s i (ob2 fa fb out)) = some (end0 s fa fb (lxs s (N + 1) i out)) := by
  intro N
  induction N with
  | zero =>
    intro i out h0 h1 h2
    rw [exitL (by omega), lxs, if_neg (by omega)]
    rfl
  | succ N ih =>
    intro i out h0 h1 h2
    rw [lxs]
    by_cases hi : i < (s.size : Int)
    · rw [if_pos hi, fnLoop_succ]
      generalize hK : (fun (ex : Exit) (s' : TS X.U) => _ : Exit → TS X.U → Option (Exit × TS X.U)) = K1
      obtain ⟨hr1, hr2⟩ := roundL (K := K1) (fa := fa) (fb := fb) (s := s) (i := i) (out := out) (by omega) h0 hi (by omega)
      cases hw : wd1 s i with
      | some x =>
        obtain ⟨t, j⟩ := x
        obtain ⟨hj1, hj2⟩ := wd1_gt h0 hi hw
        have hk := sk_ge s (s.size + 1) j false hj2
        rw [hr1 t j hw, ← hK]
        dsimp only
        rw [normL]
        dsimp only
        exact ih _ _ (by omega) (by omega) (by rw [List.length_append]; simp only [List.length_singleton]; omega)
      | none =>
        obtain ⟨st, hn, he⟩ := hr2 hw
        rw [he, ← hK]
        dsimp only
        rw [hn]
        rfl
    · rw [if_neg hi, exitL hi]
      rfl
theorem lp27_ok : ∀ c, Try.f41.body = some c → LpOk X E27 an27 lp27 (loops c 0) := lpL_ok (by kernel_rfl) fun b L hm st p hs => by
  cases hm with
  | head =>
    obtain ⟨⟨fa, fb, out, t, i⟩, hx, ⟨h1, h2, h3⟩, rfl⟩ := LC.of2_some hs
    obtain rfl := List.length_eq_zero_iff.1 h3
    obtain rfl := dl0_ok hx
    exact ⟨t.size + 1, roundsL h1 t.size i [] h2 (by omega) (by simp only [List.length_nil]; omega)⟩
  | tail _ hm => cases hm with
    | head => exact lc3_ok _ st p hs
    | tail _ hm => cases hm with
      | head => exact lc5_ok _ st p hs
      | tail _ hm => cases hm
end Go.Proofs.Ytpkgikchphgfaaa.Fl
/- The references' lexer. -/
namespace Go.Proofs.Ytpkgikchphgfaaa.Fl
open Go Go.RowKit Go.Proofs.Ytpkgikchphgfaaa.Eng
set_option linter.unusedVariables false
set_option linter.unusedSimpArgs false
set_option maxRecDepth 20000
/-- The words of a text; where none can be, if so. -/
def lexP (s : ByteArray) : List R53 × Option Int := lxs s (s.size + 1) (sk s (s.size + 1) 0 false).1 []
theorem e27 (s : ByteArray) : (evFn X E27 an27 lp27 Try.f41 [] [TV.v (Value.string s)] fun (o : List (TO X.U)) (v : TV X.U) => some (o, v)) = bif decide (32768 < (↑s.size : Int)) then some ([], TV.tup [TV.v (Value.slice none 0 0), TV.agg [TV.v (Value.int IntKind.i64 184), TV.v (Value.int IntKind.i64 32768)]]) else if PreS s 0 then if PreL s (sk s (s.size + 1) 0 false).fst 0 then bif (lxs s (s.size + 1) (sk s (s.size + 1) 0 false).fst []).snd.isSome then some ([], TV.tup [TV.v (Value.slice none 0 0), TV.agg [TV.v (Value.int IntKind.i64 180), TV.v (Value.int IntKind.i64 ((lxs s (s.size + 1) (sk s (s.size + 1) 0 false).fst []).snd.getD 0))]]) else if ((lxs s (s.size + 1) (sk s (s.size + 1) 0 false).fst []).fst.length + 1) * 40 ≤ 140737488355328 then some ([], TV.tup [TV.lst C.t53 ((lxs s (s.size + 1) (sk s (s.size + 1) 0 false).fst []).fst ++ [{ Kind := 0, At := (↑s.size : Int), N := 0, S := (⟨#[]⟩ : ByteArray) }]), TV.agg [TV.v (Value.int IntKind.i64 0), TV.v (Value.int IntKind.i64 0)]]) else none else none else none := by kernel_rfl
theorem lxs_len {s : ByteArray} : ∀ (N : Nat) (i : Int) (out : List R53), (lxs s N i out).1.length ≤ out.length + N := by
  intro N
  induction N with
  | zero => intro i out; exact Nat.le_refl _
  | succ N ih =>
    intro i out
    rw [lxs]
    split
    · split
      · rename_i t j h
        have := ih (sk s (s.size + 1) j false).1 (out ++ [t])
        rw [List.length_append] at this
        simp only [List.length_singleton] at this
        omega
      · exact Nat.le_add_right _ _
    · exact Nat.le_add_right _ _
/-- Is there a flaw in its words, where, and which? -/
def lexF (s : ByteArray) : Bool := decide (32768 < (s.size : Int)) || (lexP s).2.isSome
def lexA (s : ByteArray) : Int := cond (decide (32768 < (s.size : Int))) 32768 ((lexP s).2.getD 0)
def lexC (s : ByteArray) : Int := cond (decide (32768 < (s.size : Int))) 184 180
def lexL (s : ByteArray) : List R53 := (lexP s).1 ++ [⟨0, s.size, 0, ⟨#[]⟩⟩]
def sLex : Spc U := .of2 dstr (fun s => s.size ≤ 100000) lexF (fun s => []) (fun s => .tup [.v (.slice none 0 0), .agg [.v (.int .i64 (lexC s)), .v (.int .i64 (lexA s))]])
  (fun s => []) (fun s => .tup [.lst .t53 (lexL s), .agg [.v (.int .i64 0), .v (.int .i64 0)]])
theorem sLex_ok : SpecOk Try.prog 41 sLex := by
  refine fn_ok2 X_ok mixed E27_ok an27 lp27 Try.func41 (by kernel_rfl) (by kernel_rfl) lp27_ok fun objs args s hx hp => ?_
  obtain ⟨rfl, rfl⟩ := dstr_ok hx
  dsimp only at hp ⊢
  have h1 : PreS s 0 := ⟨by omega, by decide⟩
  have h2 := sk_ge s (s.size + 1) 0 false (by omega)
  have h3 : PreL s (sk s (s.size + 1) 0 false).1 0 := ⟨hp, h2.1, rfl⟩
  have h4 := lxs_len (s := s) (s.size + 1) (sk s (s.size + 1) 0 false).1 []
  have h5 : ((lexP s).1.length + 1) * 40 ≤ 140737488355328 := by unfold lexP; simp only [List.length_nil] at h4; omega
  rw [e27, if_pos h1, if_pos h3]
  rw [show lxs s (s.size + 1) (sk s (s.size + 1) 0 false).1 [] = lexP s from rfl]
  unfold lexF lexC lexA lexL
  cases decide (32768 < (s.size : Int)) with
  | true => rfl
  | false =>
    simp only [cond_false, Bool.false_or]
    cases h : (lexP s).2.isSome with
    | true => rfl
    | false =>
      rw [cond_false, if_pos h5]
      rfl
end Go.Proofs.Ytpkgikchphgfaaa.Fl

/- Places: the law. -/
import Derived.Test.YtcbbpidnocgoiaaDoorSvH
namespace Go.Proofs.YtcbbpidnocgoiaaDoor.Sv
open Go Go.RowKit Go.Proofs.YtcbbpidnocgoiaaDoor.Eng Go.Proofs.YtcbbpidnocgoiaaDoor.Pu
set_option linter.unusedVariables false
set_option linter.unusedSimpArgs false
set_option maxRecDepth 20000
def runA (n : Int) (acts : List R29) : Nat → Int → List Int → List Bool → List Int × List Bool
  | 0, _, ws, us => (ws, us)
  | N + 1, i, ws, us => match (if i < 200 then acts[i.toNat]? else none) with
    | some z => runA n acts N (i + 1) (stepA n z ws us).1 (stepA n z ws us).2
    | none => (ws, us)
theorem runA_inv {n : Int} {acts : List R29} : ∀ (N : Nat) (i : Int) {ws : List Int} {us : List Bool}, Inv n ws us → Inv n (runA n acts N i ws us).1 (runA n acts N i ws us).2
  | 0, i, ws, us, h => h
  | N + 1, i, ws, us, h => by
    unfold runA
    split
    · exact runA_inv N _ (stepA_inv h _)
    · exact h
def te (n m : Int) (ws : List Int) (us : List Bool) : TS U := mkS 129 [(5, .v (.int .i64 m)), (6, .ref 0 0 0), (7, .full 2)] (ob3 n ws us) 0
theorem nlive (n : Int) (acts : List R29) (ws : List Int) (us : List Bool) (i : Int) : evNorm (X := X) (an3.live 0) (t0 n ws us acts i) = some (t0 n ws us acts i) := by kernel_rfl
theorem nout (n : Int) (acts : List R29) (ws : List Int) (us : List Bool) (i : Int) : evNorm (X := X) (an3.out 0) (mkS 129 [(1, .lst .t29 acts), (5, .v (.int .i64 n)), (6, .ref 0 0 0), (7, .full 2), (8, .v (.int .i64 i)), (35, .v (.bool false))] (ob3 n ws us) 0) = some (te n n ws us) := by kernel_rfl
theorem rounds (lp : Lp U) {n : Int} {acts : List R29} : ∀ (N : Nat) (i : Int) {ws : List Int} {us : List Bool}, Inv n ws us → 0 ≤ i → 200 ≤ i + N →
    fnLoop X E3 an3 lp Tryd.f3 0 (N + 1) (t0 n ws us acts i) = some (.exit 0, te n n (runA n acts (N + 1) i ws us).1 (runA n acts (N + 1) i ws us).2) := by
  intro N
  induction N with
  | zero =>
    intro i ws us h h0 h1
    have hi : ¬ i < 200 := by omega
    have hr : runA n acts 1 i ws us = (ws, us) := by unfold runA; rw [if_neg hi]
    rw [hr, fnLoop_succ, hB0, evC_seq, q1]
    simp only [hi, decide_false, cond_false]
    rw [nout]
    cases decide (i < (acts.length : Int)) <;> rfl
  | succ N ih =>
    intro i ws us h h0 h1
    rw [fnLoop_succ]
    by_cases hi : i < 200
    · cases hz : acts[i.toNat]? with
      | none =>
        have hl : ¬ i < (acts.length : Int) := by have := List.getElem?_eq_none_iff.1 hz; omega
        have hr : runA n acts (N + 1 + 1) i ws us = (ws, us) := by unfold runA; rw [if_pos hi, hz]
        rw [hr, hB0, evC_seq, q1]
        simp only [hl, decide_false, cond_false]
        rw [nout]
      | some z =>
        have hr : runA n acts (N + 1 + 1) i ws us = runA n acts (N + 1) (i + 1) (stepA n z ws us).1 (stepA n z ws us).2 := by rw [runA, if_pos hi, hz]
        rw [round3 h h0 hi hz]
        dsimp only
        rw [nlive, hr]
        exact ih (i + 1) (stepA_inv h z) (by omega) (by omega)
    · have hr : runA n acts (N + 1 + 1) i ws us = (ws, us) := by unfold runA; rw [if_neg hi]
      rw [hr, hB0, evC_seq, q1]
      simp only [hi, decide_false, cond_false]
      rw [nout]
      cases decide (i < (acts.length : Int)) <;> rfl
/-! ### Counting -/
def tc (n m : Int) (ws : List Int) (us : List Bool) (c i : Int) : TS U := mkS 129 [(5, .v (.int .i64 m)), (6, .ref 0 0 0), (7, .full 2), (12, .v (.int .i64 c)), (13, .v (.int .i64 i))] (ob3 n ws us) 0
def td (n : Int) (ws : List Int) (us : List Bool) (c : Int) : TS U := mkS 129 [(6, .ref 0 0 0), (12, .v (.int .i64 c))] (obs n ws) 0
theorem g3 (lp : Lp U) (n m : Int) (ws : List Int) (us : List Bool) (c i : Int) (N : Nat) : fnLoop X E3 an3 lp Tryd.f3 3 N.succ (tc n m ws us c i) =
    cond (decide (i < m)) (if 0 ≤ i ∧ i < (us.length : Int) then us[i.toNat]?.bind fun y => cond (!y) (fnLoop X E3 an3 lp Tryd.f3 3 N (tc n m ws us (IntKind.i64.wrap (c + 1)) (IntKind.i64.wrap (i + 1)))) (fnLoop X E3 an3 lp Tryd.f3 3 N (tc n m ws us c (IntKind.i64.wrap (i + 1)))) else none)
      (some (.exit 3, td n ws us c)) := by kernel_rfl
theorem cnt_cons (b : Bool) (us : List Bool) : cnt (b :: us) = cond b 0 1 + cnt us := by unfold cnt; rw [List.map_cons, List.sum_cons]
theorem cnt_le : ∀ us : List Bool, cnt us ≤ us.length
  | [] => Nat.le_refl _
  | b :: us => by
    rw [cnt_cons, List.length_cons]
    have := cnt_le us
    cases b <;> simp <;> omega
theorem counts (lp : Lp U) {n m : Int} {ws : List Int} {us : List Bool} (hm : m = us.length) (hl : us.length ≤ 255) : ∀ (N : Nat) (c i : Int), 0 ≤ i → i + N = m → 0 ≤ c → c ≤ i →
    fnLoop X E3 an3 lp Tryd.f3 3 (N + 1) (tc n m ws us c i) = some (.exit 3, td n ws us (c + (cnt (us.drop i.toNat) : Nat))) := by
  intro N
  induction N with
  | zero =>
    intro c i h0 h1 h2 h3
    have hi : ¬ i < m := by omega
    have e : cnt (us.drop i.toNat) = 0 := by rw [List.drop_eq_nil_of_le (by omega)]; rfl
    rw [g3, e]
    simp only [hi, decide_false, cond_false]
    rw [show c + ((0 : Nat) : Int) = c by omega]
  | succ N ih =>
    intro c i h0 h1 h2 h3
    have hi : i < m := by omega
    have hlt : i.toNat < us.length := by omega
    have hx : us[i.toNat]? = some us[i.toNat] := List.getElem?_eq_getElem hlt
    have hd : us.drop i.toNat = us[i.toNat] :: us.drop (i.toNat + 1) := List.drop_eq_getElem_cons hlt
    have e1 : IntKind.i64.wrap (i + 1) = i + 1 := wrap_i64 (by omega) (by omega)
    have e2 : IntKind.i64.wrap (c + 1) = c + 1 := wrap_i64 (by omega) (by omega)
    rw [g3, hx, hd, cnt_cons]
    simp only [hi, decide_true, cond_true]
    rw [if_pos (show 0 ≤ i ∧ i < (us.length : Int) from ⟨h0, by omega⟩), Option.bind_some, e1, e2]
    cases us[i.toNat] with
    | true =>
      rw [Bool.not_true, cond_false, ih c (i + 1) (by omega) (by omega) h2 (by omega), show (i + 1).toNat = i.toNat + 1 by omega]
      simp
    | false =>
      rw [Bool.not_false, cond_true, ih (c + 1) (i + 1) (by omega) (by omega) (by omega) (by omega), show (i + 1).toNat = i.toNat + 1 by omega]
      rw [show c + 1 + ((cnt (us.drop (i.toNat + 1)) : Nat) : Int) = c + (((cond false 0 1) + cnt (us.drop (i.toNat + 1)) : Nat) : Int) by simp only [cond_false]; omega]
/-! ### Loops -/
def Pre0 (n m i : Int) (ws : List Int) (us : List Bool) : Prop := Inv n ws us ∧ m = n ∧ 0 ≤ i
def Pre3 (m c i : Int) (us : List Bool) : Prop := m = us.length ∧ us.length ≤ 255 ∧ 0 ≤ i ∧ i ≤ m ∧ 0 ≤ c ∧ c ≤ i
noncomputable instance (n m i : Int) (ws : List Int) (us : List Bool) : Decidable (Pre0 n m i ws us) := Classical.propDecidable _
instance (m c i : Int) (us : List Bool) : Decidable (Pre3 m c i us) := by unfold Pre3; infer_instance
def dl0 (s : TS U) : Option (Int × List Int × List Bool × List R29 × Int × Int) := match told s 129 [1, 5, 6, 7, 8] 0, s.objs with
  | some [a0, a1, a2, a3, a4], [o0, o1, o2] =>
    match o0 with
    | .cells [q0, q1] false =>
      match q0 with
      | .v (.int .i64 n) =>
        match q1 with
        | .full 1 =>
          match o1 with
          | .row .u64 ws false =>
            match o2 with
            | .row .bool us false =>
              match a0 with
              | .lst .t29 acts =>
                match a1 with
                | .v (.int .i64 m) =>
                  match a2 with
                  | .ref 0 0 0 =>
                    match a3 with
                    | .full 2 =>
                      match a4 with
                      | .v (.int .i64 i) =>
                        some (n, ws, us, acts, m, i)
                      | _ => none
                    | _ => none
                  | _ => none
                | _ => none
              | _ => none
            | _ => none
          | _ => none
        | _ => none
      | _ => none
    | _ => none
  | _, _ => none
theorem dl0_ok {s : TS U} {n : Int} {ws : List Int} {us : List Bool} {acts : List R29} {m : Int} {i : Int} (h : dl0 s = some (n, ws, us, acts, m, i)) : s = mkS (U := U) 129 ([1, 5, 6, 7, 8].zip ([.lst .t29 acts, .v (.int .i64 m), .ref 0 0 0, .full 2, .v (.int .i64 i)] : List (TV U))) ([.cells [.v (.int .i64 n), .full 1] false, .row .u64 ws false, .row .bool us false] : List (TO U)) 0 := by
  unfold dl0 at h
  split at h <;> try (cases h; done)
  rename_i ht ho
  have hs := told_ok ht
  rw [ho] at hs
  repeat' split at h
  all_goals first | (cases h; done) | (cases h; exact hs)
def dl3 (s : TS U) : Option (Int × List Int × List Bool × Int × Int × Int) := match told s 129 [5, 6, 7, 12, 13] 0, s.objs with
  | some [a0, a1, a2, a3, a4], [o0, o1, o2] =>
    match o0 with
    | .cells [q0, q1] false =>
      match q0 with
      | .v (.int .i64 n) =>
        match q1 with
        | .full 1 =>
          match o1 with
          | .row .u64 ws false =>
            match o2 with
            | .row .bool us false =>
              match a0 with
              | .v (.int .i64 m) =>
                match a1 with
                | .ref 0 0 0 =>
                  match a2 with
                  | .full 2 =>
                    match a3 with
                    | .v (.int .i64 c) =>
                      match a4 with
                      | .v (.int .i64 i) =>
                        some (n, ws, us, m, c, i)
                      | _ => none
                    | _ => none
                  | _ => none
                | _ => none
              | _ => none
            | _ => none
          | _ => none
        | _ => none
      | _ => none
    | _ => none
  | _, _ => none
theorem dl3_ok {s : TS U} {n : Int} {ws : List Int} {us : List Bool} {m : Int} {c : Int} {i : Int} (h : dl3 s = some (n, ws, us, m, c, i)) : s = mkS (U := U) 129 ([5, 6, 7, 12, 13].zip ([.v (.int .i64 m), .ref 0 0 0, .full 2, .v (.int .i64 c), .v (.int .i64 i)] : List (TV U))) ([.cells [.v (.int .i64 n), .full 1] false, .row .u64 ws false, .row .bool us false] : List (TO U)) 0 := by
  unfold dl3 at h
  split at h <;> try (cases h; done)
  rename_i ht ho
  have hs := told_ok ht
  rw [ho] at hs
  repeat' split at h
  all_goals first | (cases h; done) | (cases h; exact hs)
noncomputable def lc0 : LC U := .of dl0 (fun (n, ws, us, acts, m, i) => Pre0 n m i ws us) (.exit 0) (fun (n, ws, us, acts, m, i) => te n n (runA n acts 201 i ws us).1 (runA n acts 201 i ws us).2)
def lc3 : LC U := .of dl3 (fun (n, ws, us, m, c, i) => Pre3 m c i us) (.exit 3) (fun (n, ws, us, m, c, i) => td n ws us (c + (cnt (us.drop i.toNat) : Nat)))
end Go.Proofs.YtcbbpidnocgoiaaDoor.Sv

/- Texts of this claim, put together: part 20. -/
import Derived.Test.YtpkgikchphgfaaaMcR
import Derived.Test.YtpkgikchphgfaaaMcS
/- What is wrong of a program: rows of statements; declarations. -/
namespace Go.Proofs.Ytpkgikchphgfaaa.Ck
open Go Go.RowKit Go.Proofs.Ytpkgikchphgfaaa.Eng Go.Proofs.Ytpkgikchphgfaaa.Fl
set_option linter.unusedVariables false
set_option linter.unusedSimpArgs false
set_option maxRecDepth 20000
def reS (z : R114) : R114 := .mk z.Kind z.At z.To z.Field z.From ⟨z.Expr.Kind, z.Expr.A, z.Expr.B, z.Expr.Op, z.Expr.N, z.Expr.Args⟩ z.Body z.Else
theorem reS_eq (z : R114) : reS z = z := by cases z; rfl
def S52 (c : SC) (l : List R114) (v : Int) : TS U := mkS 16 [(0, .ref 0 0 0), (6, .lst .t114 l), (7, .v (.int .i64 (l.length : Int))), (8, .v (.int .i64 v))] (scO c) 5
def Z52 (c : SC) : Exit × TS U := (.exit 0, mkS 16 [] (scO c) 5)
theorem r52 (n : Nat) (lp : Lp U) (N : Nat) (c : SC) (l : List R114) (v : Int) : fnLoop X (Ce n) an52 lp Try.f52 0 N.succ (S52 c l v) = cond (decide (v < (l.length : Int))) ((getI l v).bind fun z => if PreL c (cntS (reS z)) ∧ cntS (reS z) ≤ n then fnLoop X (Ce n) an52 lp Try.f52 0 N (S52 (stS (reS z) c) l (IntKind.i64.wrap (v + 1))) else none) (some (Z52 c)) := by kernel_rfl
theorem rounds52 {n : Nat} (lp : Lp U) (l : List R114) (c : SC) (hc : NOk c) (hl : cntL l ≤ 3000000) (hn : cntL l ≤ n) : fnLoop X (Ce n) an52 lp Try.f52 0 (l.length + 1) (S52 c l 0) = some (Z52 (stSL l c)) := by
  have hlen := cntL_len l
  rw [stSL_fold, ← ixL_all]
  refine ixL_rounds (fun c v => S52 c l v) Z52 (fun d _ => c.Like d) (fun d v N hd h0 h1 => ?_) (fun d v N _ h0 h1 => by rw [r52, decide_eq_false h1]; rfl) l.length c 0 (Int.le_refl 0) (by omega) (.refl c)
  obtain ⟨z, hz, hz2⟩ := getI_lt h0 h1
  have hw : IntKind.i64.wrap (v + 1) = v + 1 := wrap_i64 (by omega) (by omega)
  have hcz := cntL_at l v.toNat z hz2
  have hst : stepI l (fun c z => stS z c) d v = stS z d := by unfold stepI; rw [hz]
  rw [hst]
  refine ⟨?_, hd.trans (stS_like z d)⟩
  have g : PreL d (cntS z) ∧ cntS z ≤ n := ⟨⟨hc.like hd, by omega⟩, by omega⟩
  rw [r52, decide_eq_true h1, hz, hw, cond_true, Option.bind_some, reS_eq, if_pos g]
def l52 (s : TS U) : Option (List R82 × List R82 × List R90 × Int × Int × Int × List (ByteArray × Int) × List (ByteArray × Int) × List (ByteArray × Int) × List (ByteArray × Int) × List R114 × Int × Int) := match told s 16 [0, 6, 7, 8] 5, s.objs with
  | some [a0, a1, a2, a3], [o0, o1, o2, o3, o4] =>
    match o0 with
    | .cells [q0, q1, q2, q3, q4, q5, q6, q7, q8, q9] false =>
      match q0 with
      | .lst .t82 x1 =>
        match q1 with
        | .lst .t82 x2 =>
          match q2 with
          | .lst .t90 x3 =>
            match q3 with
            | .mp 1 =>
              match q4 with
              | .mp 2 =>
                match q5 with
                | .mp 3 =>
                  match q6 with
                  | .mp 4 =>
                    match q7 with
                    | .v (.int .i64 x8) =>
                      match q8 with
                      | .v (.int .i64 x9) =>
                        match q9 with
                        | .v (.int .i64 x10) =>
                          match o1 with
                          | .mp .m_str_i64 x4 false =>
                            match o2 with
                            | .mp .m_str_i64 x5 false =>
                              match o3 with
                              | .mp .m_str_i64 x6 false =>
                                match o4 with
                                | .mp .m_str_i64 x7 false =>
                                  match a0 with
                                  | .ref 0 0 0 =>
                                    match a1 with
                                    | .lst .t114 l =>
                                      match a2 with
                                      | .v (.int .i64 n) =>
                                        match a3 with
                                        | .v (.int .i64 v) =>
                                          some (x1, x2, x3, x8, x9, x10, x4, x5, x6, x7, l, n, v)
                                        | _ => none
                                      | _ => none
                                    | _ => none
                                  | _ => none
                                | _ => none
                              | _ => none
                            | _ => none
                          | _ => none
                        | _ => none
                      | _ => none
                    | _ => none
                  | _ => none
                | _ => none
              | _ => none
            | _ => none
          | _ => none
        | _ => none
      | _ => none
    | _ => none
  | _, _ => none
theorem l52_ok {s : TS U} {x1 : List R82} {x2 : List R82} {x3 : List R90} {x8 : Int} {x9 : Int} {x10 : Int} {x4 : List (ByteArray × Int)} {x5 : List (ByteArray × Int)} {x6 : List (ByteArray × Int)} {x7 : List (ByteArray × Int)} {l : List R114} {n : Int} {v : Int} (h : l52 s = some (x1, x2, x3, x8, x9, x10, x4, x5, x6, x7, l, n, v)) : s = mkS (U := U) 16 ([0, 6, 7, 8].zip ([.ref 0 0 0, .lst .t114 l, .v (.int .i64 n), .v (.int .i64 v)] : List (TV U))) ([.cells [.lst .t82 x1, .lst .t82 x2, .lst .t90 x3, .mp 1, .mp 2, .mp 3, .mp 4, .v (.int .i64 x8), .v (.int .i64 x9), .v (.int .i64 x10)] false, .mp .m_str_i64 x4 false, .mp .m_str_i64 x5 false, .mp .m_str_i64 x6 false, .mp .m_str_i64 x7 false] : List (TO U)) 5 := by
  unfold l52 at h
  split at h <;> try (cases h; done)
  rename_i ht ho
  have hs := told_ok ht
  rw [ho] at hs
  repeat' split at h
  all_goals first | (cases h; done) | (cases h; exact hs)
def dl52 (s : TS U) : Option (SC × List R114 × Int × Int) := (l52 s).map fun (x1, x2, x3, x8, x9, x10, x4, x5, x6, x7, l, n, v) => (⟨x1, x2, x3, x4, x5, x6, x7, x8, x9, x10⟩, l, n, v)
def P52 (k : Nat) (c : SC) (l : List R114) (n v : Int) : Prop := (NOk c ∧ cntL l ≤ 3000000 ∧ cntL l ≤ k) ∧ n = l.length ∧ v = 0
noncomputable instance (k : Nat) (c : SC) (l : List R114) (n v : Int) : Decidable (P52 k c l n v) := Classical.propDecidable _
noncomputable def lc52 (k : Nat) : LC U := .of dl52 (fun (c, l, n, v) => P52 k c l n v) (.exit 0) (fun (c, l, n, v) => (Z52 (stSL l c)).2)
noncomputable def lp52 (k : Nat) : Lp U := lpL [(0, lc52 k)]
theorem lp52_ok (k : Nat) : ∀ c, Try.f52.body = some c → LpOk X (Ce k) an52 (lp52 k) (loops c 0) := lpL_ok (by kernel_rfl) fun b L hm st p hs => by
  cases hm with
  | tail _ h => cases h
  | head =>
    obtain ⟨⟨c, l, n, v⟩, hx, ⟨⟨h1, h2, h3⟩, rfl, rfl⟩, rfl⟩ := LC.of_some hs
    unfold dl52 at hx
    obtain ⟨⟨x1, x2, x3, x8, x9, x10, x4, x5, x6, x7, l, n, v⟩, hy, he⟩ := Option.map_eq_some_iff.1 hx
    cases he
    obtain rfl := l52_ok hy
    exact ⟨_, rounds52 _ l ⟨x1, x2, x3, x4, x5, x6, x7, x8, x9, x10⟩ h1 h2 h3⟩
theorem e52 (n : Nat) (c : SC) (l : List
  R114) : (evFn X (Ce n) an52 (lp52 n) Try.f52 (scO c) [TV.ref 0 0 0, TV.lst C.t114 l]
  fun (o : List (TO X.U)) (v : TV X.U) => some (o, v)) =
  if P52 n c l (↑l.length : Int) 0 then
  some
    ([scC (stSL l c), TO.mp C.m_str_i64 (stSL l c).g false, TO.mp C.m_str_i64 (stSL l c).f false,
        TO.mp C.m_str_i64 (stSL l c).n false, TO.mp C.m_str_i64 (stSL l c).w false],
      TV.tup [])
else none := by kernel_rfl
def lpF52 : Lp U := lpL [(0, .of dl52 (fun _ => False) .ret (fun _ => mkS 0 [] [] 0))]
theorem lpF52_ok : ∀ c, Try.f52.body = some c → LpOk X (fun _ => none) an52 lpF52 (loops c 0) := lpL_ok (by kernel_rfl) fun b L hm st p hs => by
  cases hm with
  | tail _ h => cases h
  | head =>
    obtain ⟨_, _, h, _⟩ := LC.of_some hs
    exact absurd h id
theorem blkS_lt : ∀ n : Nat, SpecOk Try.prog 52 (sBlkS n)
  | 0 => by
    refine fn_ok X_ok mixed E0_ok an52 lpF52 Try.func52 (by kernel_rfl) (by kernel_rfl) lpF52_ok fun objs args x hx h => ?_
    exact absurd h.2 (Nat.not_lt_zero _)
  | n + 1 => by
    refine fn_ok X_ok mixed (Ce_ok (blkS_lt n)) an52 (lp52 n) Try.func52 (by kernel_rfl) (by kernel_rfl) (lp52_ok n) fun objs args x hx hp => ?_
    obtain ⟨c, l⟩ := x
    obtain ⟨rfl, h2⟩ := dW_ok hx
    obtain ⟨_, rfl⟩ := dLS_ok h2
    obtain ⟨⟨h1, h2⟩, h3⟩ := hp
    dsimp only at h1 h2 h3 ⊢
    have h4 : P52 n c l l.length 0 := ⟨⟨h1, h2, by omega⟩, rfl, rfl⟩
    rw [e52, if_pos h4]
    rfl
noncomputable def sBlk : Spc U := .of (dW dLS) (fun (c, l) => PreL c (cntL l)) (fun (c, l) => scO (stSL l c)) fun _ => .tup []
theorem sBlk_ok : SpecOk Try.prog 52 sBlk := SpecOk.lim (fun (c, l) => cntL l) fun n => blkS_lt n
/-! ### Declarations -/
def an50 : Ann := ⟨fun | 0 => 7171 | _ => 0, fun | 0 => 0 | _ => 0, fun _ => [], false⟩
def SC.put (c : SC) (j : Nat) (m : Mp) : SC := match j with
  | 1 => { c with g := m }
  | 2 => { c with f := m }
  | 3 => { c with n := m }
  | _ => { c with w := m }
def dePut (j : Nat) (d : R82) (c : SC) : SC := c.put j (aset keS (c.m j) d.Name d.Type_)
def deS (j : Nat) (c : SC) (d : R82) : SC := dePut j d (cond (aget keS (c.m j) d.Name).isSome (c.fail 183 d.At) c)
/-- Without variables. -/
def SC.w0 (c : SC) : SC := { c with w := [] }
def S50a (c : SC) (l : List R82) (v : Int) : TS U := mkS 34 [(0, .ref 0 0 0), (1, .mp 1), (10, .lst .t82 l), (11, .v (.int .i64 (l.length : Int))), (12, .v (.int .i64 v))] (scN c) 4
def S50b (c : SC) (l : List R82) (v : Int) : TS U := mkS 34 [(0, .ref 0 0 0), (1, .mp 2), (10, .lst .t82 l), (11, .v (.int .i64 (l.length : Int))), (12, .v (.int .i64 v))] (scN c) 4
def S50d (c : SC) (l : List R82) (v : Int) : TS U := mkS 34 [(0, .ref 0 0 0), (1, .mp 4), (10, .lst .t82 l), (11, .v (.int .i64 (l.length : Int))), (12, .v (.int .i64 v))] (scO c) 5
def Z50n (c : SC) : Exit × TS U := (.exit 0, mkS 34 [] (scN c) 4)
def Z50d (c : SC) : Exit × TS U := (.exit 0, mkS 34 [] (scO c) 5)
theorem r50a (lp : Lp U) (N : Nat) (c : SC) (l : List R82) (v : Int) : fnLoop X Ca an50 lp Try.f50 0 N.succ (S50a c l v) = cond (decide (v < (l.length : Int))) ((getI l v).bind fun z => cond (aget keS c.g z.Name).isSome (if True then fnLoop X Ca an50 lp Try.f50 0 N (S50a (dePut 1 z (c.w0.fail 183 z.At)) l (IntKind.i64.wrap (v + 1))) else none) (fnLoop X Ca an50 lp Try.f50 0 N (S50a (dePut 1 z c) l (IntKind.i64.wrap (v + 1))))) (some (Z50n c)) := by kernel_rfl
theorem r50b (lp : Lp U) (N : Nat) (c : SC) (l : List R82) (v : Int) : fnLoop X Ca an50 lp Try.f50 0 N.succ (S50b c l v) = cond (decide (v < (l.length : Int))) ((getI l v).bind fun z => cond (aget keS c.f z.Name).isSome (if True then fnLoop X Ca an50 lp Try.f50 0 N (S50b (dePut 2 z (c.w0.fail 183 z.At)) l (IntKind.i64.wrap (v + 1))) else none) (fnLoop X Ca an50 lp Try.f50 0 N (S50b (dePut 2 z c) l (IntKind.i64.wrap (v + 1))))) (some (Z50n c)) := by kernel_rfl
theorem r50d (lp : Lp U) (N : Nat) (c : SC) (l : List R82) (v : Int) : fnLoop X Ca an50 lp Try.f50 0 N.succ (S50d c l v) = cond (decide (v < (l.length : Int))) ((getI l v).bind fun z => cond (aget keS c.w z.Name).isSome (if True then fnLoop X Ca an50 lp Try.f50 0 N (S50d (dePut 4 z (c.fail 183 z.At)) l (IntKind.i64.wrap (v + 1))) else none) (fnLoop X Ca an50 lp Try.f50 0 N (S50d (dePut 4 z c) l (IntKind.i64.wrap (v + 1))))) (some (Z50d c)) := by kernel_rfl
theorem w0_eq {c : SC} (h : c.w = []) : c.w0 = c := by cases c; cases h; rfl
theorem SC.fail_w (c : SC) (k a : Int) : (c.fail k a).w = c.w := by obtain ⟨k, a, h⟩ := c.fail_like k a; rw [h]
theorem deS_w (j : Nat) (hj : j = 1 ∨ j = 2) (c : SC) (d : R82) : (deS j c d).w = c.w := by
  unfold deS dePut
  rcases hj with rfl | rfl
  · show (cond _ _ _ : SC).w = _
    cases (aget keS (c.m 1) d.Name).isSome with
    | true => exact c.fail_w _ _
    | false => rfl
  · show (cond _ _ _ : SC).w = _
    cases (aget keS (c.m 2) d.Name).isSome with
    | true => exact c.fail_w _ _
    | false => rfl
theorem rounds50 (lp : Lp U) (j : Nat) (S : SC → List R82 → Int → TS U) (Z : SC → Exit × TS U) (I : SC → Prop) (hI : ∀ c d, I c → I (deS j c d)) (l : List R82)
    (hr : ∀ N c v, I c → fnLoop X Ca an50 lp Try.f50 0 (N + 1) (S c l v) = cond (decide (v < (l.length : Int))) ((getI l v).bind fun z => cond (aget keS (c.m j) z.Name).isSome (if True then fnLoop X Ca an50 lp Try.f50 0 N (S (dePut j z (c.fail 183 z.At)) l (IntKind.i64.wrap (v + 1))) else none) (fnLoop X Ca an50 lp Try.f50 0 N (S (dePut j z c) l (IntKind.i64.wrap (v + 1))))) (some (Z c)))
    (hl : l.length ≤ 3000000) (c : SC) (hc : I c) : fnLoop X Ca an50 lp Try.f50 0 (l.length + 1) (S c l 0) = some (Z (l.foldl (deS j) c)) := by
  rw [← ixL_all]
  refine ixL_rounds (fun c v => S c l v) Z (fun d _ => I d) (fun d v N hd h0 h1 => ?_) (fun d v N hd _ h1 => by rw [hr _ _ _ hd, decide_eq_false h1]; rfl) l.length c 0 (Int.le_refl 0) (by omega) hc
  obtain ⟨z, hz, hz2⟩ := getI_lt h0 h1
  have hw : IntKind.i64.wrap (v + 1) = v + 1 := wrap_i64 (by omega) (by omega)
  have hst : stepI l (deS j) d v = deS j d z := by unfold stepI; rw [hz]
  rw [hst]
  refine ⟨?_, hI d z hd⟩
  rw [hr _ _ _ hd, decide_eq_true h1, hz, hw, cond_true, Option.bind_some, if_pos trivial]
  unfold deS
  cases (aget keS (d.m j) z.Name).isSome <;> rfl
def l50a (s : TS U) : Option (List R82 × List R82 × List R90 × Int × Int × Int × List (ByteArray × Int) × List (ByteArray × Int) × List (ByteArray × Int) × List R82 × Int × Int) := match told s 34 [0, 1, 10, 11, 12] 4, s.objs with
  | some [a0, a1, a2, a3, a4], [o0, o1, o2, o3] =>
    match o0 with
    | .cells [q0, q1, q2, q3, q4, q5, q6, q7, q8, q9] false =>
      match q0 with
      | .lst .t82 x1 =>
        match q1 with
        | .lst .t82 x2 =>
          match q2 with
          | .lst .t90 x3 =>
            match q3 with
            | .mp 1 =>
              match q4 with
              | .mp 2 =>
                match q5 with
                | .mp 3 =>
                  match q6 with
                  | .v (.map none) =>
                    match q7 with
                    | .v (.int .i64 x8) =>
                      match q8 with
                      | .v (.int .i64 x9) =>
                        match q9 with
                        | .v (.int .i64 x10) =>
                          match o1 with
                          | .mp .m_str_i64 x4 false =>
                            match o2 with
                            | .mp .m_str_i64 x5 false =>
                              match o3 with
                              | .mp .m_str_i64 x6 false =>
                                match a0 with
                                | .ref 0 0 0 =>
                                  match a1 with
                                  | .mp 1 =>
                                    match a2 with
                                    | .lst .t82 l =>
                                      match a3 with
                                      | .v (.int .i64 n) =>
                                        match a4 with
                                        | .v (.int .i64 v) =>
                                          some (x1, x2, x3, x8, x9, x10, x4, x5, x6, l, n, v)
                                        | _ => none
                                      | _ => none
                                    | _ => none
                                  | _ => none
                                | _ => none
                              | _ => none
                            | _ => none
                          | _ => none
                        | _ => none
                      | _ => none
                    | _ => none
                  | _ => none
                | _ => none
              | _ => none
            | _ => none
          | _ => none
        | _ => none
      | _ => none
    | _ => none
  | _, _ => none
theorem l50a_ok {s : TS U} {x1 : List R82} {x2 : List R82} {x3 : List R90} {x8 : Int} {x9 : Int} {x10 : Int} {x4 : List (ByteArray × Int)} {x5 : List (ByteArray × Int)} {x6 : List (ByteArray × Int)} {l : List R82} {n : Int} {v : Int} (h : l50a s = some (x1, x2, x3, x8, x9, x10, x4, x5, x6, l, n, v)) : s = mkS (U := U) 34 ([0, 1, 10, 11, 12].zip ([.ref 0 0 0, .mp 1, .lst .t82 l, .v (.int .i64 n), .v (.int .i64 v)] : List (TV U))) ([.cells [.lst .t82 x1, .lst .t82 x2, .lst .t90 x3, .mp 1, .mp 2, .mp 3, .v (.map none), .v (.int .i64 x8), .v (.int .i64 x9), .v (.int .i64 x10)] false, .mp .m_str_i64 x4 false, .mp .m_str_i64 x5 false, .mp .m_str_i64 x6 false] : List (TO U)) 4 := by
  unfold l50a at h
  split at h <;> try (cases h; done)
  rename_i ht ho
  have hs := told_ok ht
  rw [ho] at hs
  repeat' split at h
  all_goals first | (cases h; done) | (cases h; exact hs)
def l50b (s : TS U) : Option (List R82 × List R82 × List R90 × Int × Int × Int × List (ByteArray × Int) × List (ByteArray × Int) × List (ByteArray × Int) × List R82 × Int × Int) := match told s 34 [0, 1, 10, 11, 12] 4, s.objs with
  | some [a0, a1, a2, a3, a4], [o0, o1, o2, o3] =>
    match o0 with
    | .cells [q0, q1, q2, q3, q4, q5, q6, q7, q8, q9] false =>
      match q0 with
      | .lst .t82 x1 =>
        match q1 with
        | .lst .t82 x2 =>
          match q2 with
          | .lst .t90 x3 =>
            match q3 with
            | .mp 1 =>
              match q4 with
              | .mp 2 =>
                match q5 with
                | .mp 3 =>
                  match q6 with
                  | .v (.map none) =>
                    match q7 with
                    | .v (.int .i64 x8) =>
                      match q8 with
                      | .v (.int .i64 x9) =>
                        match q9 with
                        | .v (.int .i64 x10) =>
                          match o1 with
                          | .mp .m_str_i64 x4 false =>
                            match o2 with
                            | .mp .m_str_i64 x5 false =>
                              match o3 with
                              | .mp .m_str_i64 x6 false =>
                                match a0 with
                                | .ref 0 0 0 =>
                                  match a1 with
                                  | .mp 2 =>
                                    match a2 with
                                    | .lst .t82 l =>
                                      match a3 with
                                      | .v (.int .i64 n) =>
                                        match a4 with
                                        | .v (.int .i64 v) =>
                                          some (x1, x2, x3, x8, x9, x10, x4, x5, x6, l, n, v)
                                        | _ => none
                                      | _ => none
                                    | _ => none
                                  | _ => none
                                | _ => none
                              | _ => none
                            | _ => none
                          | _ => none
                        | _ => none
                      | _ => none
                    | _ => none
                  | _ => none
                | _ => none
              | _ => none
            | _ => none
          | _ => none
        | _ => none
      | _ => none
    | _ => none
  | _, _ => none
theorem l50b_ok {s : TS U} {x1 : List R82} {x2 : List R82} {x3 : List R90} {x8 : Int} {x9 : Int} {x10 : Int} {x4 : List (ByteArray × Int)} {x5 : List (ByteArray × Int)} {x6 : List (ByteArray × Int)} {l : List R82} {n : Int} {v : Int} (h : l50b s = some (x1, x2, x3, x8, x9, x10, x4, x5, x6, l, n, v)) : s = mkS (U := U) 34 ([0, 1, 10, 11, 12].zip ([.ref 0 0 0, .mp 2, .lst .t82 l, .v (.int .i64 n), .v (.int .i64 v)] : List (TV U))) ([.cells [.lst .t82 x1, .lst .t82 x2, .lst .t90 x3, .mp 1, .mp 2, .mp 3, .v (.map none), .v (.int .i64 x8), .v (.int .i64 x9), .v (.int .i64 x10)] false, .mp .m_str_i64 x4 false, .mp .m_str_i64 x5 false, .mp .m_str_i64 x6 false] : List (TO U)) 4 := by
  unfold l50b at h
  split at h <;> try (cases h; done)
  rename_i ht ho
  have hs := told_ok ht
  rw [ho] at hs
  repeat' split at h
  all_goals first | (cases h; done) | (cases h; exact hs)
def l50d (s : TS U) : Option (List R82 × List R82 × List R90 × Int × Int × Int × List (ByteArray × Int) × List (ByteArray × Int) × List (ByteArray × Int) × List (ByteArray × Int) × List R82 × Int × Int) := match told s 34 [0, 1, 10, 11, 12] 5, s.objs with
  | some [a0, a1, a2, a3, a4], [o0, o1, o2, o3, o4] =>
    match o0 with
    | .cells [q0, q1, q2, q3, q4, q5, q6, q7, q8, q9] false =>
      match q0 with
      | .lst .t82 x1 =>
        match q1 with
        | .lst .t82 x2 =>
          match q2 with
          | .lst .t90 x3 =>
            match q3 with
            | .mp 1 =>
              match q4 with
              | .mp 2 =>
                match q5 with
                | .mp 3 =>
                  match q6 with
                  | .mp 4 =>
                    match q7 with
                    | .v (.int .i64 x8) =>
                      match q8 with
                      | .v (.int .i64 x9) =>
                        match q9 with
                        | .v (.int .i64 x10) =>
                          match o1 with
                          | .mp .m_str_i64 x4 false =>
                            match o2 with
                            | .mp .m_str_i64 x5 false =>
                              match o3 with
                              | .mp .m_str_i64 x6 false =>
                                match o4 with
                                | .mp .m_str_i64 x7 false =>
                                  match a0 with
                                  | .ref 0 0 0 =>
                                    match a1 with
                                    | .mp 4 =>
                                      match a2 with
                                      | .lst .t82 l =>
                                        match a3 with
                                        | .v (.int .i64 n) =>
                                          match a4 with
                                          | .v (.int .i64 v) =>
                                            some (x1, x2, x3, x8, x9, x10, x4, x5, x6, x7, l, n, v)
                                          | _ => none
                                        | _ => none
                                      | _ => none
                                    | _ => none
                                  | _ => none
                                | _ => none
                              | _ => none
                            | _ => none
                          | _ => none
                        | _ => none
                      | _ => none
                    | _ => none
                  | _ => none
                | _ => none
              | _ => none
            | _ => none
          | _ => none
        | _ => none
      | _ => none
    | _ => none
  | _, _ => none
theorem l50d_ok {s : TS U} {x1 : List R82} {x2 : List R82} {x3 : List R90} {x8 : Int} {x9 : Int} {x10 : Int} {x4 : List (ByteArray × Int)} {x5 : List (ByteArray × Int)} {x6 : List (ByteArray × Int)} {x7 : List (ByteArray × Int)} {l : List R82} {n : Int} {v : Int} (h : l50d s = some (x1, x2, x3, x8, x9, x10, x4, x5, x6, x7, l, n, v)) : s = mkS (U := U) 34 ([0, 1, 10, 11, 12].zip ([.ref 0 0 0, .mp 4, .lst .t82 l, .v (.int .i64 n), .v (.int .i64 v)] : List (TV U))) ([.cells [.lst .t82 x1, .lst .t82 x2, .lst .t90 x3, .mp 1, .mp 2, .mp 3, .mp 4, .v (.int .i64 x8), .v (.int .i64 x9), .v (.int .i64 x10)] false, .mp .m_str_i64 x4 false, .mp .m_str_i64 x5 false, .mp .m_str_i64 x6 false, .mp .m_str_i64 x7 false] : List (TO U)) 5 := by
  unfold l50d at h
  split at h <;> try (cases h; done)
  rename_i ht ho
  have hs := told_ok ht
  rw [ho] at hs
  repeat' split at h
  all_goals first | (cases h; done) | (cases h; exact hs)
def dl50 (s : TS U) : Option (Nat × SC × List R82 × Int × Int) := match l50d s with
  | some (x1, x2, x3, x8, x9, x10, x4, x5, x6, x7, l, n, v) => some (4, ⟨x1, x2, x3, x4, x5, x6, x7, x8, x9, x10⟩, l, n, v)
  | none => match l50a s with
    | some (x1, x2, x3, x8, x9, x10, x4, x5, x6, l, n, v) => some (1, ⟨x1, x2, x3, x4, x5, x6, [], x8, x9, x10⟩, l, n, v)
    | none => match l50b s with
      | some (x1, x2, x3, x8, x9, x10, x4, x5, x6, l, n, v) => some (2, ⟨x1, x2, x3, x4, x5, x6, [], x8, x9, x10⟩, l, n, v)
      | none => none
def Z50 (j : Nat) (c : SC) : Exit × TS U := match j with
  | 1 => Z50n c
  | 2 => Z50n c
  | _ => Z50d c
def P50 (l : List R82) (n v : Int) : Prop := l.length ≤ 3000000 ∧ n = l.length ∧ v = 0
instance (l : List R82) (n v : Int) : Decidable (P50 l n v) := by unfold P50; infer_instance
def lc50 : LC U := .of dl50 (fun (j, c, l, n, v) => P50 l n v) (.exit 0) (fun (j, c, l, n, v) => (Z50 j (l.foldl (deS j) c)).2)
def lp50 : Lp U := lpL [(0, lc50)]
theorem lp50_ok : ∀ c, Try.f50.body = some c → LpOk X Ca an50 lp50 (loops c 0) := lpL_ok (by kernel_rfl) fun b L hm st p hs => by
  cases hm with
  | tail _ h => cases h
  | head =>
    obtain ⟨⟨j, c, l, n, v⟩, hx, ⟨h1, rfl, rfl⟩, rfl⟩ := LC.of_some hs
    unfold dl50 at hx
    split at hx
    · rename_i x1 x2 x3 x8 x9 x10 x4 x5 x6 x7 _ _ _ hy
      cases hx
      obtain rfl := l50d_ok hy
      exact ⟨_, rounds50 (lpL [(0, lc50)]) 4 S50d Z50d (fun _ => True) (fun _ _ _ => trivial) l (fun N c v _ => r50d _ N c l v) h1 ⟨x1, x2, x3, x4, x5, x6, x7, x8, x9, x10⟩ trivial⟩
    · split at hx
      · rename_i hy
        cases hx
        obtain rfl := l50a_ok hy
        exact ⟨_, rounds50 _ 1 S50a Z50n (fun c => c.w = []) (fun c d h => (deS_w 1 (.inl rfl) c d).trans h) l (fun N c v hc => by have := r50a (lpL [(0, lc50)]) N c l v; rw [w0_eq hc] at this; exact this) h1 ⟨_, _, _, _, _, _, [], _, _, _⟩ rfl⟩
      · split at hx <;> try (cases hx; done)
        rename_i hy
        cases hx
        obtain rfl := l50b_ok hy
        exact ⟨_, rounds50 _ 2 S50b Z50n (fun c => c.w = []) (fun c d h => (deS_w 2 (.inr rfl) c d).trans h) l (fun N c v hc => by have := r50b (lpL [(0, lc50)]) N c l v; rw [w0_eq hc] at this; exact this) h1 ⟨_, _, _, _, _, _, [], _, _, _⟩ rfl⟩
theorem e50a (c : SC) (l : List
  R82) : (evFn X Ca an50 lp50 Try.f50 (scN c) [TV.ref 0 0 0, TV.mp 1, TV.lst C.t82 l]
  fun (o : List (TO X.U)) (v : TV X.U) => some (o, v)) =
  if P50 l (↑l.length : Int) 0 then
  some
    ([TO.cells
          [TV.lst C.t82
              (List.foldl (deS 1)
                  { G := c.G, F := c.F, N := c.N, g := c.g, f := c.f, n := c.n, w := [], Ret := c.Ret, Code := c.Code,
                    At := c.At }
                  l).G,
            TV.lst C.t82
              (List.foldl (deS 1)
                  { G := c.G, F := c.F, N := c.N, g := c.g, f := c.f, n := c.n, w := [], Ret := c.Ret, Code := c.Code,
                    At := c.At }
                  l).F,
            TV.lst C.t90
              (List.foldl (deS 1)
                  { G := c.G, F := c.F, N := c.N, g := c.g, f := c.f, n := c.n, w := [], Ret := c.Ret, Code := c.Code,
                    At := c.At }
                  l).N,
            TV.mp 1, TV.mp 2, TV.mp 3, TV.v (Value.map none),
            TV.v
              (Value.int IntKind.i64
                (List.foldl (deS 1)
                    { G := c.G, F := c.F, N := c.N, g := c.g, f := c.f, n := c.n, w := [], Ret := c.Ret, Code := c.Code,
                      At := c.At }
                    l).Ret),
            TV.v
              (Value.int IntKind.i64
                (List.foldl (deS 1)
                    { G := c.G, F := c.F, N := c.N, g := c.g, f := c.f, n := c.n, w := [], Ret := c.Ret, Code := c.Code,
                      At := c.At }
                    l).Code),
            TV.v
              (Value.int IntKind.i64
                (List.foldl (deS 1)
                    { G := c.G, F := c.F, N := c.N, g := c.g, f := c.f, n := c.n, w := [], Ret := c.Ret, Code := c.Code,
                      At := c.At }
                    l).At)]
          false,
        TO.mp C.m_str_i64
          (List.foldl (deS 1)
              { G := c.G, F := c.F, N := c.N, g := c.g, f := c.f, n := c.n, w := [], Ret := c.Ret, Code := c.Code,
                At := c.At }
              l).g
          false,
        TO.mp C.m_str_i64
          (List.foldl (deS 1)
              { G := c.G, F := c.F, N := c.N, g := c.g, f := c.f, n := c.n, w := [], Ret := c.Ret, Code := c.Code,
                At := c.At }
              l).f
          false,
        TO.mp C.m_str_i64
          (List.foldl (deS 1)
              { G := c.G, F := c.F, N := c.N, g := c.g, f := c.f, n := c.n, w := [], Ret := c.Ret, Code := c.Code,
                At := c.At }
              l).n
          false],
      TV.tup [])
else none := by kernel_rfl
theorem e50b (c : SC) (l : List
  R82) : (evFn X Ca an50 lp50 Try.f50 (scN c) [TV.ref 0 0 0, TV.mp 2, TV.lst C.t82 l]
  fun (o : List (TO X.U)) (v : TV X.U) => some (o, v)) =
  if P50 l (↑l.length : Int) 0 then
  some
    ([TO.cells
          [TV.lst C.t82
              (List.foldl (deS 2)
                  { G := c.G, F := c.F, N := c.N, g := c.g, f := c.f, n := c.n, w := [], Ret := c.Ret, Code := c.Code,
                    At := c.At }
                  l).G,
            TV.lst C.t82
              (List.foldl (deS 2)
                  { G := c.G, F := c.F, N := c.N, g := c.g, f := c.f, n := c.n, w := [], Ret := c.Ret, Code := c.Code,
                    At := c.At }
                  l).F,
            TV.lst C.t90
              (List.foldl (deS 2)
                  { G := c.G, F := c.F, N := c.N, g := c.g, f := c.f, n := c.n, w := [], Ret := c.Ret, Code := c.Code,
                    At := c.At }
                  l).N,
            TV.mp 1, TV.mp 2, TV.mp 3, TV.v (Value.map none),
            TV.v
              (Value.int IntKind.i64
                (List.foldl (deS 2)
                    { G := c.G, F := c.F, N := c.N, g := c.g, f := c.f, n := c.n, w := [], Ret := c.Ret, Code := c.Code,
                      At := c.At }
                    l).Ret),
            TV.v
              (Value.int IntKind.i64
                (List.foldl (deS 2)
                    { G := c.G, F := c.F, N := c.N, g := c.g, f := c.f, n := c.n, w := [], Ret := c.Ret, Code := c.Code,
                      At := c.At }
                    l).Code),
            TV.v
              (Value.int IntKind.i64
                (List.foldl (deS 2)
                    { G := c.G, F := c.F, N := c.N, g := c.g, f := c.f, n := c.n, w := [], Ret := c.Ret, Code := c.Code,
                      At := c.At }
                    l).At)]
          false,
        TO.mp C.m_str_i64
          (List.foldl (deS 2)
              { G := c.G, F := c.F, N := c.N, g := c.g, f := c.f, n := c.n, w := [], Ret := c.Ret, Code := c.Code,
                At := c.At }
              l).g
          false,
        TO.mp C.m_str_i64
          (List.foldl (deS 2)
              { G := c.G, F := c.F, N := c.N, g := c.g, f := c.f, n := c.n, w := [], Ret := c.Ret, Code := c.Code,
                At := c.At }
              l).f
          false,
        TO.mp C.m_str_i64
          (List.foldl (deS 2)
              { G := c.G, F := c.F, N := c.N, g := c.g, f := c.f, n := c.n, w := [], Ret := c.Ret, Code := c.Code,
                At := c.At }
              l).n
          false],
      TV.tup [])
else none := by kernel_rfl
theorem e50d (c : SC) (l : List
  R82) : (evFn X Ca an50 lp50 Try.f50 (scO c) [TV.ref 0 0 0, TV.mp 4, TV.lst C.t82 l]
  fun (o : List (TO X.U)) (v : TV X.U) => some (o, v)) =
  if P50 l (↑l.length : Int) 0 then
  some
    ([scC (List.foldl (deS 4) c l), TO.mp C.m_str_i64 (List.foldl (deS 4) c l).g false,
        TO.mp C.m_str_i64 (List.foldl (deS 4) c l).f false, TO.mp C.m_str_i64 (List.foldl (deS 4) c l).n false,
        TO.mp C.m_str_i64 (List.foldl (deS 4) c l).w false],
      TV.tup [])
else none := by kernel_rfl
def dJl (objs : List (TO U)) (args : List (TV U)) : Option (Nat × List R82) := match objs, args with
  | [], [a0, a1, a2] =>
    match a0 with
    | .ref 0 0 0 =>
      match a1 with
      | .mp j =>
        match a2 with
        | .lst .t82 l =>
          some (j, l)
        | _ => none
      | _ => none
    | _ => none
  | _, _ => none
theorem dJl_ok {objs : List (TO U)} {args : List (TV U)} {j : Nat} {l : List R82} (h : dJl objs args = some (j, l)) : objs = [] ∧ args = [.ref 0 0 0, .mp j, .lst .t82 l] := by
  unfold dJl at h
  repeat' split at h
  all_goals first | (cases h; done) | (cases h; exact ⟨rfl, rfl⟩)
def Pj2 (b : Bool) (j n : Nat) : Prop := ((b = true ∧ j = 4) ∨ (b = false ∧ (j = 1 ∨ j = 2))) ∧ n ≤ 3000000
instance (b : Bool) (j n : Nat) : Decidable (Pj2 b j n) := by unfold Pj2; infer_instance
def scX (b : Bool) (c : SC) : SC := cond b c c.w0
def sDeclS : Spc U := .of (dB2 dJl) (fun ((b, c), j, l) => Pj2 b j l.length) (fun ((b, c), j, l) => scB b (l.foldl (deS j) (scX b c))) fun _ => .tup []
theorem sDeclS_ok : SpecOk Try.prog 50 sDeclS := by
  refine fn_ok X_ok mixed Ca_ok an50 lp50 Try.func50 (by kernel_rfl) (by kernel_rfl) lp50_ok fun objs args x hx hp => ?_
  obtain ⟨⟨b, c⟩, j, l⟩ := x
  obtain ⟨rfl, h2⟩ := dB2_ok hx
  obtain ⟨_, rfl⟩ := dJl_ok h2
  obtain ⟨hj, hl⟩ := hp
  dsimp only at hj hl ⊢
  have h4 : P50 l l.length 0 := ⟨hl, rfl, rfl⟩
  rcases hj with ⟨rfl, rfl⟩ | ⟨rfl, rfl | rfl⟩
  · refine (e50d c l).trans ?_
    rw [if_pos h4]
    rfl
  · refine (e50a c l).trans ?_
    rw [if_pos h4]
    rfl
  · refine (e50b c l).trans ?_
    rw [if_pos h4]
    rfl
end Go.Proofs.Ytpkgikchphgfaaa.Ck

/- What is wrong of a program: the whole. -/
namespace Go.Proofs.Ytpkgikchphgfaaa.Ck
open Go Go.RowKit Go.Proofs.Ytpkgikchphgfaaa.Eng Go.Proofs.Ytpkgikchphgfaaa.Fl
set_option linter.unusedVariables false
set_option linter.unusedSimpArgs false
set_option maxRecDepth 20000
noncomputable def Cf : FuncId → Option (Spc U)
  | 50 => some sDeclS
  | 51 => some sFailS
  | 52 => some sBlk
  | _ => none
theorem Cf_ok : ∀ f S, Cf f = some S → SpecOk Try.prog f S := fun f S h => by
  unfold Cf at h
  split at h
  · cases h; exact sDeclS_ok
  · cases h; exact sFailS_ok
  · cases h; exact sBlk_ok
  · cases h
def an23 : Ann := ⟨fun | 0 => 481036337166 | 2 => 1033017668127734890510 | _ => 0, fun | 0 => 14 | 2 => 14 | _ => 0, fun _ => [], false⟩
def trO (t : TR) : TO U := .cells [.lst .t82 t.G, .lst .t82 t.F, .lst .t90 t.N] false
def flO : TO U := .cells [.v (.int .i64 0), .v (.int .i64 0)] false
def scM (c : SC) : TO U := .cells [.lst .t82 c.G, .lst .t82 c.F, .lst .t90 c.N, .mp 3, .mp 4, .mp 5, .v (.map none), .v (.int .i64 c.Ret), .v (.int .i64 c.Code), .v (.int .i64 c.At)] false
def scV (c : SC) : TO U := .cells [.lst .t82 c.G, .lst .t82 c.F, .lst .t90 c.N, .mp 3, .mp 4, .mp 5, .mp 6, .v (.int .i64 c.Ret), .v (.int .i64 c.Code), .v (.int .i64 c.At)] false
def S23a (t : TR) (c : SC) (v : Int) : TS U := mkS 137 [(1, .ref 0 0 0), (2, .ref 1 0 0), (3, .ref 2 0 0), (36, .lst .t90 t.N), (37, .v (.int .i64 (t.N.length : Int))), (38, .v (.int .i64 v))] [trO t, flO, scM c, mO c.g, mO c.f, mO c.n] 0
def Z23a (t : TR) (c : SC) : Exit × TS U := (.exit 0, mkS 137 [(1, .ref 0 0 0), (2, .ref 1 0 0), (3, .ref 2 0 0)] [trO t, flO, scM c, mO c.g, mO c.f, mO c.n] 0)
def putN (z : R90) (v : Int) (c : SC) : SC := { c with n := aset keS c.n z.Name v }
def stN (t : TR) (c : SC) (v : Int) : SC := match getI t.N v with
  | some z => cond (aget keS c.n z.Name).isSome (c.fail 183 z.At) (putN z v c)
  | none => c
theorem r23a (lp : Lp U) (N : Nat) (t : TR) (c : SC) (v : Int) : fnLoop X Cf an23 lp Try.f23 0 N.succ (S23a t c v) = cond (decide (v < (t.N.length : Int))) ((getI t.N v).bind fun z => cond (aget keS c.n z.Name).isSome (if True then fnLoop X Cf an23 lp Try.f23 0 N (S23a t (c.w0.fail 183 z.At) (IntKind.i64.wrap (v + 1))) else none) (fnLoop X Cf an23 lp Try.f23 0 N (S23a t (putN z v c) (IntKind.i64.wrap (v + 1))))) (some (Z23a t c)) := by kernel_rfl
theorem stN_w (t : TR) (c : SC) (v : Int) : (stN t c v).w = c.w := by
  unfold stN
  split
  · rename_i z _
    cases (aget keS c.n z.Name).isSome with
    | true => exact c.fail_w _ _
    | false => rfl
  · rfl
theorem rounds23a (lp : Lp U) (t : TR) (hl : t.N.length ≤ 3000000) (c : SC) (hw0 : c.w = []) : fnLoop X Cf an23 lp Try.f23 0 (t.N.length + 1) (S23a t c 0) = some (Z23a t (ixL t.N.length (stN t) (t.N.length + 1) c 0)) := by
  refine ixL_rounds (fun c v => S23a t c v) (Z23a t) (fun d _ => d.w = []) (fun d v N hd h0 h1 => ?_) (fun d v N _ _ h1 => by rw [r23a, decide_eq_false h1]; rfl) t.N.length c 0 (Int.le_refl 0) (by omega) hw0
  obtain ⟨z, hz, _⟩ := getI_lt h0 h1
  have hw : IntKind.i64.wrap (v + 1) = v + 1 := wrap_i64 (by omega) (by omega)
  refine ⟨?_, (stN_w t d v).trans hd⟩
  rw [r23a, decide_eq_true h1, hz, hw, cond_true, Option.bind_some, if_pos trivial, w0_eq hd]
  unfold stN
  rw [hz]
  dsimp only
  cases (aget keS d.n z.Name).isSome <;> rfl
/-! ### Functions, one by one -/
def vO (b : Bool) (c : SC) : List (TO U) := match b with
  | true => [scV c, mO c.g, mO c.f, mO c.n, mO c.w]
  | false => [scM c, mO c.g, mO c.f, mO c.n]
def S23b (t : TR) (b : Bool) (c : SC) (v : Int) : TS U := mkS 137 [(1, .ref 0 0 0), (2, .ref 1 0 0), (3, .ref 2 0 0), (67, .lst .t90 t.N), (68, .v (.int .i64 (t.N.length : Int))), (69, .v (.int .i64 v))] ([trO t, flO] ++ vO b c) 0
def Z23b (t : TR) (b : Bool) (c : SC) : Exit × TS U := (.exit 2, mkS 137 [(1, .ref 0 0 0), (2, .ref 1 0 0), (3, .ref 2 0 0)] ([trO t, flO] ++ vO b c) 0)
def fnS (c : SC) (z : R90) : SC := stSL z.Body (z.Vars.foldl (deS 4) (z.Params.foldl (deS 4) { c with w := [], Ret := z.Ret }))
theorem r23b (lp : Lp U) (N : Nat) (t : TR) (b : Bool) (c : SC) (v : Int) : fnLoop X Cf an23 lp Try.f23 2 N.succ (S23b t b c v) = cond (decide (v < (t.N.length : Int))) ((getI t.N v).bind fun z => if Pj2 true 4 z.Params.length then (if Pj2 true 4 z.Vars.length then (if PreL (z.Vars.foldl (deS 4) (z.Params.foldl (deS 4) { c with w := [], Ret := z.Ret })) (cntL z.Body) then fnLoop X Cf an23 lp Try.f23 2 N (S23b t true (fnS c z) (IntKind.i64.wrap (v + 1))) else none) else none) else none) (some (Z23b t b c)) := by cases b <;> kernel_rfl
theorem deS4_n (c : SC) (d : R82) : (deS 4 c d).n = c.n ∧ (deS 4 c d).N = c.N ∧ (deS 4 c d).G = c.G ∧ (deS 4 c d).F = c.F ∧ (deS 4 c d).g = c.g ∧ (deS 4 c d).f = c.f ∧ (deS 4 c d).Ret = c.Ret := by
  unfold deS dePut
  cases (aget keS (c.m 4) d.Name).isSome with
  | true =>
    obtain ⟨k, a, h⟩ := c.fail_like 183 d.At
    rw [cond_true, h]
    exact ⟨rfl, rfl, rfl, rfl, rfl, rfl, rfl⟩
  | false => exact ⟨rfl, rfl, rfl, rfl, rfl, rfl, rfl⟩
theorem deF4_n : ∀ (l : List R82) (c : SC), (l.foldl (deS 4) c).n = c.n ∧ (l.foldl (deS 4) c).N = c.N
  | [], c => ⟨rfl, rfl⟩
  | d :: l, c => by
    rw [List.foldl_cons, (deF4_n l _).1, (deF4_n l _).2]
    exact ⟨(deS4_n c d).1, (deS4_n c d).2.1⟩
theorem fnS_n (c : SC) (z : R90) : (fnS c z).n = c.n ∧ (fnS c z).N = c.N := by
  unfold fnS
  obtain ⟨k, a, h⟩ := stSL_like z.Body (z.Vars.foldl (deS 4) (z.Params.foldl (deS 4) { c with w := [], Ret := z.Ret }))
  rw [h]
  show (List.foldl (deS 4) _ _).n = _ ∧ (List.foldl (deS 4) _ _).N = _
  rw [(deF4_n _ _).1, (deF4_n _ _).2, (deF4_n _ _).1, (deF4_n _ _).2]
  exact ⟨rfl, rfl⟩
theorem NOk.of_n {c d : SC} (h : NOk c) (h1 : d.n = c.n) (h2 : d.N = c.N) : NOk d := fun s v hv => by
  rw [h1] at hv
  rw [h2]
  exact h s v hv
theorem rounds23b (lp : Lp U) (t : TR) (hl : fnsW t.N ≤ 1000000) (c : SC) (hc : NOk c) : ∀ (N : Nat) (b : Bool) (v : Int), 0 ≤ v → (t.N.length : Int) ≤ v + N → ∀ d, d.n = c.n → d.N = c.N →
    fnLoop X Cf an23 lp Try.f23 2 (N + 1) (S23b t b d v) = some (Z23b t (b || decide (v < (t.N.length : Int))) ((t.N.drop v.toNat).foldl fnS d)) := by
  intro N
  induction N with
  | zero =>
    intro b v h0 h1 d e1 e2
    rw [r23b, decide_eq_false (by omega), List.drop_eq_nil_of_le (by omega), Bool.or_false]
    rfl
  | succ N ih =>
    intro b v h0 h1 d e1 e2
    rw [r23b]
    by_cases hv : v < (t.N.length : Int)
    · obtain ⟨z, hz, hz2⟩ := getI_lt h0 hv
      have hlen := fnsW_len t.N
      have hw : IntKind.i64.wrap (v + 1) = v + 1 := wrap_i64 (by omega) (by omega)
      have hfw := fnsW_at t.N v.toNat z hz2
      unfold fnW at hfw
      have p1 : Pj2 true 4 z.Params.length := ⟨.inl ⟨rfl, rfl⟩, by omega⟩
      have p2 : Pj2 true 4 z.Vars.length := ⟨.inl ⟨rfl, rfl⟩, by omega⟩
      have hn : NOk (z.Vars.foldl (deS 4) (z.Params.foldl (deS 4) { d with w := [], Ret := z.Ret })) := by
        refine NOk.of_n (hc.of_n e1 e2) ?_ ?_
        · rw [(deF4_n _ _).1, (deF4_n _ _).1]
        · rw [(deF4_n _ _).2, (deF4_n _ _).2]
      have p3 : PreL (z.Vars.foldl (deS 4) (z.Params.foldl (deS 4) { d with w := [], Ret := z.Ret })) (cntL z.Body) := ⟨hn, by omega⟩
      have hd : t.N.drop v.toNat = z :: t.N.drop (v.toNat + 1) := by
        obtain ⟨hlt, he⟩ := List.getElem?_eq_some_iff.1 hz2
        rw [List.drop_eq_getElem_cons hlt, he]
      rw [decide_eq_true hv, hz, hw, cond_true, Option.bind_some, if_pos p1, if_pos p2, if_pos p3, ih true (v + 1) (by omega) (by omega) _ ((fnS_n d z).1.trans e1) ((fnS_n d z).2.trans e2), hd, List.foldl_cons, Bool.true_or, Bool.or_true, show (v + 1).toNat = v.toNat + 1 by omega]
    · rw [decide_eq_false hv, List.drop_eq_nil_of_le (by omega), Bool.or_false]
      rfl
end Go.Proofs.Ytpkgikchphgfaaa.Ck

/- What is wrong of a program: the whole, told. -/
namespace Go.Proofs.Ytpkgikchphgfaaa.Ck
open Go Go.RowKit Go.Proofs.Ytpkgikchphgfaaa.Eng Go.Proofs.Ytpkgikchphgfaaa.Fl
set_option linter.unusedVariables false
set_option linter.unusedSimpArgs false
set_option maxRecDepth 20000
def l23a (s : TS U) : Option (List R82 × List R82 × List R90 × Int × Int × List R82 × List R82 × List R90 × Int × Int × Int × List (ByteArray × Int) × List (ByteArray × Int) × List (ByteArray × Int) × List R90 × Int × Int) := match told s 137 [1, 2, 3, 36, 37, 38] 0, s.objs with
  | some [a0, a1, a2, a3, a4, a5], [o0, o1, o2, o3, o4, o5] =>
    match o0 with
    | .cells [q0, q1, q2] false =>
      match q0 with
      | .lst .t82 y1 =>
        match q1 with
        | .lst .t82 y2 =>
          match q2 with
          | .lst .t90 y3 =>
            match o1 with
            | .cells [q3, q4] false =>
              match q3 with
              | .v (.int .i64 z1) =>
                match q4 with
                | .v (.int .i64 z2) =>
                  match o2 with
                  | .cells [q5, q6, q7, q8, q9, q10, q11, q12, q13, q14] false =>
                    match q5 with
                    | .lst .t82 x1 =>
                      match q6 with
                      | .lst .t82 x2 =>
                        match q7 with
                        | .lst .t90 x3 =>
                          match q8 with
                          | .mp 3 =>
                            match q9 with
                            | .mp 4 =>
                              match q10 with
                              | .mp 5 =>
                                match q11 with
                                | .v (.map none) =>
                                  match q12 with
                                  | .v (.int .i64 x8) =>
                                    match q13 with
                                    | .v (.int .i64 x9) =>
                                      match q14 with
                                      | .v (.int .i64 x10) =>
                                        match o3 with
                                        | .mp .m_str_i64 x4 false =>
                                          match o4 with
                                          | .mp .m_str_i64 x5 false =>
                                            match o5 with
                                            | .mp .m_str_i64 x6 false =>
                                              match a0 with
                                              | .ref 0 0 0 =>
                                                match a1 with
                                                | .ref 1 0 0 =>
                                                  match a2 with
                                                  | .ref 2 0 0 =>
                                                    match a3 with
                                                    | .lst .t90 l =>
                                                      match a4 with
                                                      | .v (.int .i64 n) =>
                                                        match a5 with
                                                        | .v (.int .i64 v) =>
                                                          some (y1, y2, y3, z1, z2, x1, x2, x3, x8, x9, x10, x4, x5, x6, l, n, v)
                                                        | _ => none
                                                      | _ => none
                                                    | _ => none
                                                  | _ => none
                                                | _ => none
                                              | _ => none
                                            | _ => none
                                          | _ => none
                                        | _ => none
                                      | _ => none
                                    | _ => none
                                  | _ => none
                                | _ => none
                              | _ => none
                            | _ => none
                          | _ => none
                        | _ => none
                      | _ => none
                    | _ => none
                  | _ => none
                | _ => none
              | _ => none
            | _ => none
          | _ => none
        | _ => none
      | _ => none
    | _ => none
  | _, _ => none
theorem l23a_ok {s : TS U} {y1 : List R82} {y2 : List R82} {y3 : List R90} {z1 : Int} {z2 : Int} {x1 : List R82} {x2 : List R82} {x3 : List R90} {x8 : Int} {x9 : Int} {x10 : Int} {x4 : List (ByteArray × Int)} {x5 : List (ByteArray × Int)} {x6 : List (ByteArray × Int)} {l : List R90} {n : Int} {v : Int} (h : l23a s = some (y1, y2, y3, z1, z2, x1, x2, x3, x8, x9, x10, x4, x5, x6, l, n, v)) : s = mkS (U := U) 137 ([1, 2, 3, 36, 37, 38].zip ([.ref 0 0 0, .ref 1 0 0, .ref 2 0 0, .lst .t90 l, .v (.int .i64 n), .v (.int .i64 v)] : List (TV U))) ([.cells [.lst .t82 y1, .lst .t82 y2, .lst .t90 y3] false, .cells [.v (.int .i64 z1), .v (.int .i64 z2)] false, .cells [.lst .t82 x1, .lst .t82 x2, .lst .t90 x3, .mp 3, .mp 4, .mp 5, .v (.map none), .v (.int .i64 x8), .v (.int .i64 x9), .v (.int .i64 x10)] false, .mp .m_str_i64 x4 false, .mp .m_str_i64 x5 false, .mp .m_str_i64 x6 false] : List (TO U)) 0 := by
  unfold l23a at h
  split at h <;> try (cases h; done)
  rename_i ht ho
  have hs := told_ok ht
  rw [ho] at hs
  repeat' split at h
  all_goals first | (cases h; done) | (cases h; exact hs)
def l23b (s : TS U) : Option (List R82 × List R82 × List R90 × Int × Int × List R82 × List R82 × List R90 × Int × Int × Int × List (ByteArray × Int) × List (ByteArray × Int) × List (ByteArray × Int) × List R90 × Int × Int) := match told s 137 [1, 2, 3, 67, 68, 69] 0, s.objs with
  | some [a0, a1, a2, a3, a4, a5], [o0, o1, o2, o3, o4, o5] =>
    match o0 with
    | .cells [q0, q1, q2] false =>
      match q0 with
      | .lst .t82 y1 =>
        match q1 with
        | .lst .t82 y2 =>
          match q2 with
          | .lst .t90 y3 =>
            match o1 with
            | .cells [q3, q4] false =>
              match q3 with
              | .v (.int .i64 z1) =>
                match q4 with
                | .v (.int .i64 z2) =>
                  match o2 with
                  | .cells [q5, q6, q7, q8, q9, q10, q11, q12, q13, q14] false =>
                    match q5 with
                    | .lst .t82 x1 =>
                      match q6 with
                      | .lst .t82 x2 =>
                        match q7 with
                        | .lst .t90 x3 =>
                          match q8 with
                          | .mp 3 =>
                            match q9 with
                            | .mp 4 =>
                              match q10 with
                              | .mp 5 =>
                                match q11 with
                                | .v (.map none) =>
                                  match q12 with
                                  | .v (.int .i64 x8) =>
                                    match q13 with
                                    | .v (.int .i64 x9) =>
                                      match q14 with
                                      | .v (.int .i64 x10) =>
                                        match o3 with
                                        | .mp .m_str_i64 x4 false =>
                                          match o4 with
                                          | .mp .m_str_i64 x5 false =>
                                            match o5 with
                                            | .mp .m_str_i64 x6 false =>
                                              match a0 with
                                              | .ref 0 0 0 =>
                                                match a1 with
                                                | .ref 1 0 0 =>
                                                  match a2 with
                                                  | .ref 2 0 0 =>
                                                    match a3 with
                                                    | .lst .t90 l =>
                                                      match a4 with
                                                      | .v (.int .i64 n) =>
                                                        match a5 with
                                                        | .v (.int .i64 v) =>
                                                          some (y1, y2, y3, z1, z2, x1, x2, x3, x8, x9, x10, x4, x5, x6, l, n, v)
                                                        | _ => none
                                                      | _ => none
                                                    | _ => none
                                                  | _ => none
                                                | _ => none
                                              | _ => none
                                            | _ => none
                                          | _ => none
                                        | _ => none
                                      | _ => none
                                    | _ => none
                                  | _ => none
                                | _ => none
                              | _ => none
                            | _ => none
                          | _ => none
                        | _ => none
                      | _ => none
                    | _ => none
                  | _ => none
                | _ => none
              | _ => none
            | _ => none
          | _ => none
        | _ => none
      | _ => none
    | _ => none
  | _, _ => none
theorem l23b_ok {s : TS U} {y1 : List R82} {y2 : List R82} {y3 : List R90} {z1 : Int} {z2 : Int} {x1 : List R82} {x2 : List R82} {x3 : List R90} {x8 : Int} {x9 : Int} {x10 : Int} {x4 : List (ByteArray × Int)} {x5 : List (ByteArray × Int)} {x6 : List (ByteArray × Int)} {l : List R90} {n : Int} {v : Int} (h : l23b s = some (y1, y2, y3, z1, z2, x1, x2, x3, x8, x9, x10, x4, x5, x6, l, n, v)) : s = mkS (U := U) 137 ([1, 2, 3, 67, 68, 69].zip ([.ref 0 0 0, .ref 1 0 0, .ref 2 0 0, .lst .t90 l, .v (.int .i64 n), .v (.int .i64 v)] : List (TV U))) ([.cells [.lst .t82 y1, .lst .t82 y2, .lst .t90 y3] false, .cells [.v (.int .i64 z1), .v (.int .i64 z2)] false, .cells [.lst .t82 x1, .lst .t82 x2, .lst .t90 x3, .mp 3, .mp 4, .mp 5, .v (.map none), .v (.int .i64 x8), .v (.int .i64 x9), .v (.int .i64 x10)] false, .mp .m_str_i64 x4 false, .mp .m_str_i64 x5 false, .mp .m_str_i64 x6 false] : List (TO U)) 0 := by
  unfold l23b at h
  split at h <;> try (cases h; done)
  rename_i ht ho
  have hs := told_ok ht
  rw [ho] at hs
  repeat' split at h
  all_goals first | (cases h; done) | (cases h; exact hs)
def mk23 : (List R82 × List R82 × List R90 × Int × Int × List R82 × List R82 × List R90 × Int × Int × Int × Mp × Mp × Mp × List R90 × Int × Int) → TR × SC × Int × Int × List R90 × Int × Int := fun (y1, y2, y3, z1, z2, x1, x2, x3, x8, x9, x10, x4, x5, x6, l, n, v) => (⟨y1, y2, y3⟩, ⟨x1, x2, x3, x4, x5, x6, [], x8, x9, x10⟩, z1, z2, l, n, v)
def dl23a (s : TS U) : Option (TR × SC × Int × Int × List R90 × Int × Int) := (l23a s).map mk23
def dl23b (s : TS U) : Option (TR × SC × Int × Int × List R90 × Int × Int) := (l23b s).map mk23
def P23a (t : TR) (z1 z2 : Int) (l : List R90) (n v : Int) : Prop := t.N.length ≤ 3000000 ∧ z1 = 0 ∧ z2 = 0 ∧ l = t.N ∧ n = t.N.length ∧ v = 0
noncomputable instance (t : TR) (z1 z2 : Int) (l : List R90) (n v : Int) : Decidable (P23a t z1 z2 l n v) := Classical.propDecidable _
def P23b (t : TR) (c : SC) (z1 z2 : Int) (l : List R90) (n v : Int) : Prop := (fnsW t.N ≤ 1000000 ∧ NOk c) ∧ z1 = 0 ∧ z2 = 0 ∧ l = t.N ∧ n = t.N.length ∧ v = 0
noncomputable instance (t : TR) (c : SC) (z1 z2 : Int) (l : List R90) (n v : Int) : Decidable (P23b t c z1 z2 l n v) := Classical.propDecidable _
def nmP (t : TR) (c : SC) : SC := ixL t.N.length (stN t) (t.N.length + 1) c 0
noncomputable def lc23a : LC U := .of dl23a (fun (t, c, z1, z2, l, n, v) => P23a t z1 z2 l n v) (.exit 0) (fun (t, c, z1, z2, l, n, v) => (Z23a t (nmP t c)).2)
noncomputable def lc23b : LC U := .of2 dl23b (fun (t, c, z1, z2, l, n, v) => P23b t c z1 z2 l n v) (fun (t, c, z1, z2, l, n, v) => t.N.isEmpty) (.exit 2) (fun (t, c, z1, z2, l, n, v) => (Z23b t false (t.N.foldl fnS c)).2) (.exit 2) (fun (t, c, z1, z2, l, n, v) => (Z23b t true (t.N.foldl fnS c)).2)
noncomputable def lp23 : Lp U := lpL [(0, lc23a), (2, lc23b)]
theorem lp23_ok : ∀ c, Try.f23.body = some c → LpOk X Cf an23 lp23 (loops c 0) := lpL_ok (by kernel_rfl) fun b L hm st p hs => by
  cases hm with
  | head =>
    obtain ⟨⟨t, c, z1, z2, l, n, v⟩, hx, ⟨h1, rfl, rfl, rfl, rfl, rfl⟩, rfl⟩ := LC.of_some hs
    unfold dl23a mk23 at hx
    obtain ⟨⟨y1, y2, y3, z1, z2, x1, x2, x3, x8, x9, x10, x4, x5, x6, l, n, v⟩, hy, he⟩ := Option.map_eq_some_iff.1 hx
    cases he
    obtain rfl := l23a_ok hy
    exact ⟨_, rounds23a _ ⟨y1, y2, y3⟩ h1 ⟨x1, x2, x3, x4, x5, x6, [], x8, x9, x10⟩ rfl⟩
  | tail _ hm =>
    cases hm with
    | head =>
      obtain ⟨⟨t, c, z1, z2, l, n, v⟩, hx, ⟨⟨h1, h2⟩, rfl, rfl, rfl, rfl, rfl⟩, rfl⟩ := LC.of2_some hs
      unfold dl23b mk23 at hx
      obtain ⟨⟨y1, y2, y3, z1, z2, x1, x2, x3, x8, x9, x10, x4, x5, x6, l, n, v⟩, hy, he⟩ := Option.map_eq_some_iff.1 hx
      cases he
      obtain rfl := l23b_ok hy
      have := rounds23b (lpL [(0, lc23a), (2, lc23b)]) ⟨y1, y2, y3⟩ h1 _ h2 y3.length false 0 (Int.le_refl 0) (by show (y3.length : Int) ≤ _; omega) ⟨x1, x2, x3, x4, x5, x6, [], x8, x9, x10⟩ rfl rfl
      refine ⟨_, this.trans ?_⟩
      show some (Z23b ⟨y1, y2, y3⟩ (decide ((0 : Int) < (y3.length : Int))) _) = some (cond y3.isEmpty _ _)
      cases y3 with
      | nil => rfl
      | cons a l => rw [decide_eq_true (by rw [List.length_cons]; omega)]; rfl
    | tail _ hm => cases hm
def kk0 (t : TR) : SC := ⟨t.G, t.F, t.N, [], [], [], [], 0, 0, 0⟩
def kk1 (t : TR) : SC := t.G.foldl (deS 1) (kk0 t)
def kk2 (t : TR) : SC := t.F.foldl (deS 2) (kk1 t)
def kk3 (t : TR) : SC := nmP t (kk2 t)
def kk4 (t : TR) : SC := t.N.foldl fnS (kk3 t)
/-- The first flaw. -/
def chS (t : TR) : SC := match aget keS (kk4 t).n bMain with
  | none => (kk4 t).fail 183 0
  | some v => match getI t.N v with
    | some z => cond (decide (0 < (z.Params.length : Int)) || !decide (z.Ret = 0)) ((kk4 t).fail 182 z.At) (kk4 t)
    | none => kk4 t
theorem deF_w (j : Nat) (hj : j = 1 ∨ j = 2) : ∀ (l : List R82) (c : SC), (l.foldl (deS j) c).w = c.w
  | [], c => rfl
  | d :: l, c => by rw [List.foldl_cons, deF_w j hj l, deS_w j hj]
theorem kk1_w (t : TR) : (kk1 t).w = [] := deF_w 1 (.inl rfl) _ _
theorem kk2_w (t : TR) : (kk2 t).w = [] := (deF_w 2 (.inr rfl) _ _).trans (kk1_w t)
theorem kk3_w (t : TR) : (kk3 t).w = [] := ixL_inv (I := fun c => c.w = []) (fun c v h _ _ => (stN_w t c v).trans h) _ _ _ (Int.le_refl 0) (kk2_w t)
theorem e23 (t : Fl.TR) : (evFn X Cf an23 lp23 Try.f23 []
  [TV.agg [TV.lst C.t82 t.G, TV.lst C.t82 t.F, TV.lst C.t90 t.N]] fun (o : List (TO X.U)) (v : TV X.U) => some (o, v)) =
  if Pj2 false 1 t.G.length then
  if Pj2 false 2 t.F.length then
    if P23a t 0 0 t.N (↑t.N.length : Int) 0 then
      if
          P23b t
            (nmP t
                (List.foldl (deS 2)
                    (scX false
                      (List.foldl (deS 1)
                          (scX false
                            { G := t.G, F := t.F, N := t.N, g := [], f := [], n := [], w := [], Ret := 0, Code := 0,
                              At := 0 })
                          t.G).w0)
                    t.F).w0).w0
            0 0 t.N (↑t.N.length : Int) 0 then
        bif t.N.isEmpty then
          bif
              !(aget keS
                    (List.foldl fnS
                        (nmP t
                            (List.foldl (deS 2)
                                (scX false
                                  (List.foldl (deS 1)
                                      (scX false
                                        { G := t.G, F := t.F, N := t.N, g := [], f := [], n := [], w := [], Ret := 0,
                                          Code := 0, At := 0 })
                                      t.G).w0)
                                t.F).w0).w0
                        t.N).n
                    (⟨#[109, 97, 105, 110]⟩ : ByteArray)).isSome then
            if True then
              some
                ([],
                  TV.agg
                    [TV.v
                        (Value.int IntKind.i64
                          ((List.foldl fnS
                                    (nmP t
                                        (List.foldl (deS 2)
                                            (scX false
                                              (List.foldl (deS 1)
                                                  (scX false
                                                    { G := t.G, F := t.F, N := t.N, g := [], f := [], n := [], w := [],
                                                      Ret := 0, Code := 0, At := 0 })
                                                  t.G).w0)
                                            t.F).w0).w0
                                    t.N).w0.fail
                              183 0).Code),
                      TV.v
                        (Value.int IntKind.i64
                          ((List.foldl fnS
                                    (nmP t
                                        (List.foldl (deS 2)
                                            (scX false
                                              (List.foldl (deS 1)
                                                  (scX false
                                                    { G := t.G, F := t.F, N := t.N, g := [], f := [], n := [], w := [],
                                                      Ret := 0, Code := 0, At := 0 })
                                                  t.G).w0)
                                            t.F).w0).w0
                                    t.N).w0.fail
                              183 0).At)])
            else none
          else
            (getI t.N
                  ((aget keS
                        (List.foldl fnS
                            (nmP t
                                (List.foldl (deS 2)
                                    (scX false
                                      (List.foldl (deS 1)
                                          (scX false
                                            { G := t.G, F := t.F, N := t.N, g := [], f := [], n := [], w := [],
                                              Ret := 0, Code := 0, At := 0 })
                                          t.G).w0)
                                    t.F).w0).w0
                            t.N).n
                        (⟨#[109, 97, 105, 110]⟩ : ByteArray)).getD
                    0)).bind
              fun (z : X.U.T C.t90) =>
              bif decide (0 < (↑z.Params.length : Int)) then
                if True then
                  some
                    ([],
                      TV.agg
                        [TV.v
                            (Value.int IntKind.i64
                              ((List.foldl fnS
                                        (nmP t
                                            (List.foldl (deS 2)
                                                (scX false
                                                  (List.foldl (deS 1)
                                                      (scX false
                                                        { G := t.G, F := t.F, N := t.N, g := [], f := [], n := [],
                                                          w := [], Ret := 0, Code := 0, At := 0 })
                                                      t.G).w0)
                                                t.F).w0).w0
                                        t.N).w0.fail
                                  182 z.At).Code),
                          TV.v
                            (Value.int IntKind.i64
                              ((List.foldl fnS
                                        (nmP t
                                            (List.foldl (deS 2)
                                                (scX false
                                                  (List.foldl (deS 1)
                                                      (scX false
                                                        { G := t.G, F := t.F, N := t.N, g := [], f := [], n := [],
                                                          w := [], Ret := 0, Code := 0, At := 0 })
                                                      t.G).w0)
                                                t.F).w0).w0
                                        t.N).w0.fail
                                  182 z.At).At)])
                else none
              else
                bif !decide (z.Ret = 0) then
                  if True then
                    some
                      ([],
                        TV.agg
                          [TV.v
                              (Value.int IntKind.i64
                                ((List.foldl fnS
                                          (nmP t
                                              (List.foldl (deS 2)
                                                  (scX false
                                                    (List.foldl (deS 1)
                                                        (scX false
                                                          { G := t.G, F := t.F, N := t.N, g := [], f := [], n := [],
                                                            w := [], Ret := 0, Code := 0, At := 0 })
                                                        t.G).w0)
                                                  t.F).w0).w0
                                          t.N).w0.fail
                                    182 z.At).Code),
                            TV.v
                              (Value.int IntKind.i64
                                ((List.foldl fnS
                                          (nmP t
                                              (List.foldl (deS 2)
                                                  (scX false
                                                    (List.foldl (deS 1)
                                                        (scX false
                                                          { G := t.G, F := t.F, N := t.N, g := [], f := [], n := [],
                                                            w := [], Ret := 0, Code := 0, At := 0 })
                                                        t.G).w0)
                                                  t.F).w0).w0
                                          t.N).w0.fail
                                    182 z.At).At)])
                  else none
                else
                  some
                    ([],
                      TV.agg
                        [TV.v
                            (Value.int IntKind.i64
                              (List.foldl fnS
                                  (nmP t
                                      (List.foldl (deS 2)
                                          (scX false
                                            (List.foldl (deS 1)
                                                (scX false
                                                  { G := t.G, F := t.F, N := t.N, g := [], f := [], n := [], w := [],
                                                    Ret := 0, Code := 0, At := 0 })
                                                t.G).w0)
                                          t.F).w0).w0
                                  t.N).Code),
                          TV.v
                            (Value.int IntKind.i64
                              (List.foldl fnS
                                  (nmP t
                                      (List.foldl (deS 2)
                                          (scX false
                                            (List.foldl (deS 1)
                                                (scX false
                                                  { G := t.G, F := t.F, N := t.N, g := [], f := [], n := [], w := [],
                                                    Ret := 0, Code := 0, At := 0 })
                                                t.G).w0)
                                          t.F).w0).w0
                                  t.N).At)])
        else
          bif
              !(aget keS
                    (List.foldl fnS
                        (nmP t
                            (List.foldl (deS 2)
                                (scX false
                                  (List.foldl (deS 1)
                                      (scX false
                                        { G := t.G, F := t.F, N := t.N, g := [], f := [], n := [], w := [], Ret := 0,
                                          Code := 0, At := 0 })
                                      t.G).w0)
                                t.F).w0).w0
                        t.N).n
                    (⟨#[109, 97, 105, 110]⟩ : ByteArray)).isSome then
            if True then
              some
                ([],
                  TV.agg
                    [TV.v
                        (Value.int IntKind.i64
                          ((List.foldl fnS
                                  (nmP t
                                      (List.foldl (deS 2)
                                          (scX false
                                            (List.foldl (deS 1)
                                                (scX false
                                                  { G := t.G, F := t.F, N := t.N, g := [], f := [], n := [], w := [],
                                                    Ret := 0, Code := 0, At := 0 })
                                                t.G).w0)
                                          t.F).w0).w0
                                  t.N).fail
                              183 0).Code),
                      TV.v
                        (Value.int IntKind.i64
                          ((List.foldl fnS
                                  (nmP t
                                      (List.foldl (deS 2)
                                          (scX false
                                            (List.foldl (deS 1)
                                                (scX false
                                                  { G := t.G, F := t.F, N := t.N, g := [], f := [], n := [], w := [],
                                                    Ret := 0, Code := 0, At := 0 })
                                                t.G).w0)
                                          t.F).w0).w0
                                  t.N).fail
                              183 0).At)])
            else none
          else
            (getI t.N
                  ((aget keS
                        (List.foldl fnS
                            (nmP t
                                (List.foldl (deS 2)
                                    (scX false
                                      (List.foldl (deS 1)
                                          (scX false
                                            { G := t.G, F := t.F, N := t.N, g := [], f := [], n := [], w := [],
                                              Ret := 0, Code := 0, At := 0 })
                                          t.G).w0)
                                    t.F).w0).w0
                            t.N).n
                        (⟨#[109, 97, 105, 110]⟩ : ByteArray)).getD
                    0)).bind
              fun (z : X.U.T C.t90) =>
              bif decide (0 < (↑z.Params.length : Int)) then
                if True then
                  some
                    ([],
                      TV.agg
                        [TV.v
                            (Value.int IntKind.i64
                              ((List.foldl fnS
                                      (nmP t
                                          (List.foldl (deS 2)
                                              (scX false
                                                (List.foldl (deS 1)
                                                    (scX false
                                                      { G := t.G, F := t.F, N := t.N, g := [], f := [], n := [],
                                                        w := [], Ret := 0, Code := 0, At := 0 })
                                                    t.G).w0)
                                              t.F).w0).w0
                                      t.N).fail
                                  182 z.At).Code),
                          TV.v
                            (Value.int IntKind.i64
                              ((List.foldl fnS
                                      (nmP t
                                          (List.foldl (deS 2)
                                              (scX false
                                                (List.foldl (deS 1)
                                                    (scX false
                                                      { G := t.G, F := t.F, N := t.N, g := [], f := [], n := [],
                                                        w := [], Ret := 0, Code := 0, At := 0 })
                                                    t.G).w0)
                                              t.F).w0).w0
                                      t.N).fail
                                  182 z.At).At)])
                else none
              else
                bif !decide (z.Ret = 0) then
                  if True then
                    some
                      ([],
                        TV.agg
                          [TV.v
                              (Value.int IntKind.i64
                                ((List.foldl fnS
                                        (nmP t
                                            (List.foldl (deS 2)
                                                (scX false
                                                  (List.foldl (deS 1)
                                                      (scX false
                                                        { G := t.G, F := t.F, N := t.N, g := [], f := [], n := [],
                                                          w := [], Ret := 0, Code := 0, At := 0 })
                                                      t.G).w0)
                                                t.F).w0).w0
                                        t.N).fail
                                    182 z.At).Code),
                            TV.v
                              (Value.int IntKind.i64
                                ((List.foldl fnS
                                        (nmP t
                                            (List.foldl (deS 2)
                                                (scX false
                                                  (List.foldl (deS 1)
                                                      (scX false
                                                        { G := t.G, F := t.F, N := t.N, g := [], f := [], n := [],
                                                          w := [], Ret := 0, Code := 0, At := 0 })
                                                      t.G).w0)
                                                t.F).w0).w0
                                        t.N).fail
                                    182 z.At).At)])
                  else none
                else
                  some
                    ([],
                      TV.agg
                        [TV.v
                            (Value.int IntKind.i64
                              (List.foldl fnS
                                  (nmP t
                                      (List.foldl (deS 2)
                                          (scX false
                                            (List.foldl (deS 1)
                                                (scX false
                                                  { G := t.G, F := t.F, N := t.N, g := [], f := [], n := [], w := [],
                                                    Ret := 0, Code := 0, At := 0 })
                                                t.G).w0)
                                          t.F).w0).w0
                                  t.N).Code),
                          TV.v
                            (Value.int IntKind.i64
                              (List.foldl fnS
                                  (nmP t
                                      (List.foldl (deS 2)
                                          (scX false
                                            (List.foldl (deS 1)
                                                (scX false
                                                  { G := t.G, F := t.F, N := t.N, g := [], f := [], n := [], w := [],
                                                    Ret := 0, Code := 0, At := 0 })
                                                t.G).w0)
                                          t.F).w0).w0
                                  t.N).At)])
      else none
    else none
  else none
else none := by kernel_rfl
theorem e23k (t : TR) : evFn X Cf an23 lp23 Try.f23 [] [.agg [.lst .t82 t.G, .lst .t82 t.F, .lst .t90 t.N]] (fun o v => some (o, v)) = (if Pj2 false 1 t.G.length then if Pj2 false 2 t.F.length then if P23a t 0 0 t.N t.N.length 0 then if P23b t (kk3 t) 0 0 t.N t.N.length 0 then
    cond (!(aget keS (kk4 t).n bMain).isSome) (some ([], .agg [.v (.int .i64 ((kk4 t).fail 183 0).Code), .v (.int .i64 ((kk4 t).fail 183 0).At)]))
      ((getI t.N ((aget keS (kk4 t).n bMain).getD 0)).bind fun z => cond (decide (0 < (z.Params.length : Int))) (some ([], .agg [.v (.int .i64 ((kk4 t).fail 182 z.At).Code), .v (.int .i64 ((kk4 t).fail 182 z.At).At)]))
        (cond (!decide (z.Ret = 0)) (some ([], .agg [.v (.int .i64 ((kk4 t).fail 182 z.At).Code), .v (.int .i64 ((kk4 t).fail 182 z.At).At)])) (some ([], .agg [.v (.int .i64 (kk4 t).Code), .v (.int .i64 (kk4 t).At)]))))
  else none else none else none else none) := by
  rw [e23]
  have h1 : (List.foldl (deS 1) (scX false ({ G := t.G, F := t.F, N := t.N, g := [], f := [], n := [], w := [], Ret := 0, Code := 0, At := 0 } : SC)) t.G).w0 = kk1 t := w0_eq (kk1_w t)
  have h2 : (List.foldl (deS 2) (scX false (kk1 t)) t.F).w0 = kk2 t := by
    rw [show scX false (kk1 t) = (kk1 t).w0 from rfl, w0_eq (kk1_w t)]
    exact w0_eq (kk2_w t)
  have h3 : (nmP t (kk2 t)).w0 = kk3 t := w0_eq (kk3_w t)
  have h4 : List.foldl fnS (kk3 t) t.N = kk4 t := rfl
  simp only [h1, h2, h3, h4, if_true]
  congr 4
  cases hN : t.N with
  | nil =>
    have h5 : (kk4 t).w0 = kk4 t := by
      refine w0_eq ?_
      unfold kk4
      rw [hN]
      exact kk3_w t
    rw [h5]
    rfl
  | cons a l => rfl
end Go.Proofs.Ytpkgikchphgfaaa.Ck

/- What is wrong of a program: its contract. -/
namespace Go.Proofs.Ytpkgikchphgfaaa.Ck
open Go Go.RowKit Go.Proofs.Ytpkgikchphgfaaa.Eng Go.Proofs.Ytpkgikchphgfaaa.Fl
set_option linter.unusedVariables false
set_option linter.unusedSimpArgs false
set_option maxRecDepth 20000
theorem aget_aset {A B : Type} {eq : A → A → Bool} (he : ∀ a b, eq a b = true ↔ a = b) (k : A) (b : B) (s : A) : ∀ l : List (A × B), aget eq (aset eq l k b) s = cond (eq s k) (some b) (aget eq l s)
  | [] => rfl
  | (a, y) :: l => by
    rw [aset]
    cases h : eq k a with
    | true =>
      obtain rfl := (he k a).1 h
      rw [cond_true, aget, aget]
      cases eq s k <;> rfl
    | false =>
      rw [cond_false, aget, aget_aset he k b s l, aget]
      cases h1 : eq s a with
      | false => rfl
      | true =>
        cases h2 : eq s k with
        | false => rfl
        | true =>
          obtain rfl := (he s a).1 h1
          obtain rfl := (he s k).1 h2
          rw [h1] at h
          cases h
theorem kk3_NOk (t : TR) : NOk (kk3 t) ∧ (kk3 t).N = t.N := by
  have h0 : ∀ j (l : List R82) (c : SC), j = 1 ∨ j = 2 → (l.foldl (deS j) c).n = c.n ∧ (l.foldl (deS j) c).N = c.N := by
    intro j l
    induction l with
    | nil => intro c _; exact ⟨rfl, rfl⟩
    | cons d l ih =>
      intro c hj
      rw [List.foldl_cons, (ih _ hj).1, (ih _ hj).2]
      unfold deS dePut
      obtain ⟨k, a, hf⟩ := c.fail_like 183 d.At
      rcases hj with rfl | rfl
      · show (cond _ _ _ : SC).n = _ ∧ (cond _ _ _ : SC).N = _
        cases (aget keS (c.m 1) d.Name).isSome
        · exact ⟨rfl, rfl⟩
        · rw [cond_true, hf]; exact ⟨rfl, rfl⟩
      · show (cond _ _ _ : SC).n = _ ∧ (cond _ _ _ : SC).N = _
        cases (aget keS (c.m 2) d.Name).isSome
        · exact ⟨rfl, rfl⟩
        · rw [cond_true, hf]; exact ⟨rfl, rfl⟩
  have hn : (kk2 t).n = [] ∧ (kk2 t).N = t.N := by
    unfold kk2 kk1
    rw [(h0 2 _ _ (.inr rfl)).1, (h0 2 _ _ (.inr rfl)).2, (h0 1 _ _ (.inl rfl)).1, (h0 1 _ _ (.inl rfl)).2]
    exact ⟨rfl, rfl⟩
  have h := ixL_invV (len := (t.N.length : Int)) (step := stN t) (I := fun c v => (∀ s x, aget keS c.n s = some x → 0 ≤ x ∧ x < v) ∧ c.N = t.N) (fun c v hI h1 h2 => by
    obtain ⟨hI, hN⟩ := hI
    unfold stN
    split
    · rename_i z hz
      cases (aget keS c.n z.Name).isSome with
      | true =>
        obtain ⟨k, a, hf⟩ := c.fail_like 183 z.At
        rw [cond_true, hf]
        exact ⟨fun s x hx => by have := hI s x hx; omega, hN⟩
      | false =>
        refine ⟨fun s x hx => ?_, hN⟩
        have hx : aget keS (aset keS c.n z.Name v) s = some x := hx
        rw [aget_aset keS_iff] at hx
        cases hk : keS s z.Name with
        | true =>
          rw [hk] at hx
          cases hx
          omega
        | false =>
          rw [hk] at hx
          have := hI s x hx
          omega
    · exact ⟨fun s x hx => by have := hI s x hx; omega, hN⟩) (t.N.length + 1) (kk2 t) 0 (Int.le_refl 0) (by omega) (by omega) ⟨fun s x hx => (by rw [hn.1] at hx; cases hx), hn.2⟩
  refine ⟨fun s v hv => ?_, h.2⟩
  have h2 : (kk3 t).N = t.N := h.2
  rw [h2]
  exact h.1 s v hv
def dTr0 (objs : List (TO U)) (args : List (TV U)) : Option (List R82 × List R82 × List R90) := match objs, args with
  | [], [a0] =>
    match a0 with
    | .agg [q0, q1, q2] =>
      match q0 with
      | .lst .t82 y1 =>
        match q1 with
        | .lst .t82 y2 =>
          match q2 with
          | .lst .t90 y3 =>
            some (y1, y2, y3)
          | _ => none
        | _ => none
      | _ => none
    | _ => none
  | _, _ => none
theorem dTr0_ok {objs : List (TO U)} {args : List (TV U)} {y1 : List R82} {y2 : List R82} {y3 : List R90} (h : dTr0 objs args = some (y1, y2, y3)) : objs = [] ∧ args = [.agg [.lst .t82 y1, .lst .t82 y2, .lst .t90 y3]] := by
  unfold dTr0 at h
  repeat' split at h
  all_goals first | (cases h; done) | (cases h; exact ⟨rfl, rfl⟩)
def dTr (objs : List (TO U)) (args : List (TV U)) : Option TR := (dTr0 objs args).map fun (y1, y2, y3) => ⟨y1, y2, y3⟩
theorem dTr_ok {objs : List (TO U)} {args : List (TV U)} {t : TR} (h : dTr objs args = some t) : objs = [] ∧ args = [.agg [.lst .t82 t.G, .lst .t82 t.F, .lst .t90 t.N]] := by
  unfold dTr at h
  obtain ⟨⟨y1, y2, y3⟩, hx, rfl⟩ := Option.map_eq_some_iff.1 h
  exact dTr0_ok hx
instance (t : TR) : Decidable (TrOk t) := by unfold TrOk; infer_instance
def sChS : Spc U := .of dTr (fun t => TrOk t) (fun _ => []) fun t => .agg [.v (.int .i64 (chS t).Code), .v (.int .i64 (chS t).At)]
theorem sChS_ok : SpecOk Try.prog 23 sChS := by
  refine fn_ok X_ok mixed Cf_ok an23 lp23 Try.func23 (by kernel_rfl) (by kernel_rfl) lp23_ok fun objs args t hx hp => ?_
  obtain ⟨rfl, rfl⟩ := dTr_ok hx
  obtain ⟨t1, t2, t3⟩ := hp
  dsimp only
  have hlen := fnsW_len t.N
  obtain ⟨k1, k2⟩ := kk3_NOk t
  have p1 : Pj2 false 1 t.G.length := ⟨.inr ⟨rfl, .inl rfl⟩, by omega⟩
  have p2 : Pj2 false 2 t.F.length := ⟨.inr ⟨rfl, .inr rfl⟩, by omega⟩
  have p3 : P23a t 0 0 t.N t.N.length 0 := ⟨by omega, rfl, rfl, rfl, rfl, rfl⟩
  have p4 : P23b t (kk3 t) 0 0 t.N t.N.length 0 := ⟨⟨t3, k1⟩, rfl, rfl, rfl, rfl, rfl⟩
  refine (e23k t).trans ?_
  rw [if_pos p1, if_pos p2, if_pos p3, if_pos p4]
  have h4 : ∀ (l : List R90) (c : SC), (l.foldl fnS c).n = c.n := by
    intro l
    induction l with
    | nil => intro c; rfl
    | cons z l ih => intro c; rw [List.foldl_cons, ih, (fnS_n c z).1]
  have hn : (kk4 t).n = (kk3 t).n := h4 _ _
  unfold chS
  cases hm : aget keS (kk4 t).n bMain with
  | none => rfl
  | some v =>
    rw [hn] at hm
    obtain ⟨h0, h1⟩ := k1 _ _ hm
    rw [k2] at h1
    obtain ⟨z, hz, _⟩ := getI_lt h0 h1
    simp only [Option.isSome_some, Bool.not_true, cond_false, Option.getD_some, hz, Option.bind_some]
    cases decide (0 < (z.Params.length : Int)) <;> cases decide (z.Ret = 0) <;> rfl
end Go.Proofs.Ytpkgikchphgfaaa.Ck

/- Programs compared with themselves. -/
namespace Go.Proofs.Ytpkgikchphgfaaa.Ck
open Go Go.RowKit Go.Proofs.Ytpkgikchphgfaaa.Eng Go.Proofs.Ytpkgikchphgfaaa.Fl
set_option linter.unusedVariables false
set_option linter.unusedSimpArgs false
set_option maxRecDepth 20000
def an54 : Ann := ⟨fun | 0 => 35 | _ => 0, fun | 0 => 16 | _ => 0, fun _ => [], false⟩
def an55 : Ann := ⟨fun | 0 => 35 | 2 => 483 | _ => 0, fun | 0 => 16 | 2 => 243 | _ => 0, fun _ => [], false⟩
def an25 : Ann := ⟨fun | 0 => 44 | _ => 0, fun | 0 => 16 | _ => 0, fun _ => [], false⟩
def zO (z : R114) : TO U := .cells [.v (.int .i64 z.Kind), .v (.int .i64 z.At), .v (.string z.To), .v (.string z.Field), .v (.string z.From), .v (.int .i64 z.Expr.Kind), .v (.string z.Expr.A), .v (.string z.Expr.B), .v (.int .i64 z.Expr.Op), .v (.int .i64 z.Expr.N), .lst .str z.Expr.Args, .lst .t114 z.Body, .lst .t114 z.Else] false
def S54 (a : List R82) (v : Int) : TS U := mkS 26 [(0, .lst .t82 a), (1, .lst .t82 a), (5, .v (.int .i64 v))] [] 0
def S55 (a : List R114) (v : Int) : TS U := mkS 152 [(0, .lst .t114 a), (1, .lst .t114 a), (5, .v (.int .i64 v))] [] 0
def S55b (a : List R114) (v : Int) (z : R114) (w : Int) : TS U := mkS 152 [(0, .lst .t114 a), (1, .lst .t114 a), (5, .v (.int .i64 v)), (6, .ref 0 0 0), (7, .ref 1 0 0), (8, .v (.int .i64 w))] [zO z, zO z] 0
theorem r54 (lp : Lp
  U) (N : Nat) (a : List R82) (v : Int) : (fnLoop X (fun (x : FuncId) => none) an54 lp Try.f54 0 N.succ (S54 a v)) =
  bif decide (v < (↑a.length : Int)) then
  (getI a v).bind fun (z : X.U.T C.t82) =>
    (getI a v).bind fun (z_1 : X.U.T C.t82) =>
      bif !(z.Name.toList == z_1.Name.toList && (decide (z.Type_ = z_1.Type_) && (decide (z.At = z_1.At) && true))) then
        some (Exit.ret, mkS 26 [(4, TV.v (Value.bool false))] [] 0)
      else fnLoop X (fun (x : FuncId) => none) an54 lp Try.f54 0 N (S54 a (IntKind.i64.wrap (v + 1)))
else some (Exit.exit 0, mkS 26 [] [] 0) := by kernel_rfl
theorem seq_self (x : ByteArray) : (x.toList == x.toList) = true := by simp
theorem rounds54 (lp : Lp U) (a : List R82) (hl : a.length ≤ 3000000) : ∀ (N : Nat) (v : Int), 0 ≤ v → (a.length : Int) ≤ v + N → fnLoop X (fun _ => none) an54 lp Try.f54 0 (N + 1) (S54 a v) = some (.exit 0, mkS 26 [] [] 0) := by
  intro N
  induction N with
  | zero => intro v h0 h1; rw [r54, decide_eq_false (by omega)]; rfl
  | succ N ih =>
    intro v h0 h1
    rw [r54]
    by_cases hv : v < (a.length : Int)
    · obtain ⟨z, hz, _⟩ := getI_lt h0 hv
      have hw : IntKind.i64.wrap (v + 1) = v + 1 := wrap_i64 (by omega) (by omega)
      rw [decide_eq_true hv, hz, hw]
      simp only [cond_true, Option.bind_some, seq_self, decide_true, Bool.and_self, Bool.not_true, cond_false]
      exact ih _ (by omega) (by omega)
    · rw [decide_eq_false hv]; rfl
def dl54 (s : TS U) : Option (List R82 × List R82 × Int) := match told s 26 [0, 1, 5] 0, s.objs with
  | some [a0, a1, a2], [] =>
    match a0 with
    | .lst .t82 a =>
      match a1 with
      | .lst .t82 b =>
        match a2 with
        | .v (.int .i64 v) =>
          some (a, b, v)
        | _ => none
      | _ => none
    | _ => none
  | _, _ => none
theorem dl54_ok {s : TS U} {a : List R82} {b : List R82} {v : Int} (h : dl54 s = some (a, b, v)) : s = mkS (U := U) 26 ([0, 1, 5].zip ([.lst .t82 a, .lst .t82 b, .v (.int .i64 v)] : List (TV U))) ([] : List (TO U)) 0 := by
  unfold dl54 at h
  split at h <;> try (cases h; done)
  rename_i ht ho
  have hs := told_ok ht
  rw [ho] at hs
  repeat' split at h
  all_goals first | (cases h; done) | (cases h; exact hs)
def P54 (a b : List R82) (v : Int) : Prop := a.length ≤ 3000000 ∧ b = a ∧ v = 0
noncomputable instance (a b : List R82) (v : Int) : Decidable (P54 a b v) := Classical.propDecidable _
noncomputable def lc54 : LC U := .of dl54 (fun (a, b, v) => P54 a b v) (.exit 0) (fun _ => mkS 26 [] [] 0)
noncomputable def lp54 : Lp U := lpL [(0, lc54)]
theorem lp54_ok : ∀ c, Try.f54.body = some c → LpOk X (fun _ => none) an54 lp54 (loops c 0) := lpL_ok (by kernel_rfl) fun b L hm st p hs => by
  cases hm with
  | tail _ h => cases h
  | head =>
    obtain ⟨⟨a, b, v⟩, hx, ⟨h1, rfl, rfl⟩, rfl⟩ := LC.of_some hs
    obtain rfl := dl54_ok hx
    exact ⟨_, rounds54 _ _ h1 _ 0 (Int.le_refl _) (Int.le_of_eq (Int.zero_add _).symm)⟩
theorem e54 (a : List
  R82) (b : List
  R82) : (evFn X (fun (x : FuncId) => none) an54 lp54 Try.f54 [] [TV.lst C.t82 a, TV.lst C.t82 b]
  fun (o : List (TO X.U)) (v : TV X.U) => some (o, v)) =
  bif !decide ((↑a.length : Int) = (↑b.length : Int)) then some ([], TV.v (Value.bool false))
else if P54 a b 0 then some ([], TV.v (Value.bool true)) else none := by kernel_rfl
def dDD (objs : List (TO U)) (args : List (TV U)) : Option (List R82 × List R82) := match objs, args with
  | [], [a0, a1] =>
    match a0 with
    | .lst .t82 a =>
      match a1 with
      | .lst .t82 b =>
        some (a, b)
      | _ => none
    | _ => none
  | _, _ => none
theorem dDD_ok {objs : List (TO U)} {args : List (TV U)} {a : List R82} {b : List R82} (h : dDD objs args = some (a, b)) : objs = [] ∧ args = [.lst .t82 a, .lst .t82 b] := by
  unfold dDD at h
  repeat' split at h
  all_goals first | (cases h; done) | (cases h; exact ⟨rfl, rfl⟩)
def PDD (a b : List R82) : Prop := a.length ≤ 3000000 ∧ b = a
noncomputable instance (a b : List R82) : Decidable (PDD a b) := Classical.propDecidable _
noncomputable def sDD : Spc U := .of dDD (fun (a, b) => PDD a b) (fun _ => []) fun _ => .v (.bool true)
theorem sDD_ok : SpecOk Try.prog 54 sDD := by
  refine fn_ok X_ok mixed E0_ok an54 lp54 Try.func54 (by kernel_rfl) (by kernel_rfl) lp54_ok fun objs args x hx hp => ?_
  obtain ⟨a, b⟩ := x
  obtain ⟨rfl, rfl⟩ := dDD_ok hx
  obtain ⟨h1, rfl⟩ := hp
  dsimp only
  have h4 : P54 b b 0 := ⟨h1, rfl, rfl⟩
  rw [e54, if_pos h4, decide_eq_true rfl]
  rfl
/-! ### Statements -/
def Y55b (a : List R114) (v : Int) (z : R114) : Exit × TS U := (.exit 2, mkS 152 [(0, .lst .t114 a), (1, .lst .t114 a), (5, .v (.int .i64 v)), (6, .ref 0 0 0), (7, .ref 1 0 0)] [zO z, zO z] 0)
def W55b (a : List R114) (v : Int) (z : R114) : Exit × TS U := (.ret, mkS 152 [(0, .lst .t114 a), (1, .lst .t114 a), (4, .v (.bool false)), (5, .v (.int .i64 v)), (6, .ref 0 0 0), (7, .ref 1 0 0)] [zO z, zO z] 0)
def dLL2 (objs : List (TO U)) (args : List (TV U)) : Option (List R114 × List R114) := match objs, args with
  | [], [a0, a1] =>
    match a0 with
    | .lst .t114 a =>
      match a1 with
      | .lst .t114 b =>
        some (a, b)
      | _ => none
    | _ => none
  | _, _ => none
theorem dLL2_ok {objs : List (TO U)} {args : List (TV U)} {a : List R114} {b : List R114} (h : dLL2 objs args = some (a, b)) : objs = [] ∧ args = [.lst .t114 a, .lst .t114 b] := by
  unfold dLL2 at h
  repeat' split at h
  all_goals first | (cases h; done) | (cases h; exact ⟨rfl, rfl⟩)
def PS2 (n : Nat) (a b : List R114) : Prop := (cntL a ≤ 3000000 ∧ cntL a < n) ∧ b = a
noncomputable instance (n : Nat) (a b : List R114) : Decidable (PS2 n a b) := Classical.propDecidable _
noncomputable def sS2 (n : Nat) : Spc U := .of dLL2 (fun (a, b) => PS2 n a b) (fun _ => []) fun _ => .v (.bool true)
noncomputable def Cg (n : Nat) : FuncId → Option (Spc U)
  | 55 => some (sS2 n)
  | _ => none
theorem Cg_ok {n : Nat} (h0 : SpecOk Try.prog 55 (sS2 n)) : ∀ f S, Cg n f = some S → SpecOk Try.prog f S := fun f S h => by
  unfold Cg at h
  split at h
  · cases h; exact h0
  · cases h
theorem r55b (n : Nat) (lp : Lp U) (N : Nat) (a : List R114) (v : Int) (z : R114) (w : Int) : fnLoop X (Cg n) an55 lp Try.f55 2 N.succ (S55b a v z w) = cond (decide (w < (z.Expr.Args.length : Int))) ((getI z.Expr.Args w).bind fun x => (getI z.Expr.Args w).bind fun y => cond (!(ByteArray.toList x == ByteArray.toList y)) (some (W55b a v z)) (fnLoop X (Cg n) an55 lp Try.f55 2 N (S55b a v z (IntKind.i64.wrap (w + 1))))) (some (Y55b a v z)) := by kernel_rfl
theorem rounds55b (n : Nat) (lp : Lp U) (a : List R114) (v : Int) (z : R114) (hl : z.Expr.Args.length ≤ 3000000) : ∀ (N : Nat) (w : Int), 0 ≤ w → (z.Expr.Args.length : Int) ≤ w + N → fnLoop X (Cg n) an55 lp Try.f55 2 (N + 1) (S55b a v z w) = some (Y55b a v z) := by
  intro N
  induction N with
  | zero => intro w h0 h1; rw [r55b, decide_eq_false (by omega)]; rfl
  | succ N ih =>
    intro w h0 h1
    rw [r55b]
    by_cases hv : w < (z.Expr.Args.length : Int)
    · obtain ⟨x, hx, _⟩ := getI_lt h0 hv
      have hw : IntKind.i64.wrap (w + 1) = w + 1 := wrap_i64 (by omega) (by omega)
      rw [decide_eq_true hv, hx, hw]
      simp only [cond_true, Option.bind_some, seq_self, Bool.not_true, cond_false]
      exact ih _ (by omega) (by omega)
    · rw [decide_eq_false hv]; rfl
def l55b (s : TS U) : Option (Int × Int × ByteArray × ByteArray × ByteArray × Int × ByteArray × ByteArray × Int × Int × List ByteArray × List R114 × List R114 × Int × Int × ByteArray × ByteArray × ByteArray × Int × ByteArray × ByteArray × Int × Int × List ByteArray × List R114 × List R114 × List R114 × List R114 × Int × Int) := match told s 152 [0, 1, 5, 6, 7, 8] 0, s.objs with
  | some [a0, a1, a2, a3, a4, a5], [o0, o1] =>
    match o0 with
    | .cells [q0, q1, q2, q3, q4, q5, q6, q7, q8, q9, q10, q11, q12] false =>
      match q0 with
      | .v (.int .i64 k1) =>
        match q1 with
        | .v (.int .i64 ah1) =>
          match q2 with
          | .v (.string to1) =>
            match q3 with
            | .v (.string fi1) =>
              match q4 with
              | .v (.string fr1) =>
                match q5 with
                | .v (.int .i64 ek1) =>
                  match q6 with
                  | .v (.string ea1) =>
                    match q7 with
                    | .v (.string eb1) =>
                      match q8 with
                      | .v (.int .i64 eo1) =>
                        match q9 with
                        | .v (.int .i64 en1) =>
                          match q10 with
                          | .lst .str ar1 =>
                            match q11 with
                            | .lst .t114 bd1 =>
                              match q12 with
                              | .lst .t114 el1 =>
                                match o1 with
                                | .cells [q13, q14, q15, q16, q17, q18, q19, q20, q21, q22, q23, q24, q25] false =>
                                  match q13 with
                                  | .v (.int .i64 k2) =>
                                    match q14 with
                                    | .v (.int .i64 ah2) =>
                                      match q15 with
                                      | .v (.string to2) =>
                                        match q16 with
                                        | .v (.string fi2) =>
                                          match q17 with
                                          | .v (.string fr2) =>
                                            match q18 with
                                            | .v (.int .i64 ek2) =>
                                              match q19 with
                                              | .v (.string ea2) =>
                                                match q20 with
                                                | .v (.string eb2) =>
                                                  match q21 with
                                                  | .v (.int .i64 eo2) =>
                                                    match q22 with
                                                    | .v (.int .i64 en2) =>
                                                      match q23 with
                                                      | .lst .str ar2 =>
                                                        match q24 with
                                                        | .lst .t114 bd2 =>
                                                          match q25 with
                                                          | .lst .t114 el2 =>
                                                            match a0 with
                                                            | .lst .t114 a =>
                                                              match a1 with
                                                              | .lst .t114 b =>
                                                                match a2 with
                                                                | .v (.int .i64 v) =>
                                                                  match a3 with
                                                                  | .ref 0 0 0 =>
                                                                    match a4 with
                                                                    | .ref 1 0 0 =>
                                                                      match a5 with
                                                                      | .v (.int .i64 w) =>
                                                                        some (k1, ah1, to1, fi1, fr1, ek1, ea1, eb1, eo1, en1, ar1, bd1, el1, k2, ah2, to2, fi2, fr2, ek2, ea2, eb2, eo2, en2, ar2, bd2, el2, a, b, v, w)
                                                                      | _ => none
                                                                    | _ => none
                                                                  | _ => none
                                                                | _ => none
                                                              | _ => none
                                                            | _ => none
                                                          | _ => none
                                                        | _ => none
                                                      | _ => none
                                                    | _ => none
                                                  | _ => none
                                                | _ => none
                                              | _ => none
                                            | _ => none
                                          | _ => none
                                        | _ => none
                                      | _ => none
                                    | _ => none
                                  | _ => none
                                | _ => none
                              | _ => none
                            | _ => none
                          | _ => none
                        | _ => none
                      | _ => none
                    | _ => none
                  | _ => none
                | _ => none
              | _ => none
            | _ => none
          | _ => none
        | _ => none
      | _ => none
    | _ => none
  | _, _ => none
theorem l55b_ok {s : TS U} {k1 : Int} {ah1 : Int} {to1 : ByteArray} {fi1 : ByteArray} {fr1 : ByteArray} {ek1 : Int} {ea1 : ByteArray} {eb1 : ByteArray} {eo1 : Int} {en1 : Int} {ar1 : List ByteArray} {bd1 : List R114} {el1 : List R114} {k2 : Int} {ah2 : Int} {to2 : ByteArray} {fi2 : ByteArray} {fr2 : ByteArray} {ek2 : Int} {ea2 : ByteArray} {eb2 : ByteArray} {eo2 : Int} {en2 : Int} {ar2 : List ByteArray} {bd2 : List R114} {el2 : List R114} {a : List R114} {b : List R114} {v : Int} {w : Int} (h : l55b s = some (k1, ah1, to1, fi1, fr1, ek1, ea1, eb1, eo1, en1, ar1, bd1, el1, k2, ah2, to2, fi2, fr2, ek2, ea2, eb2, eo2, en2, ar2, bd2, el2, a, b, v, w)) : s = mkS (U := U) 152 ([0, 1, 5, 6, 7, 8].zip ([.lst .t114 a, .lst .t114 b, .v (.int .i64 v), .ref 0 0 0, .ref 1 0 0, .v (.int .i64 w)] : List (TV U))) ([.cells [.v (.int .i64 k1), .v (.int .i64 ah1), .v (.string to1), .v (.string fi1), .v (.string fr1), .v (.int .i64 ek1), .v (.string ea1), .v (.string eb1), .v (.int .i64 eo1), .v (.int .i64 en1), .lst .str ar1, .lst .t114 bd1, .lst .t114 el1] false, .cells [.v (.int .i64 k2), .v (.int .i64 ah2), .v (.string to2), .v (.string fi2), .v (.string fr2), .v (.int .i64 ek2), .v (.string ea2), .v (.string eb2), .v (.int .i64 eo2), .v (.int .i64 en2), .lst .str ar2, .lst .t114 bd2, .lst .t114 el2] false] : List (TO U)) 0 := by
  unfold l55b at h
  split at h <;> try (cases h; done)
  rename_i ht ho
  have hs := told_ok ht
  rw [ho] at hs
  repeat' split at h
  all_goals first | (cases h; done) | (cases h; exact hs)
def dl55b (s : TS U) : Option (List R114 × List R114 × R114 × R114 × Int × Int) := (l55b s).map fun (k1, ah1, to1, fi1, fr1, ek1, ea1, eb1, eo1, en1, ar1, bd1, el1, k2, ah2, to2, fi2, fr2, ek2, ea2, eb2, eo2, en2, ar2, bd2, el2, a, b, v, w) => (a, b, .mk k1 ah1 to1 fi1 fr1 ⟨ek1, ea1, eb1, eo1, en1, ar1⟩ bd1 el1, .mk k2 ah2 to2 fi2 fr2 ⟨ek2, ea2, eb2, eo2, en2, ar2⟩ bd2 el2, v, w)
def P55b (a b : List R114) (z y : R114) (w : Int) : Prop := z.Expr.Args.length ≤ 3000000 ∧ b = a ∧ y = z ∧ w = 0
noncomputable instance (a b : List R114) (z y : R114) (w : Int) : Decidable (P55b a b z y w) := Classical.propDecidable _
noncomputable def lc55b : LC U := .of dl55b (fun (a, b, z, y, v, w) => P55b a b z y w) (.exit 2) (fun (a, b, z, y, v, w) => (Y55b a v z).2)
theorem lc55b_ok (n : Nat) {l : List (Nat × LC U)} {s : TS U} {p : Exit × TS U} (hs : lc55b.F s (fun e s => some (e, s)) = some p) : ∃ m, fnLoop X (Cg n) an55 (lpL l) Try.f55 2 m s = some p := by
  obtain ⟨⟨a, b, z, y, v, w⟩, hx, ⟨h1, rfl, rfl, rfl⟩, rfl⟩ := LC.of_some hs
  unfold dl55b at hx
  obtain ⟨⟨k1, ah1, to1, fi1, fr1, ek1, ea1, eb1, eo1, en1, ar1, bd1, el1, k2, ah2, to2, fi2, fr2, ek2, ea2, eb2, eo2, en2, ar2, bd2, el2, a, b, v, w⟩, hy, he⟩ := Option.map_eq_some_iff.1 hx
  cases he
  obtain rfl := l55b_ok hy
  exact ⟨_, rounds55b n _ _ v _ h1 _ 0 (Int.le_refl _) (Int.le_of_eq (Int.zero_add _).symm)⟩
def wrong55 (a : List R114) : Exit × TS U := (.ret, mkS 152 [(4, .v (.bool false))] [] 0)
theorem r55 (n : Nat) (L : LC
  U) (N : Nat) (a : List
  R114) (v : Int) : (fnLoop X (Cg n) an55 (lpL [(0, L), (2, lc55b)]) Try.f55 0 N.succ (S55 a v)) =
  bif decide (v < (↑a.length : Int)) then
  (getI a v).bind fun (z : X.U.T C.t114) =>
    (getI a v).bind fun (z_1 : X.U.T C.t114) =>
      bif !decide (R114.Kind z = R114.Kind z_1) then some (Exit.ret, mkS 152 [(4, TV.v (Value.bool false))] [] 0)
      else
        bif !decide (R114.At z = R114.At z_1) then some (Exit.ret, mkS 152 [(4, TV.v (Value.bool false))] [] 0)
        else
          bif !(R114.To z).toList == (R114.To z_1).toList then
            some (Exit.ret, mkS 152 [(4, TV.v (Value.bool false))] [] 0)
          else
            bif !(R114.Field z).toList == (R114.Field z_1).toList then
              some (Exit.ret, mkS 152 [(4, TV.v (Value.bool false))] [] 0)
            else
              bif !(R114.From z).toList == (R114.From z_1).toList then
                some (Exit.ret, mkS 152 [(4, TV.v (Value.bool false))] [] 0)
              else
                bif !decide ((R114.Expr z).Kind = (R114.Expr z_1).Kind) then
                  some (Exit.ret, mkS 152 [(4, TV.v (Value.bool false))] [] 0)
                else
                  bif !(R114.Expr z).A.toList == (R114.Expr z_1).A.toList then
                    some (Exit.ret, mkS 152 [(4, TV.v (Value.bool false))] [] 0)
                  else
                    bif !(R114.Expr z).B.toList == (R114.Expr z_1).B.toList then
                      some (Exit.ret, mkS 152 [(4, TV.v (Value.bool false))] [] 0)
                    else
                      bif !decide ((R114.Expr z).Op = (R114.Expr z_1).Op) then
                        some (Exit.ret, mkS 152 [(4, TV.v (Value.bool false))] [] 0)
                      else
                        bif !decide ((R114.Expr z).N = (R114.Expr z_1).N) then
                          some (Exit.ret, mkS 152 [(4, TV.v (Value.bool false))] [] 0)
                        else
                          bif !decide ((↑(R114.Expr z).Args.length : Int) = (↑(R114.Expr z_1).Args.length : Int)) then
                            some (Exit.ret, mkS 152 [(4, TV.v (Value.bool false))] [] 0)
                          else
                            if
                                P55b a a
                                  (R114.mk (R114.Kind z) (R114.At z) (R114.To z) (R114.Field z) (R114.From z)
                                    (R114.Expr z) (R114.Body z) (R114.Else z))
                                  (R114.mk (R114.Kind z_1) (R114.At z_1) (R114.To z_1) (R114.Field z_1) (R114.From z_1)
                                    (R114.Expr z_1) (R114.Body z_1) (R114.Else z_1))
                                  0 then
                              if
                                  PS2 n
                                    (R114.mk (R114.Kind z) (R114.At z) (R114.To z) (R114.Field z) (R114.From z)
                                        (R114.Expr z) (R114.Body z) (R114.Else z)).Body
                                    (R114.mk (R114.Kind z) (R114.At z) (R114.To z) (R114.Field z) (R114.From z)
                                        (R114.Expr z) (R114.Body z) (R114.Else z)).Body then
                                if
                                    PS2 n
                                      (R114.mk (R114.Kind z) (R114.At z) (R114.To z) (R114.Field z) (R114.From z)
                                          (R114.Expr z) (R114.Body z) (R114.Else z)).Else
                                      (R114.mk (R114.Kind z) (R114.At z) (R114.To z) (R114.Field z) (R114.From z)
                                          (R114.Expr z) (R114.Body z) (R114.Else z)).Else then
                                  fnLoop X (Cg n) an55 (lpL [(0, L), (2, lc55b)]) Try.f55 0 N
                                    (S55 a (IntKind.i64.wrap (v + 1)))
                                else none
                              else none
                            else none
else some (Exit.exit 0, mkS 152 [] [] 0) := by kernel_rfl
theorem rounds55 (n : Nat) (L : LC U) (a : List R114) (hl : cntL a ≤ 3000000) (hn : cntL a ≤ n) : ∀ (N : Nat) (v : Int), 0 ≤ v → (a.length : Int) ≤ v + N → fnLoop X (Cg n) an55 (lpL [(0, L), (2, lc55b)]) Try.f55 0 (N + 1) (S55 a v) = some (.exit 0, mkS 152 [] [] 0) := by
  have hlen := cntL_len a
  intro N
  induction N with
  | zero => intro v h0 h1; rw [r55, decide_eq_false (by omega)]; rfl
  | succ N ih =>
    intro v h0 h1
    rw [r55]
    by_cases hv : v < (a.length : Int)
    · obtain ⟨z, hz, hz2⟩ := getI_lt h0 hv
      have hw : IntKind.i64.wrap (v + 1) = v + 1 := wrap_i64 (by omega) (by omega)
      have hc := cntL_at a v.toNat z hz2
      rw [cntS_eq] at hc
      rw [decide_eq_true hv, hz, hw]
      have e : R114.mk z.Kind z.At z.To z.Field z.From z.Expr z.Body z.Else = z := by cases z; rfl
      have g1 : P55b a a z z 0 := ⟨by omega, rfl, rfl, rfl⟩
      have g2 : PS2 n z.Body z.Body := ⟨⟨by omega, by omega⟩, rfl⟩
      have g3 : PS2 n z.Else z.Else := ⟨⟨by omega, by omega⟩, rfl⟩
      simp only [cond_true, Option.bind_some, seq_self, decide_true, Bool.not_true, cond_false, e, g1, g2, g3, if_true]
      exact ih _ (by omega) (by omega)
    · rw [decide_eq_false hv]; rfl
def dl55 (s : TS U) : Option (List R114 × List R114 × Int) := match told s 152 [0, 1, 5] 0, s.objs with
  | some [a0, a1, a2], [] =>
    match a0 with
    | .lst .t114 a =>
      match a1 with
      | .lst .t114 b =>
        match a2 with
        | .v (.int .i64 v) =>
          some (a, b, v)
        | _ => none
      | _ => none
    | _ => none
  | _, _ => none
theorem dl55_ok {s : TS U} {a : List R114} {b : List R114} {v : Int} (h : dl55 s = some (a, b, v)) : s = mkS (U := U) 152 ([0, 1, 5].zip ([.lst .t114 a, .lst .t114 b, .v (.int .i64 v)] : List (TV U))) ([] : List (TO U)) 0 := by
  unfold dl55 at h
  split at h <;> try (cases h; done)
  rename_i ht ho
  have hs := told_ok ht
  rw [ho] at hs
  repeat' split at h
  all_goals first | (cases h; done) | (cases h; exact hs)
def P55 (n : Nat) (a b : List R114) (v : Int) : Prop := (cntL a ≤ 3000000 ∧ cntL a ≤ n) ∧ b = a ∧ v = 0
noncomputable instance (n : Nat) (a b : List R114) (v : Int) : Decidable (P55 n a b v) := Classical.propDecidable _
noncomputable def lc55 (n : Nat) : LC U := .of dl55 (fun (a, b, v) => P55 n a b v) (.exit 0) (fun _ => mkS 152 [] [] 0)
noncomputable def lp55 (n : Nat) : Lp U := lpL [(0, lc55 n), (2, lc55b)]
theorem lp55_ok (n : Nat) : ∀ c, Try.f55.body = some c → LpOk X (Cg n) an55 (lp55 n) (loops c 0) := lpL_ok (by kernel_rfl) fun b L hm st p hs => by
  cases hm with
  | head =>
    obtain ⟨⟨a, b, v⟩, hx, ⟨⟨h1, h2⟩, rfl, rfl⟩, rfl⟩ := LC.of_some hs
    obtain rfl := dl55_ok hx
    exact ⟨_, rounds55 n _ _ h1 h2 _ 0 (Int.le_refl _) (Int.le_of_eq (Int.zero_add _).symm)⟩
  | tail _ hm =>
    cases hm with
    | head => exact lc55b_ok n hs
    | tail _ hm => cases hm
theorem e55 (n : Nat) (a : List
  R114) (b : List
  R114) : (evFn X (Cg n) an55 (lp55 n) Try.f55 [] [TV.lst C.t114 a, TV.lst C.t114 b]
  fun (o : List (TO X.U)) (v : TV X.U) => some (o, v)) =
  bif !decide ((↑a.length : Int) = (↑b.length : Int)) then some ([], TV.v (Value.bool false))
else if P55 n a b 0 then some ([], TV.v (Value.bool true)) else none := by kernel_rfl
def lpF55 : Lp U := lpL [(0, .of dl55 (fun _ => False) .ret (fun _ => mkS 0 [] [] 0)), (2, .of dl55 (fun _ => False) .ret (fun _ => mkS 0 [] [] 0))]
theorem lpF55_ok : ∀ c, Try.f55.body = some c → LpOk X (fun _ => none) an55 lpF55 (loops c 0) := lpL_ok (by kernel_rfl) fun b L hm st p hs => by
  cases hm with
  | head =>
    obtain ⟨_, _, h, _⟩ := LC.of_some hs
    exact absurd h id
  | tail _ hm =>
    cases hm with
    | head =>
      obtain ⟨_, _, h, _⟩ := LC.of_some hs
      exact absurd h id
    | tail _ hm => cases hm
theorem sS2_lt : ∀ n : Nat, SpecOk Try.prog 55 (sS2 n)
  | 0 => by
    refine fn_ok X_ok mixed E0_ok an55 lpF55 Try.func55 (by kernel_rfl) (by kernel_rfl) lpF55_ok fun objs args x hx h => ?_
    exact absurd h.1.2 (Nat.not_lt_zero _)
  | n + 1 => by
    refine fn_ok X_ok mixed (Cg_ok (sS2_lt n)) an55 (lp55 n) Try.func55 (by kernel_rfl) (by kernel_rfl) (lp55_ok n) fun objs args x hx hp => ?_
    obtain ⟨a, b⟩ := x
    obtain ⟨rfl, rfl⟩ := dLL2_ok hx
    obtain ⟨⟨h1, h2⟩, rfl⟩ := hp
    dsimp only
    have h4 : P55 n b b 0 := ⟨⟨h1, by omega⟩, rfl, rfl⟩
    rw [e55, if_pos h4, decide_eq_true rfl]
    rfl
def PSS (a b : List R114) : Prop := cntL a ≤ 3000000 ∧ b = a
noncomputable instance (a b : List R114) : Decidable (PSS a b) := Classical.propDecidable _
noncomputable def sSS : Spc U := .of dLL2 (fun (a, b) => PSS a b) (fun _ => []) fun _ => .v (.bool true)
theorem sSS_ok : SpecOk Try.prog 55 sSS := by
  have h := SpecOk.lim (pre := fun (x : List R114 × List R114) => PSS x.1 x.2) (fun x => cntL x.1) (d := dLL2) (o := fun _ => []) (v := fun _ => (.v (.bool true) : TV U)) (P := Try.prog) (fid := 55) fun n => ?_
  · exact h
  · refine SpecOk.of (sS2_lt n) fun objs args x hx hp => ?_
    obtain ⟨a, b⟩ := x
    obtain ⟨⟨h1, h2⟩, h3⟩ := hp
    have h5 : PS2 n a b := ⟨⟨h1, h3⟩, h2⟩
    unfold sS2 Spc.of
    dsimp only
    rw [hx]
    exact if_pos h5
/-! ### Programs -/
noncomputable def Ch : FuncId → Option (Spc U)
  | 54 => some sDD
  | 55 => some sSS
  | _ => none
theorem Ch_ok : ∀ f S, Ch f = some S → SpecOk Try.prog f S := fun f S h => by
  unfold Ch at h
  split at h
  · cases h; exact sDD_ok
  · cases h; exact sSS_ok
  · cases h
def tO2 (t : TR) : TO U := .cells [.lst .t82 t.G, .lst .t82 t.F, .lst .t90 t.N] false
def S25 (t : TR) (v : Int) : TS U := mkS 91 [(2, .ref 0 0 0), (3, .ref 1 0 0), (5, .v (.int .i64 v))] [tO2 t, tO2 t] 0
theorem r25 (lp : Lp U) (N : Nat) (t : Fl.TR) (v : Int) : (fnLoop X Ch an25 lp Try.f25 0 N.succ (S25 t v)) =
  bif decide (v < (↑t.N.length : Int)) then
  (getI t.N v).bind fun (z : X.U.T C.t90) =>
    (getI t.N v).bind fun (z_1 : X.U.T C.t90) =>
      bif !z.Name.toList == z_1.Name.toList then some (Exit.ret, mkS 91 [(4, TV.v (Value.bool false))] [] 0)
      else
        bif !decide (z.At = z_1.At) then some (Exit.ret, mkS 91 [(4, TV.v (Value.bool false))] [] 0)
        else
          bif !decide (z.Ret = z_1.Ret) then some (Exit.ret, mkS 91 [(4, TV.v (Value.bool false))] [] 0)
          else
            if PDD z.Params z_1.Params then
              if PDD z.Vars z_1.Vars then
                if PSS z.Body z_1.Body then fnLoop X Ch an25 lp Try.f25 0 N (S25 t (IntKind.i64.wrap (v + 1))) else none
              else none
            else none
else some (Exit.exit 0, mkS 91 [] [] 0) := by kernel_rfl
theorem rounds25 (lp : Lp U) (t : TR) (ht : TrOk t) : ∀ (N : Nat) (v : Int), 0 ≤ v → (t.N.length : Int) ≤ v + N → fnLoop X Ch an25 lp Try.f25 0 (N + 1) (S25 t v) = some (.exit 0, mkS 91 [] [] 0) := by
  obtain ⟨t1, t2, t3⟩ := ht
  have hlen := fnsW_len t.N
  intro N
  induction N with
  | zero => intro v h0 h1; rw [r25, decide_eq_false (by omega)]; rfl
  | succ N ih =>
    intro v h0 h1
    rw [r25]
    by_cases hv : v < (t.N.length : Int)
    · obtain ⟨z, hz, hz2⟩ := getI_lt h0 hv
      have hw : IntKind.i64.wrap (v + 1) = v + 1 := wrap_i64 (by omega) (by omega)
      have hc := fnsW_at t.N v.toNat z hz2
      unfold fnW at hc
      have g1 : PDD z.Params z.Params := ⟨by omega, rfl⟩
      have g2 : PDD z.Vars z.Vars := ⟨by omega, rfl⟩
      have g3 : PSS z.Body z.Body := ⟨by omega, rfl⟩
      rw [decide_eq_true hv, hz, hw]
      simp only [cond_true, Option.bind_some, seq_self, decide_true, Bool.not_true, cond_false, g1, g2, g3, if_true]
      exact ih _ (by omega) (by omega)
    · rw [decide_eq_false hv]; rfl
def dl25 (s : TS U) : Option (List R82 × List R82 × List R90 × List R82 × List R82 × List R90 × Int) := match told s 91 [2, 3, 5] 0, s.objs with
  | some [a0, a1, a2], [o0, o1] =>
    match o0 with
    | .cells [q0, q1, q2] false =>
      match q0 with
      | .lst .t82 x1 =>
        match q1 with
        | .lst .t82 x2 =>
          match q2 with
          | .lst .t90 x3 =>
            match o1 with
            | .cells [q3, q4, q5] false =>
              match q3 with
              | .lst .t82 y1 =>
                match q4 with
                | .lst .t82 y2 =>
                  match q5 with
                  | .lst .t90 y3 =>
                    match a0 with
                    | .ref 0 0 0 =>
                      match a1 with
                      | .ref 1 0 0 =>
                        match a2 with
                        | .v (.int .i64 v) =>
                          some (x1, x2, x3, y1, y2, y3, v)
                        | _ => none
                      | _ => none
                    | _ => none
                  | _ => none
                | _ => none
              | _ => none
            | _ => none
          | _ => none
        | _ => none
      | _ => none
    | _ => none
  | _, _ => none
theorem dl25_ok {s : TS U} {x1 : List R82} {x2 : List R82} {x3 : List R90} {y1 : List R82} {y2 : List R82} {y3 : List R90} {v : Int} (h : dl25 s = some (x1, x2, x3, y1, y2, y3, v)) : s = mkS (U := U) 91 ([2, 3, 5].zip ([.ref 0 0 0, .ref 1 0 0, .v (.int .i64 v)] : List (TV U))) ([.cells [.lst .t82 x1, .lst .t82 x2, .lst .t90 x3] false, .cells [.lst .t82 y1, .lst .t82 y2, .lst .t90 y3] false] : List (TO U)) 0 := by
  unfold dl25 at h
  split at h <;> try (cases h; done)
  rename_i ht ho
  have hs := told_ok ht
  rw [ho] at hs
  repeat' split at h
  all_goals first | (cases h; done) | (cases h; exact hs)
def P25 (x1 x2 : List R82) (x3 : List R90) (y1 y2 : List R82) (y3 : List R90) (v : Int) : Prop := TrOk ⟨x1, x2, x3⟩ ∧ y1 = x1 ∧ y2 = x2 ∧ y3 = x3 ∧ v = 0
noncomputable instance (x1 x2 : List R82) (x3 : List R90) (y1 y2 : List R82) (y3 : List R90) (v : Int) : Decidable (P25 x1 x2 x3 y1 y2 y3 v) := Classical.propDecidable _
noncomputable def lc25 : LC U := .of dl25 (fun (x1, x2, x3, y1, y2, y3, v) => P25 x1 x2 x3 y1 y2 y3 v) (.exit 0) (fun _ => mkS 91 [] [] 0)
noncomputable def lp25 : Lp U := lpL [(0, lc25)]
theorem lp25_ok : ∀ c, Try.f25.body = some c → LpOk X Ch an25 lp25 (loops c 0) := lpL_ok (by kernel_rfl) fun b L hm st p hs => by
  cases hm with
  | tail _ h => cases h
  | head =>
    obtain ⟨⟨x1, x2, x3, y1, y2, y3, v⟩, hx, ⟨h1, rfl, rfl, rfl, rfl⟩, rfl⟩ := LC.of_some hs
    obtain rfl := dl25_ok hx
    exact ⟨_, rounds25 (lpL [(0, lc25)]) ⟨_, _, _⟩ h1 _ 0 (Int.le_refl _) (Int.le_of_eq (Int.zero_add _).symm)⟩
theorem e25 (t : Fl.TR) : (evFn X Ch an25 lp25 Try.f25 []
  [TV.agg [TV.lst C.t82 t.G, TV.lst C.t82 t.F, TV.lst C.t90 t.N],
    TV.agg [TV.lst C.t82 t.G, TV.lst C.t82 t.F, TV.lst C.t90 t.N]]
  fun (o : List (TO X.U)) (v : TV X.U) => some (o, v)) =
  if PDD t.G t.G then
  if PDD t.F t.F then
    bif !decide ((↑t.N.length : Int) = (↑t.N.length : Int)) then some ([], TV.v (Value.bool false))
    else if P25 t.G t.F t.N t.G t.F t.N 0 then some ([], TV.v (Value.bool true)) else none
  else none
else none := by kernel_rfl
def dTT0 (objs : List (TO U)) (args : List (TV U)) : Option (List R82 × List R82 × List R90 × List R82 × List R82 × List R90) := match objs, args with
  | [], [a0, a1] =>
    match a0 with
    | .agg [q0, q1, q2] =>
      match q0 with
      | .lst .t82 x1 =>
        match q1 with
        | .lst .t82 x2 =>
          match q2 with
          | .lst .t90 x3 =>
            match a1 with
            | .agg [q3, q4, q5] =>
              match q3 with
              | .lst .t82 y1 =>
                match q4 with
                | .lst .t82 y2 =>
                  match q5 with
                  | .lst .t90 y3 =>
                    some (x1, x2, x3, y1, y2, y3)
                  | _ => none
                | _ => none
              | _ => none
            | _ => none
          | _ => none
        | _ => none
      | _ => none
    | _ => none
  | _, _ => none
theorem dTT0_ok {objs : List (TO U)} {args : List (TV U)} {x1 : List R82} {x2 : List R82} {x3 : List R90} {y1 : List R82} {y2 : List R82} {y3 : List R90} (h : dTT0 objs args = some (x1, x2, x3, y1, y2, y3)) : objs = [] ∧ args = [.agg [.lst .t82 x1, .lst .t82 x2, .lst .t90 x3], .agg [.lst .t82 y1, .lst .t82 y2, .lst .t90 y3]] := by
  unfold dTT0 at h
  repeat' split at h
  all_goals first | (cases h; done) | (cases h; exact ⟨rfl, rfl⟩)
def PTT (x1 x2 : List R82) (x3 : List R90) (y1 y2 : List R82) (y3 : List R90) : Prop := TrOk ⟨x1, x2, x3⟩ ∧ y1 = x1 ∧ y2 = x2 ∧ y3 = x3
noncomputable instance (x1 x2 : List R82) (x3 : List R90) (y1 y2 : List R82) (y3 : List R90) : Decidable (PTT x1 x2 x3 y1 y2 y3) := Classical.propDecidable _
noncomputable def sTrees : Spc U := .of dTT0 (fun (x1, x2, x3, y1, y2, y3) => PTT x1 x2 x3 y1 y2 y3) (fun _ => []) fun _ => .v (.bool true)
theorem sTrees_ok : SpecOk Try.prog 25 sTrees := by
  refine fn_ok X_ok mixed Ch_ok an25 lp25 Try.func25 (by kernel_rfl) (by kernel_rfl) lp25_ok fun objs args x hx hp => ?_
  obtain ⟨x1, x2, x3, y1, y2, y3⟩ := x
  obtain ⟨rfl, rfl⟩ := dTT0_ok hx
  obtain ⟨h1, rfl, rfl, rfl⟩ := hp
  dsimp only
  obtain ⟨t1, t2, t3⟩ := h1
  have g1 : PDD y1 y1 := ⟨Nat.le_trans t1 (by decide), rfl⟩
  have g2 : PDD y2 y2 := ⟨Nat.le_trans t2 (by decide), rfl⟩
  have g3 : P25 y1 y2 y3 y1 y2 y3 0 := ⟨⟨t1, t2, t3⟩, rfl, rfl, rfl, rfl⟩
  refine (e25 ⟨y1, y2, y3⟩).trans ?_
  dsimp only
  rw [if_pos g1, if_pos g2, decide_eq_true rfl, Bool.not_true, cond_false, if_pos g3]
end Go.Proofs.Ytpkgikchphgfaaa.Ck

/- Functions that are run. -/
namespace Go.Proofs.Ytpkgikchphgfaaa.Eng
open Go Go.RowKit
set_option linter.unusedVariables false
abbrev LpPath {U : Univ} (lp : Lp U) : Prop := ∀ (b : Nat) (s : TS U) (R : Type) (K : Exit → TS U → Option R) (r : R), lp.F b s K = some r → ∃ ex s', K ex s' = some r ∧ ∀ {R' : Type} (K' : Exit → TS U → Option R'), lp.F b s K' = K' ex s'
def rt {U : Univ} (e : Exit) (s : TS U) : Option (Exit × TS U) := some (e, s)
section
variable {P : Program} {X : Cx} {E : FuncId → Option (Spc X.U)}
def LpSub {U : Univ} (lp lp' : Lp U) : Prop := ∀ (b : Nat) (s : TS U) (p : Exit × TS U), lp.F b s rt = some p → lp'.F b s rt = some p
theorem evC_sub (hE : ∀ f S, E f = some S → SpecOk P f S) {an : Ann} {lp lp' : Lp X.U} (hP : LpPath lp) (hP' : LpPath lp') (hs : LpSub lp lp') : ∀ {c : Code} {b : Nat} {s : TS X.U} {p : Exit × TS X.U}, evC X E an lp c b s rt = some p → evC X E an lp' c b s rt = some p := by
  have key : ∀ {c : Code} {b : Nat} {s : TS X.U}, (∀ p, evC X E an lp c b s rt = some p → evC X E an lp' c b s rt = some p) → ∀ {R : Type} {K : Exit → TS X.U → Option R} {r : R}, evC X E an lp c b s K = some r → ∃ ex s', K ex s' = some r ∧ ∀ {R' : Type} (K' : Exit → TS X.U → Option R'), evC X E an lp' c b s K' = K' ex s' := by
    intro c b s h R K r hk
    obtain ⟨ex, s', h1, h2⟩ := evC_path hE hP hk
    obtain ⟨ex2, s2, h3, h4⟩ := evC_path hE hP' (h (ex, s') (h2 rt))
    cases h3
    exact ⟨ex, s', h1, h4⟩
  intro c
  induction c with
  | seq x y ihx ihy =>
    intro b s p h
    unfold evC at h
    obtain ⟨ex, s', h1, h2⟩ := key (fun p => ihx) h
    unfold evC
    rw [h2]
    cases ex <;> first | exact ihy h1 | exact h1
  | cond c x y ihx ihy =>
    intro b s p h
    unfold evC at h ⊢
    split at h <;> try (cases h; done)
    rename_i q hc
    cases q with
    | true => exact ihx h
    | false => exact ihy h
  | block id x ih =>
    intro b s p h
    unfold evC at h
    obtain ⟨ex, s', h1, h2⟩ := key (fun p => ih) h
    unfold evC
    rw [h2]
    exact h1
  | loop x ih =>
    intro b s p h
    unfold evC at h ⊢
    cases hn : evNorm (an.live b) s with
    | none => rw [hn] at h; cases h
    | some s1 =>
      rw [hn] at h
      exact hs _ _ _ h
  | _ => intro b s p h; exact h
theorem loopK_sub (hE : ∀ f S, E f = some S → SpecOk P f S) {an : Ann} {lp lp' : Lp X.U} (hP : LpPath lp) (hP' : LpPath lp') (hs : LpSub lp lp') {b : Nat} {c : Code} : ∀ (n : Nat) (s : TS X.U) (p : Exit × TS X.U), loopK X E an lp b c n s rt = some p → loopK X E an lp' b c n s rt = some p := by
  intro n
  induction n with
  | zero => intro s p h; cases h
  | succ n ih =>
    intro s p h
    unfold loopK at h ⊢
    obtain ⟨ex, s', h1, h2⟩ := evC_path hE hP h
    obtain ⟨ex2, s2, h3, h4⟩ := evC_path hE hP' (evC_sub hE hP hP' hs (h2 rt))
    cases h3
    rw [h4]
    cases ex with
    | normal =>
      dsimp only at h1 ⊢
      cases hn : evNorm (an.live b) s' with
      | none => rw [hn] at h1; cases h1
      | some s1 => rw [hn] at h1; exact ih _ _ h1
    | _ => exact h1
/-- A function's loops, run: so many rounds, so deep within each other. -/
def runLp (X : Cx) (E : FuncId → Option (Spc X.U)) (an : Ann) (fn : Func) (N : Nat) : Nat → Lp X.U
  | 0 => lp0
  | k + 1 => ⟨fun b s K => loopK X E an (runLp X E an fn N k) b (loopAt fn b) N s K⟩
theorem runLp_path (hE : ∀ f S, E f = some S → SpecOk P f S) {an : Ann} {fn : Func} {N : Nat} : ∀ k, LpPath (runLp X E an fn N k)
  | 0 => fun b s R K r h => by cases h
  | k + 1 => fun b s R K r h => loopK_path hE (runLp_path hE k) N s K h
theorem runLp_sub (hE : ∀ f S, E f = some S → SpecOk P f S) {an : Ann} {fn : Func} {N : Nat} : ∀ k, LpSub (runLp X E an fn N k) (runLp X E an fn N (k + 1))
  | 0 => fun b s p h => by cases h
  | k + 1 => fun b s p h => loopK_sub hE (runLp_path hE k) (runLp_path hE (k + 1)) (runLp_sub hE k) N s p h
theorem runLp_ok (hE : ∀ f S, E f = some S → SpecOk P f S) {an : Ann} {fn : Func} {N k : Nat} {c : Code} (hc : fn.body = some c) (hnd : nodupN ((loops c 0).map (·.1)) = true) : LpOk X E an (runLp X E an fn N k) (loops c 0) := by
  refine LpOk.of hc hnd (fun b s p hm hs => ?_) (runLp_path hE k)
  cases k with
  | zero => cases hs
  | succ k =>
    refine ⟨N, ?_⟩
    have h1 : loopK X E an (runLp X E an fn N k) b (loopAt fn b) N s rt = some p := hs
    have h2 := loopK_sub hE (runLp_path hE k) (runLp_path hE (k + 1)) (runLp_sub hE k) N s p h1
    unfold fnLoop
    rw [← loopK_R (lp := runLp X E an fn N (k + 1)) (fun q _ s K => rfl)]
    exact h2
/-- A function that may be run. -/
structure Runs (P : Program) (f : FuncId) (fn : Func) : Prop where
  at_ : P.funcs[f]? = some fn
  name : (fn.name == "runtime.NumGoroutine") = false
  code : (match fn.body with | some c => codeOk fn.ntmps c | none => false) = true
  nodup : (match fn.body with | some c => nodupN ((loops c 0).map (·.1)) | none => false) = true
/-- What is told of functions, and else they are run. -/
def runE (X : Cx) (E0 : FuncId → Option (Spc X.U)) (fs : FuncId → Option (Func × Ann)) (N k : Nat) : Nat → FuncId → Option (Spc X.U)
  | 0, f => E0 f
  | d + 1, f => match fs f with
    | some (fn, an) => some (specFn X (runE X E0 fs N k d) an (runLp X (runE X E0 fs N k d) an fn N k) fn)
    | none => E0 f
theorem runE_ok (hX : CxOk P X) (hm : P.follows .mixedOrders = true) {E0 : FuncId → Option (Spc X.U)} (h0 : ∀ f S, E0 f = some S → SpecOk P f S) {fs : FuncId → Option (Func × Ann)} (hf : ∀ f fn an, fs f = some (fn, an) → Runs P f fn) {N k : Nat} : ∀ d f S, runE X E0 fs N k d f = some S → SpecOk P f S
  | 0, f, S, h => h0 f S h
  | d + 1, f, S, h => by
    unfold runE at h
    split at h
    · rename_i fn an hfs
      cases h
      have hr := hf f fn an hfs
      refine specFn_ok hX hm (runE_ok hX hm h0 hf d) an _ hr.at_ hr.name hr.code fun c hc => runLp_ok (runE_ok hX hm h0 hf d) hc ?_
      have := hr.nodup
      rw [hc] at this
      exact this
    · exact h0 f S h
end
end Go.Proofs.Ytpkgikchphgfaaa.Eng


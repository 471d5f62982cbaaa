/- Texts of this claim, put together: part 12. -/
import Derived.Test.YtmcflglkfgnbbaaDoorRows
import Derived.Test.YtmcflglkfgnbbaaDoorCards
import Derived.Test.YtmcflglkfgnbbaaDoorTie
import Derived.ProofKit
import Derived.LaidMore
import Derived.OpenShut
import Derived.Stop.Joined
import Derived.Lib.LaidTab
import Derived.SevenTiedAt
import Derived.Below
import Derived.ChangeSlices
import Derived.ChangeSame
import Derived.Lib.SmallJoins
import Derived.Test.YtmcflglkfgnbbaaDoorMzB
import Derived.Test.YtmcflglkfgnbbaaDoorMzH
import Derived.Test.YtmcflglkfgnbbaaDoorMzJ
import Derived.Test.YtmcflglkfgnbbaaDoorMzK
/- What is in either: the contract. -/
namespace Go.Proofs.YtmcflglkfgnbbaaDoor.Bt
open Go Go.RowKit Go.Proofs.YtmcflglkfgnbbaaDoor.Eng Go.Proofs.YtmcflglkfgnbbaaDoor.Nd
set_option linter.unusedVariables false
set_option linter.unusedSimpArgs false
set_option maxRecDepth 20000
def OrP : List R54 → List R54 → List R54
  | [], T => T
  | p :: S, [] => p :: S
  | p :: S, q :: T => if p.At < q.At then p :: OrP S (q :: T) else if q.At < p.At then q :: OrP (p :: S) T else ⟨p.At, orW p.Bits q.Bits⟩ :: OrP S T
termination_by S T => S.length + T.length
theorem OrP_nil (S : List R54) : OrP S [] = S := by cases S <;> rw [OrP]
theorem rounds16 (lp : Lp U) (S T : List R54) (hS : S.length ≤ 100000) (hT : T.length ≤ 100000) : ∀ (m i k : Nat) (P : List R54), (S.length - i) + (T.length - k) = m → i ≤ S.length → k ≤ T.length → P.length ≤ i + k →
    ∃ N, fnLoop X E0 an16 lp Tryd.f16 0 N (S16 S T P i k) = some (.exit 0, Z16 (P ++ OrP (S.drop i) (T.drop k))) := by
  intro m
  induction m using Nat.strongRecOn with
  | _ m ih =>
    intro i k P hm hi hk hP
    have hp : (P.length + 1) * 16 ≤ 140737488355328 := by omega
    by_cases h1 : i < S.length
    · obtain ⟨z, hz, hz2⟩ := getE (l := S) (v := (i : Int)) (by omega) (by omega)
      have hz3 : S[i]? = some z := hz2
      by_cases h2 : k < T.length
      · obtain ⟨y, hy, hy2⟩ := getE (l := T) (v := (k : Int)) (by omega) (by omega)
        have hy3 : T[k]? = some y := hy2
        rw [dropG hz3, dropG hy3, OrP]
        by_cases h3 : z.At < y.At
        · obtain ⟨N, hN⟩ := ih (m - 1) (by omega) (i + 1) k (P ++ [z]) (by omega) (by omega) hk (by rw [List.length_append, List.length_singleton]; omega)
          refine ⟨N + 1, ?_⟩
          rw [r16, decide_eq_true (by omega), cond_true]
          unfold bd16 st16
          rw [decide_eq_false (by omega), cond_false, decide_eq_true (by omega), cond_true, hz, hy, Option.bind_some, Option.bind_some, decide_eq_true h3, cond_true, Option.bind_some, if_pos hp, if_pos h3, wr (a := (i : Int) + 1) (by omega) (by omega)]
          rw [List.append_assoc, dropG hy3] at hN
          exact hN
        · by_cases h4 : y.At < z.At
          · obtain ⟨N, hN⟩ := ih (m - 1) (by omega) i (k + 1) (P ++ [y]) (by omega) hi (by omega) (by rw [List.length_append, List.length_singleton]; omega)
            refine ⟨N + 1, ?_⟩
            rw [r16, decide_eq_true (by omega), cond_true]
            unfold bd16 st16
            rw [decide_eq_false (by omega), cond_false, decide_eq_true (by omega), cond_true, hz, hy, Option.bind_some, Option.bind_some, decide_eq_false h3, cond_false, decide_eq_false (by omega), cond_false, Option.bind_some, Option.bind_some, decide_eq_true h4, cond_true, Option.bind_some, if_pos hp, if_neg h3, if_pos h4, wr (a := (k : Int) + 1) (by omega) (by omega)]
            rw [List.append_assoc, dropG hz3] at hN
            exact hN
          · obtain ⟨N, hN⟩ := ih (m - 2) (by omega) (i + 1) (k + 1) (P ++ [⟨z.At, orW z.Bits y.Bits⟩]) (by omega) (by omega) (by omega) (by rw [List.length_append, List.length_singleton]; omega)
            refine ⟨N + 1, ?_⟩
            rw [r16, decide_eq_true (by omega), cond_true]
            unfold bd16 st16
            rw [decide_eq_false (by omega), cond_false, decide_eq_true (by omega), cond_true, hz, hy, Option.bind_some, Option.bind_some, decide_eq_false h3, cond_false, decide_eq_false (by omega), cond_false, Option.bind_some, Option.bind_some, decide_eq_false h4, cond_false, Option.bind_some, Option.bind_some, Option.bind_some, if_pos hp, if_neg h3, if_neg h4, wr (a := (k : Int) + 1) (by omega) (by omega), wr (a := (i : Int) + 1) (by omega) (by omega)]
            rw [List.append_assoc] at hN
            exact hN
      · rw [List.drop_eq_nil_of_le (show T.length ≤ k by omega), OrP_nil, dropG hz3]
        obtain ⟨N, hN⟩ := ih (m - 1) (by omega) (i + 1) k (P ++ [z]) (by omega) (by omega) hk (by rw [List.length_append, List.length_singleton]; omega)
        refine ⟨N + 1, ?_⟩
        rw [r16, decide_eq_true (by omega), cond_true]
        unfold bd16 st16
        rw [decide_eq_true (by omega), cond_true, hz, Option.bind_some, if_pos hp, wr (a := (i : Int) + 1) (by omega) (by omega)]
        rw [List.append_assoc, List.drop_eq_nil_of_le (show T.length ≤ k by omega), OrP_nil] at hN
        exact hN
    · rw [List.drop_eq_nil_of_le (show S.length ≤ i by omega), OrP]
      by_cases h2 : k < T.length
      · obtain ⟨y, hy, hy2⟩ := getE (l := T) (v := (k : Int)) (by omega) (by omega)
        have hy3 : T[k]? = some y := hy2
        rw [dropG hy3]
        obtain ⟨N, hN⟩ := ih (m - 1) (by omega) i (k + 1) (P ++ [y]) (by omega) hi (by omega) (by rw [List.length_append, List.length_singleton]; omega)
        refine ⟨N + 1, ?_⟩
        rw [r16, decide_eq_false (by omega), cond_false, decide_eq_true (by omega), cond_true]
        unfold bd16 st16
        rw [decide_eq_false (by omega), cond_false, decide_eq_false (by omega), cond_false, decide_eq_true (by omega), cond_true, hy, Option.bind_some, if_pos hp, wr (a := (k : Int) + 1) (by omega) (by omega)]
        rw [List.append_assoc, List.drop_eq_nil_of_le (show S.length ≤ i by omega), OrP] at hN
        exact hN
      · refine ⟨1, ?_⟩
        rw [r16, decide_eq_false (by omega), cond_false, decide_eq_false (by omega), cond_false, List.drop_eq_nil_of_le (show T.length ≤ k by omega), List.append_nil]
def Z16e : TS U := mkS 118 [(4, .ref 0 0 0), (5, nlv)] [.cells [nlv] false] 0
def Z16c (P : List R54) : TS U := mkS 118 [(4, .ref 0 0 0), (5, .full 1)] [.cells [nlv] false, .row .t54 P false] 0
theorem Z16_e {P : List R54} (h : P.isEmpty = true) : Z16 P = Z16e := by
  cases P with
  | nil => rfl
  | cons => cases h
theorem Z16_c {P : List R54} (h : P.isEmpty = false) : Z16 P = Z16c (cP P) := by
  cases P with
  | nil => cases h
  | cons => rfl
def dl16 (s : TS U) : Option (List R54 × List R54 × Int × Int) := match told s 118 [2, 3, 4, 5, 6, 7] 0, s.objs with
  | some [a0, a1, a2, a3, a4, a5], [o0, o1, o2] =>
    match o0 with
    | .cells [q0] false =>
      match q0 with
      | .lst .t54 S =>
        match o1 with
        | .cells [q1] false =>
          match q1 with
          | .lst .t54 T =>
            match o2 with
            | .cells [q2] false =>
              match q2 with
              | .v (.slice none 0 0) =>
                match a0 with
                | .ref 0 0 0 =>
                  match a1 with
                  | .ref 1 0 0 =>
                    match a2 with
                    | .ref 2 0 0 =>
                      match a3 with
                      | .v (.slice none 0 0) =>
                        match a4 with
                        | .v (.int .i64 i) =>
                          match a5 with
                          | .v (.int .i64 k) =>
                            some (S, T, i, k)
                          | _ => none
                        | _ => none
                      | _ => none
                    | _ => none
                  | _ => none
                | _ => none
              | _ => none
            | _ => none
          | _ => none
        | _ => none
      | _ => none
    | _ => none
  | _, _ => none
theorem dl16_ok {s : TS U} {S : List R54} {T : List R54} {i : Int} {k : Int} (h : dl16 s = some (S, T, i, k)) : s = mkS (U := U) 118 ([2, 3, 4, 5, 6, 7].zip ([.ref 0 0 0, .ref 1 0 0, .ref 2 0 0, .v (.slice none 0 0), .v (.int .i64 i), .v (.int .i64 k)] : List (TV U))) ([.cells [.lst .t54 S] false, .cells [.lst .t54 T] false, .cells [.v (.slice none 0 0)] false] : List (TO U)) 0 := by
  unfold dl16 at h
  split at h <;> try (cases h; done)
  rename_i ht ho
  have hs := told_ok ht
  rw [ho] at hs
  repeat' split at h
  all_goals first | (cases h; done) | (cases h; exact hs)
def Q16 (S T : List R54) (i k : Int) : Prop := POk2 S T ∧ i = 0 ∧ k = 0
noncomputable instance (S T : List R54) (i k : Int) : Decidable (Q16 S T i k) := Classical.propDecidable _
noncomputable def lc16 : LC U := .of2 dl16 (fun (S, T, i, k) => Q16 S T i k) (fun (S, T, i, k) => (OrP S T).isEmpty) (.exit 0) (fun _ => Z16e) (.exit 0) fun (S, T, i, k) => Z16c (cP (OrP S T))
noncomputable def lp16 : Lp U := lpL [(0, lc16)]
theorem lp16_ok : ∀ c, Tryd.f16.body = some c → LpOk X E0 an16 lp16 (loops c 0) := lpL_ok (by kernel_rfl) fun b L hm st p hs => by
  cases hm with
  | head =>
    obtain ⟨⟨S, T, i, k⟩, hx, ⟨⟨h1, h2⟩, rfl, rfl⟩, rfl⟩ := LC.of2_some hs
    obtain rfl := dl16_ok hx
    have hl1 := h1.len
    have hl2 := h2.len
    obtain ⟨N, hN⟩ := rounds16 lp16 S T (by omega) (by omega) _ 0 0 [] rfl (Nat.zero_le _) (Nat.zero_le _) (Nat.zero_le _)
    refine ⟨N, hN.trans ?_⟩
    rw [List.drop_zero, List.drop_zero, List.nil_append]
    dsimp only
    cases hq : (OrP S T).isEmpty with
    | true => rw [Z16_e hq]; rfl
    | false => rw [Z16_c hq]; rfl
  | tail _ hm => cases hm
theorem e16 (S : List
  R54) (T : List
  R54) : (evFn X E0 an16 lp16 Tryd.f16 [] [TV.agg [TV.lst C.t54 S], TV.agg [TV.lst C.t54 T]]
  fun (o : List (TO X.U)) (v : TV X.U) => some (o, v)) =
  if Q16 S T 0 0 then
  bif (OrP S T).isEmpty then some ([], TV.agg [TV.v (Value.slice none 0 0)])
  else some ([], TV.agg [@TV.lst U C.t54 (cP (OrP S T))])
else none := by kernel_rfl
end Go.Proofs.YtmcflglkfgnbbaaDoor.Bt

/- What is in both, in either, in the first one alone: the plain laws. -/
namespace Go.Proofs.YtmcflglkfgnbbaaDoor.Bt
open Go Go.RowKit Go.Proofs.YtmcflglkfgnbbaaDoor.Eng Go.Proofs.YtmcflglkfgnbbaaDoor.Nd
set_option linter.unusedVariables false
set_option linter.unusedSimpArgs false
set_option maxRecDepth 20000
noncomputable def sOrS0 : Spc U := .of2 dST (fun (S, T) => POk2 S T) (fun (S, T) => (OrP S T).isEmpty) (fun _ => []) (fun _ => .agg [nlv]) (fun _ => []) fun (S, T) => .agg [.lst .t54 (cP (OrP S T))]
theorem sOrS0_ok : SpecOk Tryd.prog 16 sOrS0 := by
  refine fn_ok2 X_ok mixed E0_ok an16 lp16 Tryd.func16 (by kernel_rfl) (by kernel_rfl) lp16_ok fun objs args x hx hp => ?_
  obtain ⟨S, T⟩ := x
  obtain ⟨rfl, rfl⟩ := dST_ok hx
  have hp : POk2 S T := hp
  refine (e16 S T).trans ?_
  rw [if_pos (show Q16 S T 0 0 from ⟨hp, rfl, rfl⟩)]
  dsimp only
  cases (OrP S T).isEmpty <;> rfl
noncomputable def sOrS1 : Spc U := .of dST (fun x => POk2 x.1 x.2) (fun _ => []) fun x => .agg [.lst .t54 (OrP x.1 x.2)]
theorem sOrS1_ok : SpecOk Tryd.prog 16 sOrS1 := SpecOk.lstW (P := fun x : List R54 × List R54 => OrP x.1 x.2) sOrS0_ok fun objs args x hx => by obtain ⟨S, T⟩ := x; exact (dST_ok hx).1
noncomputable def sOrS : Spc U := sOrS1.wkA [.a [.l .t54], .a [.l .t54]]
theorem sOrS_ok : SpecOk Tryd.prog 16 sOrS := sOrS1_ok.wkA _
/-! ### The lists -/
def InB (n : Int) : Prop := 0 ≤ n ∧ n < 1048576
theorem mem_rwR (l : List Int) (z n : Int) : n ∈ rwR l z ↔ n ∈ l ∨ (n = z ∧ InB z) := by
  unfold rwR InB
  by_cases h0 : z < 0
  · rw [decide_eq_true h0, Bool.true_or, Bool.true_or, cond_true]
    exact ⟨.inl, fun h => h.elim id fun h => by omega⟩
  · by_cases h1 : 1048576 ≤ z
    · rw [decide_eq_true h1, Bool.or_true, Bool.true_or, cond_true]
      exact ⟨.inl, fun h => h.elim id fun h => by omega⟩
    · rw [decide_eq_false h0, decide_eq_false h1, Bool.false_or, Bool.false_or]
      cases hm : memI l z with
      | true =>
        rw [cond_true]
        exact ⟨.inl, fun h => h.elim id fun h => by rw [h.1]; exact of_decide_eq_true hm⟩
      | false =>
        rw [cond_false, mem_insR]
        exact ⟨fun h => h.elim .inl fun h => .inr ⟨h, by omega⟩, fun h => h.elim .inl fun h => .inr h.1⟩
theorem mem_orR : ∀ (Y X : List Int) (n : Int), n ∈ orR X Y ↔ n ∈ X ∨ (n ∈ Y ∧ InB n)
  | [], X, n => by unfold orR; simp
  | z :: Y, X, n => by
    have := mem_orR Y (rwR X z) n
    unfold orR at this ⊢
    rw [List.foldl_cons, this, mem_rwR, List.mem_cons]
    constructor
    · rintro ((h | ⟨rfl, h⟩) | h)
      · exact .inl h
      · exact .inr ⟨.inl rfl, h⟩
      · exact .inr ⟨.inr h.1, h.2⟩
    · rintro (h | ⟨rfl | h, h2⟩)
      · exact .inl (.inl h)
      · exact .inl (.inr ⟨rfl, h2⟩)
      · exact .inr ⟨h, h2⟩
theorem rel_fold : ∀ (Y : List Int) {S : List R54} {X : List Int}, RelP S X → ∃ S', RelP S' (orR X Y)
  | [], S, X, h => ⟨S, h⟩
  | z :: Y, S, X, h => rel_fold Y (relP_with h z)
/-! ### Has, by parts -/
theorem has_ex {ps : List R54} (h : OkP ps) {n : Int} : hasP ps n = true ↔ ∃ p ∈ ps, n / 64 = p.At ∧ p.Bits.toNat.testBit (n % 64).toNat = true := by rw [← nums_has h, mem_nums]
theorem has_btA (T : List R54) (n : Int) : hasP T n = (btA T (n / 64)).toNat.testBit (n % 64).toNat := by
  unfold hasP btA bitP
  cases T[rkP T (n / 64)]? with
  | none =>
    show false = _
    exact (Nat.zero_testBit _).symm
  | some q =>
    dsimp only
    cases decide (q.At = n / 64) with
    | true => rfl
    | false =>
      rw [Bool.false_and, cond_false]
      exact (Nat.zero_testBit _).symm
theorem mem_pick {M : Int → Int → Int} {S T : List R54} {r : R54} : r ∈ (S.filterMap fun p => cond (decide (M p.Bits (btA T p.At) = 0)) none (some (⟨p.At, M p.Bits (btA T p.At)⟩ : R54))) ↔ ∃ p ∈ S, M p.Bits (btA T p.At) ≠ 0 ∧ r = ⟨p.At, M p.Bits (btA T p.At)⟩ := by
  rw [List.mem_filterMap]
  constructor
  · rintro ⟨p, hp, h⟩
    cases hd : decide (M p.Bits (btA T p.At) = 0) with
    | true => rw [hd] at h; cases h
    | false =>
      rw [hd] at h
      cases h
      exact ⟨p, hp, of_decide_eq_false hd, rfl⟩
  · rintro ⟨p, hp, h1, rfl⟩
    exact ⟨p, hp, by rw [decide_eq_false h1]; rfl⟩
theorem pick_rel {M : Int → Int → Int} {S T : List R54} {X Z : List Int} (g : Bool → Bool → Bool) (hS : RelP S X) (hM : ∀ a b : Int, B64 a → B64 b → B64 (M a b) ∧ ∀ j, j < 64 → (M a b).toNat.testBit j = g (a.toNat.testBit j) (b.toNat.testBit j)) (hT : OkP T) (hg : ∀ b, g false b = false)
    (hZ : Z.Pairwise (· < ·)) (hZX : ∀ n ∈ Z, n ∈ X) (hm : ∀ n, n ∈ X → (n ∈ Z ↔ g true (hasP T n) = true)) :
    RelP (S.filterMap fun p => cond (decide (M p.Bits (btA T p.At) = 0)) none (some (⟨p.At, M p.Bits (btA T p.At)⟩ : R54))) Z := by
  obtain ⟨h1, h2, h3, h4⟩ := hS
  have hb : ∀ p ∈ S, B64 p.Bits := fun p hp => ⟨by have := (h1.2 p hp).2.1; omega, (h1.2 p hp).2.2⟩
  have hok : OkP (S.filterMap fun p => cond (decide (M p.Bits (btA T p.At) = 0)) none (some (⟨p.At, M p.Bits (btA T p.At)⟩ : R54))) := by
    refine ⟨?_, fun r hr => ?_⟩
    · unfold RiseP
      rw [List.pairwise_filterMap]
      refine h1.1.imp fun {a b} hab x hx y hy => ?_
      cases hd : decide (M a.Bits (btA T a.At) = 0) with
      | true => rw [hd] at hx; cases hx
      | false =>
        cases hd2 : decide (M b.Bits (btA T b.At) = 0) with
        | true => rw [hd2] at hy; cases hy
        | false =>
          rw [hd] at hx
          rw [hd2] at hy
          cases hx
          cases hy
          exact hab
    · obtain ⟨p, hp, hne, rfl⟩ := mem_pick.1 hr
      have := (hM p.Bits (btA T p.At) (hb p hp) (btA_lt hT _)).1
      exact ⟨(h1.2 p hp).1, by show 0 < M _ _; have := this.1; omega, this.2⟩
  refine ⟨hok, hZ, fun n hn => h3 n (hZX n hn), fun n hn => ?_⟩
  rw [has_ex hok]
  constructor
  · intro hz
    have hx := hZX n hz
    have hs := (h4 n hn).1 hx
    obtain ⟨p, hp, p1, p2⟩ := (has_ex h1).1 hs
    have hgt := (hm n hx).1 hz
    rw [has_btA, p1] at hgt
    have ht := (hM p.Bits (btA T p.At) (hb p hp) (btA_lt hT _)).2 (n % 64).toNat (by omega)
    rw [p2, hgt] at ht
    refine ⟨⟨p.At, M p.Bits (btA T p.At)⟩, mem_pick.2 ⟨p, hp, fun e => ?_, rfl⟩, p1, ht⟩
    rw [e] at ht
    have := Nat.zero_testBit (n % 64).toNat
    rw [show ((0 : Int).toNat) = 0 from rfl, this] at ht
    cases ht
  · rintro ⟨r, hr, r1, r2⟩
    obtain ⟨p, hp, hne, rfl⟩ := mem_pick.1 hr
    have r1 : n / 64 = p.At := r1
    have r2 : (M p.Bits (btA T p.At)).toNat.testBit (n % 64).toNat = true := r2
    have ht := (hM p.Bits (btA T p.At) (hb p hp) (btA_lt hT _)).2 (n % 64).toNat (by omega)
    rw [r2] at ht
    cases hpb : p.Bits.toNat.testBit (n % 64).toNat with
    | false => rw [hpb, hg] at ht; cases ht
    | true =>
      rw [hpb] at ht
      have hx := (h4 n hn).2 ((has_ex h1).2 ⟨p, hp, r1, hpb⟩)
      refine (hm n hx).2 ?_
      rw [has_btA, r1]
      exact ht.symm
theorem memI_has {T : List R54} {Y : List Int} (hT : RelP T Y) {n : Int} (hn : 0 ≤ n) : memI Y n = hasP T n := by
  have := hT.2.2.2 n hn
  unfold memI
  cases hh : hasP T n with
  | true => exact decide_eq_true (this.2 hh)
  | false => exact decide_eq_false fun hm => by rw [this.1 hm] at hh; cases hh
theorem and_rel {S T : List R54} {X Y : List Int} (hS : RelP S X) (hT : RelP T Y) : RelP (AndP S T) (andR X Y) := by
  refine pick_rel (M := andM) (fun a b => a && b) hS (fun a b ha hb => ?_) hT.1 (fun b => rfl) (hS.2.1.filter _) (fun n hn => (List.mem_filter.1 hn).1) fun n hn => ?_
  · have hlt : (a.toNat &&& b.toNat : Nat) ≤ a.toNat := Nat.and_le_left
    obtain ⟨ha0, ha1⟩ := ha
    refine ⟨⟨by unfold andM; omega, by unfold andM; omega⟩, fun j _ => ?_⟩
    unfold andM
    rw [Int.toNat_natCast, Nat.testBit_and]
  · unfold andR
    rw [List.mem_filter, memI_has hT (hS.2.2.1 n hn).1, Bool.true_and]
    exact ⟨fun h => h.2, fun h => ⟨hn, h⟩⟩
theorem less_rel {S T : List R54} {X Y : List Int} (hS : RelP S X) (hT : RelP T Y) : RelP (LessP S T) (lessR X Y) := by
  refine pick_rel (M := lessM) (fun a b => a && !b) hS (fun a b ha hb => ?_) hT.1 (fun b => rfl) (hS.2.1.filter _) (fun n hn => (List.mem_filter.1 hn).1) fun n hn => ?_
  · have hlt : Pu.andn a.toNat b.toNat ≤ a.toNat := Nat.and_le_left
    obtain ⟨ha0, ha1⟩ := ha
    obtain ⟨hb0, hb1⟩ := hb
    refine ⟨⟨by unfold lessM; omega, by unfold lessM; omega⟩, fun j hj => ?_⟩
    unfold lessM Pu.andn
    rw [Int.toNat_natCast, Nat.testBit_and, Pu.tb_compl b.toNat j (by omega), decide_eq_true hj, Bool.true_and]
  · unfold lessR
    rw [List.mem_filter, memI_has hT (hS.2.2.1 n hn).1, Bool.true_and]
    exact ⟨fun h => h.2, fun h => ⟨hn, h⟩⟩
end Go.Proofs.YtmcflglkfgnbbaaDoor.Bt

/- Facts in memory: what is there, what is added. -/
namespace Go.Proofs.YtmcflglkfgnbbaaDoor.Bt
open Go Go.RowKit Go.Proofs.YtmcflglkfgnbbaaDoor.Eng Go.Proofs.YtmcflglkfgnbbaaDoor.Nd
set_option linter.unusedVariables false
set_option linter.unusedSimpArgs false
set_option maxRecDepth 20000
noncomputable def E27 : FuncId → Option (Spc U)
  | 21 => some sWi
  | 16 => some sOrS
  | _ => none
theorem E27_ok : ∀ f S, E27 f = some S → SpecOk Tryd.prog f S := fun f S h => by
  unfold E27 at h
  split at h
  · cases h; exact sWi_ok
  · cases h; exact sOrS_ok
  · cases h
abbrev Fm := List (R68 × R25)
def mObs (L : Fm) : List (TO U) := [.cells [.mp 1] false, .mp .m_t68_t25 L false]
/-- What is told of a fact. -/
def gtF (L : Fm) (t n : Int) : List R54 := ((aget ke_m_t68_t25 L ⟨t, n⟩).getD ⟨[]⟩).Parts
/-- With what is added to it. -/
def jnF (L : Fm) (t n : Int) (S : List R54) : Fm := aset ke_m_t68_t25 L ⟨t, n⟩ ⟨OrP (gtF L t n) S⟩
theorem eGetF (L : Fm) (t n : Int) : evFn X E0 an0 lp0 Tryd.f29 (mObs L) [.ref 0 0 0, .v (.int .i64 t), .v (.int .i64 n)] (fun o v => some (o, v)) = some (mObs L, .agg [.lst .t54 (gtF L t n)]) := by kernel_rfl
theorem eJoinF (L : Fm) (t n : Int) (S : List R54) : evFn X E27 an0 lp0 Tryd.f27 (mObs L) [.ref 0 0 0, .v (.int .i64 t), .v (.int .i64 n), .agg [.lst .t54 S]] (fun o v => some (o, v)) =
    if POk2 S (gtF L t n) then cond (decide (((LessP S (gtF L t n)).length : Int) = 0)) (some (mObs L, .v (.bool false))) (if POk2 (gtF L t n) S then some (mObs (jnF L t n S), .v (.bool true)) else none) else none := by kernel_rfl
theorem eNewF (u : Unit) : (evFn X E0 an0 lp0 Tryd.f24 [] [] fun (o : List (TO X.U)) (v : TV X.U) => some (o, v)) =
  some ([TO.cells [TV.mp 1] false, TO.mp C.m_t68_t25 [] false], TV.ref 0 0 0) := by kernel_rfl
def dGF (objs : List (TO U)) (args : List (TV U)) : Option (List (R68 × R25) × Int × Int) := match objs, args with
  | [o0, o1], [a0, a1, a2] =>
    match o0 with
    | .cells [q0] false =>
      match q0 with
      | .mp 1 =>
        match o1 with
        | .mp .m_t68_t25 L false =>
          match a0 with
          | .ref 0 0 0 =>
            match a1 with
            | .v (.int .i64 t) =>
              match a2 with
              | .v (.int .i64 n) =>
                some (L, t, n)
              | _ => none
            | _ => none
          | _ => none
        | _ => none
      | _ => none
    | _ => none
  | _, _ => none
theorem dGF_ok {objs : List (TO U)} {args : List (TV U)} {L : List (R68 × R25)} {t : Int} {n : Int} (h : dGF objs args = some (L, t, n)) : objs = [.cells [.mp 1] false, .mp .m_t68_t25 L false] ∧ args = [.ref 0 0 0, .v (.int .i64 t), .v (.int .i64 n)] := by
  unfold dGF at h
  repeat' split at h
  all_goals first | (cases h; done) | (cases h; exact ⟨rfl, rfl⟩)
def dJF (objs : List (TO U)) (args : List (TV U)) : Option (List (R68 × R25) × Int × Int × List R54) := match objs, args with
  | [o0, o1], [a0, a1, a2, a3] =>
    match o0 with
    | .cells [q0] false =>
      match q0 with
      | .mp 1 =>
        match o1 with
        | .mp .m_t68_t25 L false =>
          match a0 with
          | .ref 0 0 0 =>
            match a1 with
            | .v (.int .i64 t) =>
              match a2 with
              | .v (.int .i64 n) =>
                match a3 with
                | .agg [q1] =>
                  match q1 with
                  | .lst .t54 S =>
                    some (L, t, n, S)
                  | _ => none
                | _ => none
              | _ => none
            | _ => none
          | _ => none
        | _ => none
      | _ => none
    | _ => none
  | _, _ => none
theorem dJF_ok {objs : List (TO U)} {args : List (TV U)} {L : List (R68 × R25)} {t : Int} {n : Int} {S : List R54} (h : dJF objs args = some (L, t, n, S)) : objs = [.cells [.mp 1] false, .mp .m_t68_t25 L false] ∧ args = [.ref 0 0 0, .v (.int .i64 t), .v (.int .i64 n), .agg [.lst .t54 S]] := by
  unfold dJF at h
  repeat' split at h
  all_goals first | (cases h; done) | (cases h; exact ⟨rfl, rfl⟩)
def sGetF : Spc U := .of dGF (fun _ => True) (fun (L, t, n) => mObs L) fun (L, t, n) => .agg [.lst .t54 (gtF L t n)]
theorem sGetF_ok : SpecOk Tryd.prog 29 sGetF := by
  refine fn_ok X_ok mixed E0_ok an0 lp0 Tryd.func29 (by kernel_rfl) (by kernel_rfl) (lp0_ok (by kernel_rfl)) fun objs args x hx hp => ?_
  obtain ⟨L, t, n⟩ := x
  obtain ⟨rfl, rfl⟩ := dGF_ok hx
  exact eGetF L t n
def nwF (L : Fm) (t n : Int) (S : List R54) : Bool := decide (((LessP S (gtF L t n)).length : Int) = 0)
noncomputable def sJoinF0 : Spc U := .of2 dJF (fun (L, t, n, S) => POk2 S (gtF L t n)) (fun (L, t, n, S) => nwF L t n S) (fun (L, t, n, S) => mObs L) (fun _ => .v (.bool false)) (fun (L, t, n, S) => mObs (jnF L t n S)) fun _ => .v (.bool true)
theorem sJoinF0_ok : SpecOk Tryd.prog 27 sJoinF0 := by
  refine fn_ok2 X_ok mixed E27_ok an0 lp0 Tryd.func27 (by kernel_rfl) (by kernel_rfl) (lp0_ok (by kernel_rfl)) fun objs args x hx hp => ?_
  obtain ⟨L, t, n, S⟩ := x
  obtain ⟨rfl, rfl⟩ := dJF_ok hx
  have hp : POk2 S (gtF L t n) := hp
  refine (eJoinF L t n S).trans ?_
  rw [if_pos hp, if_pos (show POk2 (gtF L t n) S from ⟨hp.2, hp.1⟩)]
  show cond (nwF L t n S) _ _ = _
  dsimp only
  cases nwF L t n S <;> rfl
end Go.Proofs.YtmcflglkfgnbbaaDoor.Bt

/- Facts: the law's first words are run. -/
namespace Go.Proofs.YtmcflglkfgnbbaaDoor.Bt
open Go Go.RowKit Go.Proofs.YtmcflglkfgnbbaaDoor.Eng Go.Proofs.YtmcflglkfgnbbaaDoor.Nd
set_option linter.unusedVariables false
set_option linter.unusedSimpArgs false
set_option maxRecDepth 20000
def ra25 : Ann := ⟨fun _ => 0, fun _ => 0, fun _ => [], false⟩
def ra24 : Ann := ⟨fun _ => 0, fun _ => 0, fun _ => [], false⟩
def ra27 : Ann := ⟨fun _ => 0, fun _ => 0, fun _ => [], false⟩
def ra28 : Ann := ⟨fun | 0 => 460 | _ => 0, fun | 0 => 12 | _ => 0, fun _ => [], false⟩
def ra29 : Ann := ⟨fun _ => 0, fun _ => 0, fun _ => [], false⟩
def ra11 : Ann := ⟨fun _ => 0, fun _ => 0, fun _ => [], false⟩
def ra37 : Ann := ⟨fun _ => 0, fun _ => 0, fun _ => [], false⟩
def ra10 : Ann := ⟨fun _ => 0, fun _ => 0, fun _ => [], false⟩
def ra34 : Ann := ⟨fun _ => 0, fun _ => 0, fun _ => [], false⟩
def ra43 : Ann := ⟨fun | 0 => 1799 | _ => 0, fun | 0 => 967 | _ => 0, fun _ => [], false⟩
def ra44 : Ann := ⟨fun _ => 0, fun _ => 0, fun _ => [], false⟩
def ra35 : Ann := ⟨fun _ => 0, fun _ => 0, fun _ => [], false⟩
def ra21 : Ann := ⟨fun _ => 0, fun _ => 0, fun _ => [], false⟩
def ra20 : Ann := ⟨fun _ => 0, fun _ => 0, fun _ => [], false⟩
def ra38 : Ann := ⟨fun | 0 => 229588 | _ => 0, fun | 0 => 192 | _ => 0, fun | 13 => [7] | _ => [], false⟩
def ra40 : Ann := ⟨fun _ => 0, fun _ => 0, fun _ => [], false⟩
def ra16 : Ann := ⟨fun | 0 => 252 | _ => 0, fun | 0 => 48 | _ => 0, fun | 12 => [5] | _ => [], false⟩
noncomputable def fsC : FuncId → Option (Func × Ann)
  | 25 => some (Tryd.f25, ra25)
  | 24 => some (Tryd.f24, ra24)
  | 27 => some (Tryd.f27, ra27)
  | 28 => some (Tryd.f28, ra28)
  | 29 => some (Tryd.f29, ra29)
  | 11 => some (Tryd.f11, ra11)
  | 37 => some (Tryd.f37, ra37)
  | 10 => some (Tryd.f10, ra10)
  | 34 => some (Tryd.f34, ra34)
  | 43 => some (Tryd.f43, ra43)
  | 44 => some (Tryd.f44, ra44)
  | 35 => some (Tryd.f35, { ra35 with own := true })
  | 21 => some (Tryd.f21, ra21)
  | 20 => some (Tryd.f20, ra20)
  | 38 => some (Tryd.f38, ra38)
  | 40 => some (Tryd.f40, ra40)
  | 16 => some (Tryd.f16, ra16)
  | _ => none
theorem fsC_ok : ∀ f fn an, fsC f = some (fn, an) → Runs Tryd.prog f fn := fun f fn an h => by
  unfold fsC at h
  split at h
  · cases h; exact ⟨Tryd.func25, by kernel_rfl, by kernel_rfl, by kernel_rfl⟩
  · cases h; exact ⟨Tryd.func24, by kernel_rfl, by kernel_rfl, by kernel_rfl⟩
  · cases h; exact ⟨Tryd.func27, by kernel_rfl, by kernel_rfl, by kernel_rfl⟩
  · cases h; exact ⟨Tryd.func28, by kernel_rfl, by kernel_rfl, by kernel_rfl⟩
  · cases h; exact ⟨Tryd.func29, by kernel_rfl, by kernel_rfl, by kernel_rfl⟩
  · cases h; exact ⟨Tryd.func11, by kernel_rfl, by kernel_rfl, by kernel_rfl⟩
  · cases h; exact ⟨Tryd.func37, by kernel_rfl, by kernel_rfl, by kernel_rfl⟩
  · cases h; exact ⟨Tryd.func10, by kernel_rfl, by kernel_rfl, by kernel_rfl⟩
  · cases h; exact ⟨Tryd.func34, by kernel_rfl, by kernel_rfl, by kernel_rfl⟩
  · cases h; exact ⟨Tryd.func43, by kernel_rfl, by kernel_rfl, by kernel_rfl⟩
  · cases h; exact ⟨Tryd.func44, by kernel_rfl, by kernel_rfl, by kernel_rfl⟩
  · cases h; exact ⟨Tryd.func35, by kernel_rfl, by kernel_rfl, by kernel_rfl⟩
  · cases h; exact ⟨Tryd.func21, by kernel_rfl, by kernel_rfl, by kernel_rfl⟩
  · cases h; exact ⟨Tryd.func20, by kernel_rfl, by kernel_rfl, by kernel_rfl⟩
  · cases h; exact ⟨Tryd.func38, by kernel_rfl, by kernel_rfl, by kernel_rfl⟩
  · cases h; exact ⟨Tryd.func40, by kernel_rfl, by kernel_rfl, by kernel_rfl⟩
  · cases h; exact ⟨Tryd.func16, by kernel_rfl, by kernel_rfl, by kernel_rfl⟩
  · cases h
set_option maxHeartbeats 0 in
theorem eAwF : evFn X (runE X Eaw fsC 60 3 20) ra25 lp0 Tryd.f25 [] [] (fun o v => some (o, v)) = some ([], .v (.bool true)) := by kernel_rfl
def sAwF : Spc U := .of d00 (fun _ => True) (fun _ => []) fun _ => .v (.bool true)
theorem sAwF_ok : SpecOk Tryd.prog 25 sAwF := by
  refine fn_ok X_ok mixed (runE_ok (N := 60) (k := 3) X_ok mixed Eaw_ok fsC_ok 20) ra25 lp0 Tryd.func25 (by kernel_rfl) (by kernel_rfl) (lp0_ok (by kernel_rfl)) fun objs args x hx hp => ?_
  obtain ⟨rfl, rfl⟩ := d00_ok hx
  exact eAwF
end Go.Proofs.YtmcflglkfgnbbaaDoor.Bt

/- What is in either; one set has one row of parts. -/
namespace Go.Proofs.YtmcflglkfgnbbaaDoor.Bt
open Go Go.RowKit Go.Proofs.YtmcflglkfgnbbaaDoor.Eng Go.Proofs.YtmcflglkfgnbbaaDoor.Nd
set_option linter.unusedVariables false
set_option linter.unusedSimpArgs false
set_option maxRecDepth 20000
/-! ### One set has one row of parts -/
theorem sorted_eq {α : Type} {r : α → α → Prop} (hirr : ∀ a, ¬ r a a) (htr : ∀ a b c, r a b → r b c → r a c) : ∀ {l m : List α}, l.Pairwise r → m.Pairwise r → (∀ x, x ∈ l ↔ x ∈ m) → l = m
  | [], [], _, _, _ => rfl
  | [], y :: m, _, _, h => absurd ((h y).2 List.mem_cons_self) (by simp)
  | x :: l, [], _, _, h => absurd ((h x).1 List.mem_cons_self) (by simp)
  | x :: l, y :: m, hl, hm, h => by
    obtain ⟨l1, l2⟩ := List.pairwise_cons.1 hl
    obtain ⟨m1, m2⟩ := List.pairwise_cons.1 hm
    have exy : x = y := by
      rcases List.mem_cons.1 ((h x).1 List.mem_cons_self) with e | e
      · exact e
      · rcases List.mem_cons.1 ((h y).2 List.mem_cons_self) with e2 | e2
        · exact e2.symm
        · exact absurd (htr _ _ _ (l1 y e2) (m1 x e)) (hirr x)
    subst exy
    rw [sorted_eq hirr htr l2 m2 fun z => ⟨fun hz => (List.mem_cons.1 ((h z).1 (List.mem_cons_of_mem _ hz))).elim (fun e => absurd (l1 z hz) (by rw [e]; exact hirr x)) id, fun hz => (List.mem_cons.1 ((h z).2 (List.mem_cons_of_mem _ hz))).elim (fun e => absurd (m1 z hz) (by rw [e]; exact hirr x)) id⟩]
theorem bit_ex {b : Int} (h0 : 0 < b) (h1 : b < 18446744073709551616) : ∃ i, i < 64 ∧ bitP b i = true := by
  obtain ⟨b, rfl⟩ := Int.eq_ofNat_of_zero_le (Int.le_of_lt h0)
  have hb : b ≠ 0 := by omega
  obtain ⟨i, hi⟩ := Nat.exists_testBit_of_ne_zero hb
  refine ⟨i, ?_, hi⟩
  by_cases h : i < 64
  · exact h
  · exfalso
    have hlt : b < 2 ^ i := Nat.lt_of_lt_of_le (by omega : b < 2 ^ 64) (Nat.pow_le_pow_right (by decide) (by omega))
    rw [Nat.testBit_lt_two_pow hlt] at hi
    cases hi
theorem bits_eq {a b : Int} (ha : 0 < a ∧ a < 18446744073709551616) (hb : 0 < b ∧ b < 18446744073709551616) (h : ∀ i, i < 64 → bitP a i = bitP b i) : a = b := by
  obtain ⟨a, rfl⟩ := Int.eq_ofNat_of_zero_le (Int.le_of_lt ha.1)
  obtain ⟨b, rfl⟩ := Int.eq_ofNat_of_zero_le (Int.le_of_lt hb.1)
  congr 1
  apply Nat.eq_of_testBit_eq
  intro i
  by_cases hi : i < 64
  · exact h i hi
  · have h1 : ∀ c : Nat, c < 18446744073709551616 → c.testBit i = false := fun c hc => Nat.testBit_lt_two_pow (Nat.lt_of_lt_of_le (by omega : c < 2 ^ 64) (Nat.pow_le_pow_right (by decide) (by omega)))
    rw [h1 a (by omega), h1 b (by omega)]
theorem at_uniq {ps : List R54} (h : RiseP ps) {p q : R54} (hp : p ∈ ps) (hq : q ∈ ps) (e : p.At = q.At) : p = q := by
  obtain ⟨i, hi, rfl⟩ := List.mem_iff_getElem.1 hp
  obtain ⟨j, hj, rfl⟩ := List.mem_iff_getElem.1 hq
  have h1 := rk_at h (List.getElem?_eq_getElem hi)
  have h2 := rk_at h (List.getElem?_eq_getElem hj)
  rw [e] at h1
  have : i = j := by omega
  subst this
  rfl
theorem sub_of {ps qs : List R54} (h : OkP ps) (k : OkP qs) (he : ∀ n, 0 ≤ n → hasP ps n = hasP qs n) : ∀ p, p ∈ ps → p ∈ qs := fun p hp => by
  obtain ⟨⟨a0, a1⟩, b0, b1⟩ := h.2 p hp
  have at_ : ∀ i : Nat, i < 64 → (p.At * 64 + i) / 64 = p.At ∧ ((p.At * 64 + i) % 64).toNat = i := fun i hi => by omega
  obtain ⟨i, hi, hb⟩ := bit_ex b0 b1
  have h1 : hasP ps (p.At * 64 + i) = true := (has_iff h.1 _).2 ⟨p, hp, (at_ i hi).1.symm, by rw [(at_ i hi).2]; exact hb⟩
  rw [he _ (by omega)] at h1
  obtain ⟨q, hq, e1, e2⟩ := (has_iff k.1 _).1 h1
  rw [(at_ i hi).1] at e1
  obtain ⟨_, c0, c1⟩ := k.2 q hq
  have hbits : p.Bits = q.Bits := bits_eq ⟨b0, b1⟩ ⟨c0, c1⟩ fun j hj => by
    have hh := he (p.At * 64 + j) (by omega)
    have f : ∀ {rs : List R54}, RiseP rs → ∀ r ∈ rs, r.At = p.At → hasP rs (p.At * 64 + j) = bitP r.Bits j := fun {rs} hr r hrm hra => by
      apply Bool.eq_iff_iff.2
      rw [has_iff hr, (at_ j hj).1, (at_ j hj).2]
      constructor
      · rintro ⟨r', hr', e3, e4⟩
        rw [at_uniq hr hrm hr' (hra.trans e3.symm)]
        exact e4
      · intro e4
        exact ⟨r, hrm, hra, e4⟩
    rw [f h.1 p hp rfl, f k.1 q hq e1] at hh
    exact hh
  have : p = q := by
    cases p; cases q
    dsimp only at e1 hbits
    rw [e1, hbits]
  rw [this]
  exact hq
theorem parts_eq {ps qs : List R54} (h : OkP ps) (k : OkP qs) (he : ∀ n, 0 ≤ n → hasP ps n = hasP qs n) : ps = qs :=
  sorted_eq (r := fun a b : R54 => a.At < b.At) (fun a h => by omega) (fun a b c h1 h2 => by omega) h.1 k.1 fun p => ⟨sub_of h k he p, sub_of k h (fun n hn => (he n hn).symm) p⟩
theorem rel_uniq {ps qs : List R54} {l : List Int} (h : RelP ps l) (k : RelP qs l) : ps = qs :=
  parts_eq h.1 k.1 fun n hn => by
    apply Bool.eq_iff_iff.2
    rw [← h.2.2.2 n hn, ← k.2.2.2 n hn]

theorem orW_nat {a b : Int} (ha : B64 a) (hb : B64 b) : orW a b = ((a.toNat ||| b.toNat : Nat) : Int) := by
  obtain ⟨a0, a1⟩ := ha
  obtain ⟨b0, b1⟩ := hb
  obtain ⟨y, rfl⟩ : ∃ y : Nat, a = (y : Int) := ⟨a.toNat, by omega⟩
  obtain ⟨z, rfl⟩ : ∃ z : Nat, b = (z : Int) := ⟨b.toNat, by omega⟩
  unfold orW
  rw [Pu.or_k (by omega) (by omega)]
  rfl
theorem or_at : ∀ (S T : List R54), ∀ r ∈ OrP S T, (∃ p ∈ S, r.At = p.At) ∨ ∃ q ∈ T, r.At = q.At := by
  intro S T
  induction S, T using OrP.induct with
  | case1 T => intro r hr; rw [OrP] at hr; exact .inr ⟨r, hr, rfl⟩
  | case2 p S => intro r hr; rw [OrP] at hr; exact .inl ⟨r, hr, rfl⟩
  | case3 p S q T h ih =>
    intro r hr
    rw [OrP, if_pos h] at hr
    rcases List.mem_cons.1 hr with rfl | hr
    · exact .inl ⟨r, List.mem_cons_self, rfl⟩
    · exact (ih r hr).elim (fun ⟨x, h1, h2⟩ => .inl ⟨x, List.mem_cons_of_mem _ h1, h2⟩) .inr
  | case4 p S q T h h2 ih =>
    intro r hr
    rw [OrP, if_neg h, if_pos h2] at hr
    rcases List.mem_cons.1 hr with rfl | hr
    · exact .inr ⟨r, List.mem_cons_self, rfl⟩
    · exact (ih r hr).elim .inl fun ⟨x, h1, h2⟩ => .inr ⟨x, List.mem_cons_of_mem _ h1, h2⟩
  | case5 p S q T h h2 ih =>
    intro r hr
    rw [OrP, if_neg h, if_neg h2] at hr
    rcases List.mem_cons.1 hr with rfl | hr
    · exact .inl ⟨p, List.mem_cons_self, rfl⟩
    · exact (ih r hr).elim (fun ⟨x, h1, h2⟩ => .inl ⟨x, List.mem_cons_of_mem _ h1, h2⟩) fun ⟨x, h1, h2⟩ => .inr ⟨x, List.mem_cons_of_mem _ h1, h2⟩
def BdP (p : R54) : Prop := (0 ≤ p.At ∧ p.At < 16384) ∧ 0 < p.Bits ∧ p.Bits < 18446744073709551616
theorem BdP.b {p : R54} (h : BdP p) : B64 p.Bits := ⟨by have := h.2.1; omega, h.2.2⟩
def ExB (ps : List R54) (n : Int) : Prop := ∃ p ∈ ps, n / 64 = p.At ∧ p.Bits.toNat.testBit (n % 64).toNat = true
theorem exB_cons {p : R54} {ps : List R54} {n : Int} : ExB (p :: ps) n ↔ (n / 64 = p.At ∧ p.Bits.toNat.testBit (n % 64).toNat = true) ∨ ExB ps n := by
  unfold ExB
  simp
theorem or_all : ∀ (S T : List R54), RiseP S → RiseP T → (∀ p ∈ S, BdP p) → (∀ p ∈ T, BdP p) → RiseP (OrP S T) ∧ (∀ r ∈ OrP S T, BdP r) ∧ ∀ n, ExB (OrP S T) n ↔ ExB S n ∨ ExB T n := by
  intro S T
  induction S, T using OrP.induct with
  | case1 T => intro h1 h2 h3 h4; rw [OrP]; exact ⟨h2, h4, fun n => ⟨.inr, fun h => h.elim (fun ⟨_, h, _⟩ => by simp at h) id⟩⟩
  | case2 p S => intro h1 h2 h3 h4; rw [OrP]; exact ⟨h1, h3, fun n => ⟨.inl, fun h => h.elim id (fun ⟨_, h, _⟩ => by simp at h)⟩⟩
  | case3 p S q T h ih =>
    intro h1 h2 h3 h4
    obtain ⟨k1, k2⟩ := List.pairwise_cons.1 h1
    obtain ⟨l1, l2⟩ := List.pairwise_cons.1 h2
    obtain ⟨i1, i2, i3⟩ := ih k2 h2 (fun x hx => h3 x (List.mem_cons_of_mem _ hx)) h4
    rw [OrP, if_pos h]
    refine ⟨List.pairwise_cons.2 ⟨fun r hr => ?_, i1⟩, fun r hr => ?_, fun n => ?_⟩
    · rcases or_at _ _ r hr with ⟨x, hx, e⟩ | ⟨x, hx, e⟩
      · have := k1 x hx; omega
      · rcases List.mem_cons.1 hx with rfl | hx
        · omega
        · have := l1 x hx; omega
    · rcases List.mem_cons.1 hr with rfl | hr
      · exact h3 r List.mem_cons_self
      · exact i2 r hr
    · rw [exB_cons, i3 n, exB_cons (p := p) (ps := S), or_assoc]
  | case4 p S q T h h5 ih =>
    intro h1 h2 h3 h4
    obtain ⟨k1, k2⟩ := List.pairwise_cons.1 h1
    obtain ⟨l1, l2⟩ := List.pairwise_cons.1 h2
    obtain ⟨i1, i2, i3⟩ := ih h1 l2 h3 (fun x hx => h4 x (List.mem_cons_of_mem _ hx))
    rw [OrP, if_neg h, if_pos h5]
    refine ⟨List.pairwise_cons.2 ⟨fun r hr => ?_, i1⟩, fun r hr => ?_, fun n => ?_⟩
    · rcases or_at _ _ r hr with ⟨x, hx, e⟩ | ⟨x, hx, e⟩
      · rcases List.mem_cons.1 hx with rfl | hx
        · omega
        · have := k1 x hx; omega
      · have := l1 x hx; omega
    · rcases List.mem_cons.1 hr with rfl | hr
      · exact h4 r List.mem_cons_self
      · exact i2 r hr
    · rw [exB_cons, i3 n, exB_cons (ps := T)]
      exact ⟨fun h => h.elim (fun h => .inr (.inl h)) fun h => h.elim .inl fun h => .inr (.inr h), fun h => h.elim (fun h => .inr (.inl h)) fun h => h.elim .inl fun h => .inr (.inr h)⟩
  | case5 p S q T h h5 ih =>
    intro h1 h2 h3 h4
    obtain ⟨k1, k2⟩ := List.pairwise_cons.1 h1
    obtain ⟨l1, l2⟩ := List.pairwise_cons.1 h2
    obtain ⟨i1, i2, i3⟩ := ih k2 l2 (fun x hx => h3 x (List.mem_cons_of_mem _ hx)) (fun x hx => h4 x (List.mem_cons_of_mem _ hx))
    have hp := h3 p List.mem_cons_self
    have hq := h4 q List.mem_cons_self
    have e := orW_nat hp.b hq.b
    have hlt : (p.Bits.toNat ||| q.Bits.toNat) < 18446744073709551616 := Pu.or_lt (by have := hp.2; omega) (by have := hq.2; omega)
    have hge : p.Bits.toNat ≤ (p.Bits.toNat ||| q.Bits.toNat) := Nat.left_le_or
    rw [OrP, if_neg h, if_neg h5]
    refine ⟨List.pairwise_cons.2 ⟨fun r hr => ?_, i1⟩, fun r hr => ?_, fun n => ?_⟩
    · show p.At < r.At
      rcases or_at _ _ r hr with ⟨x, hx, e⟩ | ⟨x, hx, e⟩
      · have := k1 x hx; omega
      · have := l1 x hx; omega
    · rcases List.mem_cons.1 hr with rfl | hr
      · refine ⟨hp.1, ?_, ?_⟩
        · show 0 < orW _ _
          rw [e]
          have := hp.2.1
          omega
        · show orW _ _ < _
          rw [e]
          omega
      · exact i2 r hr
    · rw [exB_cons, i3 n, exB_cons, exB_cons]
      show (n / 64 = p.At ∧ (orW p.Bits q.Bits).toNat.testBit _ = true) ∨ _ ↔ _
      rw [e, Int.toNat_natCast, Nat.testBit_or, Bool.or_eq_true]
      have ea : p.At = q.At := by omega
      rw [← ea]
      constructor
      · rintro (⟨h6, h7 | h7⟩ | h6 | h6)
        · exact .inl (.inl ⟨h6, h7⟩)
        · exact .inr (.inl ⟨h6, h7⟩)
        · exact .inl (.inr h6)
        · exact .inr (.inr h6)
      · rintro ((h6 | h6) | h6 | h6)
        · exact .inl ⟨h6.1, .inl h6.2⟩
        · exact .inr (.inl h6)
        · exact .inl ⟨h6.1, .inr h6.2⟩
        · exact .inr (.inr h6)
theorem or_rel {S T : List R54} {X Y : List Int} (hS : RelP S X) (hT : RelP T Y) : RelP (OrP S T) (orR X Y) := by
  obtain ⟨S', hS'⟩ := rel_fold Y hS
  obtain ⟨h1, h2, h3⟩ := or_all S T hS.1.1 hT.1.1 hS.1.2 hT.1.2
  have hok : OkP (OrP S T) := ⟨h1, h2⟩
  refine ⟨hok, hS'.2.1, hS'.2.2.1, fun n hn => ?_⟩
  have ex : ExB (OrP S T) n ↔ hasP (OrP S T) n = true := (has_ex hok).symm
  have ex1 : ExB S n ↔ hasP S n = true := (has_ex hS.1).symm
  have ex2 : ExB T n ↔ hasP T n = true := (has_ex hT.1).symm
  rw [← ex, h3 n, ex1, ex2, mem_orR, ← hS.2.2.2 n hn, ← hT.2.2.2 n hn]
  exact ⟨fun h => h.elim .inl fun h => .inr h.1, fun h => h.elim .inl fun h => .inr ⟨h, hT.2.2.1 n h⟩⟩
theorem orP_comm {S T : List R54} {X Y : List Int} (hS : RelP S X) (hT : RelP T Y) : OrP S T = OrP T S := by
  have h1 := or_rel hS hT
  have h2 := or_rel hT hS
  have e : orR X Y = orR Y X := rise_ext h1.2.1 h2.2.1 fun n => by
    rw [mem_orR, mem_orR]
    exact ⟨fun h => h.elim (fun h => .inr ⟨h, hS.2.2.1 n h⟩) fun h => .inl h.1, fun h => h.elim (fun h => .inr ⟨h, hT.2.2.1 n h⟩) fun h => .inl h.1⟩
  rw [← e] at h2
  exact rel_uniq h1 h2
theorem eq_rel {S T : List R54} {X Y : List Int} (hS : RelP S X) (hT : RelP T Y) : eqP S T = eqI X Y := by
  unfold eqP eqI
  by_cases h : X = Y
  · subst h
    rw [decide_eq_true rfl]
    exact decide_eq_true (rel_uniq hS hT)
  · rw [decide_eq_false h]
    exact decide_eq_false fun e => h (by
      subst e
      rw [← nums_rel hS, ← nums_rel hT])
end Go.Proofs.YtmcflglkfgnbbaaDoor.Bt

/- Facts: the law's loops. -/
namespace Go.Proofs.YtmcflglkfgnbbaaDoor.Bt
open Go Go.RowKit Go.Proofs.YtmcflglkfgnbbaaDoor.Eng Go.Proofs.YtmcflglkfgnbbaaDoor.Nd
set_option linter.unusedVariables false
set_option linter.unusedSimpArgs false
set_option maxRecDepth 20000
def sNewF : Spc U := .of d00 (fun _ => True) (fun _ => mObs []) fun _ => .ref 0 0 0
theorem sNewF_ok : SpecOk Tryd.prog 24 sNewF := by
  refine fn_ok X_ok mixed E0_ok an0 lp0 Tryd.func24 (by kernel_rfl) (by kernel_rfl) (lp0_ok (by kernel_rfl)) fun objs args x hx hp => ?_
  obtain ⟨rfl, rfl⟩ := d00_ok hx
  exact eNewF ()
noncomputable def sJoinF : Spc U := sJoinF0.wkA [.no, .no, .no, .a [.l .t54]]
theorem sJoinF_ok : SpecOk Tryd.prog 27 sJoinF := sJoinF0_ok.wkA _
noncomputable def E6 : FuncId → Option (Spc U)
  | 24 => some sNewF
  | 25 => some sAwF
  | 26 => some sOf
  | 17 => some sROr
  | 28 => some sOfS
  | 27 => some sJoinF
  | 29 => some sGetF
  | 30 => some sList
  | 15 => some sRLess
  | 23 => some sEqI
  | _ => none
theorem E6_ok : ∀ f S, E6 f = some S → SpecOk Tryd.prog f S := fun f S h => by
  unfold E6 at h
  split at h
  · cases h; exact sNewF_ok
  · cases h; exact sAwF_ok
  · cases h; exact sOf_ok
  · cases h; exact sROr_ok
  · cases h; exact sOfS_ok
  · cases h; exact sJoinF_ok
  · cases h; exact sGetF_ok
  · cases h; exact sList_ok
  · cases h; exact sRLess_ok
  · cases h; exact sEqI_ok
  · cases h
def an6 : Ann := ⟨fun | 0 => 25 | 2 => 249 | _ => 0, fun | 0 => 4 | 2 => 125 | _ => 0, fun | 9 => [6] | _ => [], false⟩
def S0F (l : List R45) (L : Fm) (i : Int) : TS U := mkS 102 [(0, .lst .t45 l), (3, .ref 0 0 0), (4, .v (.int .i64 i))] (mObs L) 0
def S2F (l : List R45) (L : Fm) (i t n : Int) (xl was : List Int) (k : Int) : TS U := mkS 102 [(0, .lst .t45 l), (3, .ref 0 0 0), (4, .v (.int .i64 i)), (5, .ref 2 0 0), (6, .lst .i64 was), (7, .v (.int .i64 k))] (mObs L ++ [.cells [.v (.int .i64 t), .v (.int .i64 n), .lst .i64 xl] false]) 0
theorem r2F (lp : Lp
  U) (N : Nat) (l : List
  R45) (L : Fm) (i : Int) (t : Int) (n : Int) (xl : List
  Int) (was : List Int) (k : Int) : (fnLoop X E6 an6 lp Tryd.f6 2 N.succ (S2F l L i t n xl was k)) =
  bif decide (k < i) then
  (getI l k).bind fun (z : X.U.T C.t45) =>
    bif decide (z.Tag = t) then
      (getI l k).bind fun (z : X.U.T C.t45) =>
        bif decide (z.N = n) then
          (getI l k).bind fun (z : X.U.T C.t45) =>
            (getI l k).bind fun (z_1 : X.U.T C.t45) =>
              (cutI z.L none (some (if 10 < (↑z_1.L.length : Int) then 10 else (↑z_1.L.length : Int)))).bind
                fun (ys : List (X.U.T C.i64)) =>
                if Pl ys.length then
                  if PSo was.length (ofR ys).length then
                    fnLoop X E6 an6 lp Tryd.f6 2 N
                      (mkS 102
                        [(0, TV.lst C.t45 l), (3, TV.ref 0 0 0), (4, TV.v (Value.int IntKind.i64 i)), (5, TV.ref 2 0 0),
                          (6, TV.lst C.i64 (orR was (ofR ys))),
                          (7, TV.v (Value.int IntKind.i64 (IntKind.i64.wrap (k + 1))))]
                        [TO.cells [TV.mp 1] false, TO.mp C.m_t68_t25 L false,
                          TO.cells [TV.v (Value.int IntKind.i64 t), TV.v (Value.int IntKind.i64 n), TV.lst C.i64 xl]
                            false]
                        0)
                  else none
                else none
        else
          fnLoop X E6 an6 lp Tryd.f6 2 N
            (mkS 102
              [(0, TV.lst C.t45 l), (3, TV.ref 0 0 0), (4, TV.v (Value.int IntKind.i64 i)), (5, TV.ref 2 0 0),
                (6, TV.lst C.i64 was), (7, TV.v (Value.int IntKind.i64 (IntKind.i64.wrap (k + 1))))]
              [TO.cells [TV.mp 1] false, TO.mp C.m_t68_t25 L false,
                TO.cells [TV.v (Value.int IntKind.i64 t), TV.v (Value.int IntKind.i64 n), TV.lst C.i64 xl] false]
              0)
    else
      fnLoop X E6 an6 lp Tryd.f6 2 N
        (mkS 102
          [(0, TV.lst C.t45 l), (3, TV.ref 0 0 0), (4, TV.v (Value.int IntKind.i64 i)), (5, TV.ref 2 0 0),
            (6, TV.lst C.i64 was), (7, TV.v (Value.int IntKind.i64 (IntKind.i64.wrap (k + 1))))]
          [TO.cells [TV.mp 1] false, TO.mp C.m_t68_t25 L false,
            TO.cells [TV.v (Value.int IntKind.i64 t), TV.v (Value.int IntKind.i64 n), TV.lst C.i64 xl] false]
          0)
else
  some
    (Exit.exit 2,
      mkS 102
        [(0, TV.lst C.t45 l), (3, TV.ref 0 0 0), (4, TV.v (Value.int IntKind.i64 i)), (5, TV.ref 2 0 0),
          (6, TV.lst C.i64 was)]
        [TO.cells [TV.mp 1] false, TO.mp C.m_t68_t25 L false,
          TO.cells [TV.v (Value.int IntKind.i64 t), TV.v (Value.int IntKind.i64 n), TV.lst C.i64 xl] false]
        0) := by kernel_rfl
theorem cut10 (l : List Int) : cutI l none (some (if 10 < (l.length : Int) then 10 else (l.length : Int))) = some (l.take 10) := by
  by_cases h : 10 < (l.length : Int)
  · rw [if_pos h]
    show (if 0 ≤ (10 : Int) ∧ (10 : Int) ≤ (l.length : Int) then some (l.take (10 : Int).toNat) else none) = _
    rw [if_pos ⟨by omega, by omega⟩]
    rfl
  · rw [if_neg h]
    show (if 0 ≤ (l.length : Int) ∧ (l.length : Int) ≤ (l.length : Int) then some (l.take (l.length : Int).toNat) else none) = _
    rw [if_pos ⟨by omega, by omega⟩, Int.toNat_natCast, List.take_of_length_le (Nat.le_refl _), List.take_of_length_le (by omega)]
theorem orR_len : ∀ (b a : List Int), (orR a b).length ≤ a.length + b.length
  | [], a => Nat.le_refl _
  | z :: b, a => by
    have h1 := orR_len b (rwR a z)
    have h2 := rwR_len a z
    unfold orR at h1 ⊢
    rw [List.foldl_cons, List.length_cons]
    omega
theorem ofR_len2 (l : List Int) : (ofR l).length ≤ l.length := by
  have := orR_len l []
  rw [List.length_nil, Nat.zero_add] at this
  exact this
/-- What was added to a fact, with one more. -/
def stF (t n : Int) (was : List Int) (z : R45) : List Int := cond (decide (z.Tag = t)) (cond (decide (z.N = n)) (orR was (ofR (z.L.take 10))) was) was
def Z2F (l : List R45) (L : Fm) (i t n : Int) (xl was : List Int) : TS U := mkS 102 [(0, .lst .t45 l), (3, .ref 0 0 0), (4, .v (.int .i64 i)), (5, .ref 2 0 0), (6, .lst .i64 was)] (mObs L ++ [.cells [.v (.int .i64 t), .v (.int .i64 n), .lst .i64 xl] false]) 0
theorem rounds2F (lp : Lp U) (l : List R45) (L : Fm) (i : Nat) (t n : Int) (xl : List Int) (hi : i ≤ l.length) (h40 : i ≤ 40) : ∀ (m k : Nat) (was : List Int), k + m = i → was.length ≤ 10 * k → fnLoop X E6 an6 lp Tryd.f6 2 (m + 1) (S2F l L i t n xl was k) = some (.exit 2, Z2F l L i t n xl (((l.take i).drop k).foldl (stF t n) was)) := by
  intro m
  induction m with
  | zero =>
    intro k was hk hw
    rw [r2F, decide_eq_false (by omega), List.drop_eq_nil_of_le (by rw [List.length_take]; omega)]
    rfl
  | succ m ih =>
    intro k was hk hw
    obtain ⟨z, hz, hz2⟩ := getE (l := l) (v := (k : Int)) (by omega) (by omega)
    have hz3 : l[k]? = some z := hz2
    have hz4 : (l.take i)[k]? = some z := by rw [List.getElem?_take_of_lt (by omega)]; exact hz3
    rw [r2F, decide_eq_true (by omega), hz, cond_true, Option.bind_some, dropG hz4, List.foldl_cons, wr (a := (k : Int) + 1) (by omega) (by omega)]
    have hskip := ih (k + 1) was (by omega) (by omega)
    cases h1 : decide (z.Tag = t) with
    | false =>
      have : stF t n was z = was := by unfold stF; rw [h1]; rfl
      rw [this]
      exact hskip
    | true =>
      rw [cond_true, Option.bind_some]
      cases h2 : decide (z.N = n) with
      | false =>
        have : stF t n was z = was := by unfold stF; rw [h1, h2]; rfl
        rw [this]
        exact hskip
      | true =>
        have e : stF t n was z = orR was (ofR (z.L.take 10)) := by unfold stF; rw [h1, h2]; rfl
        have l1 := ofR_len2 (z.L.take 10)
        rw [List.length_take] at l1
        have l2 := orR_len (ofR (z.L.take 10)) was
        have hP : Pl (z.L.take 10).length := by rw [List.length_take]; unfold Pl; omega
        have hQ : PSo was.length (ofR (z.L.take 10)).length := by unfold PSo; omega
        rw [cond_true, Option.bind_some, Option.bind_some, cut10, Option.bind_some, if_pos hP, if_pos hQ, e]
        exact ih (k + 1) _ (by omega) (by omega)
end Go.Proofs.YtmcflglkfgnbbaaDoor.Bt

/- Facts: the law's outer loop. -/
namespace Go.Proofs.YtmcflglkfgnbbaaDoor.Bt
open Go Go.RowKit Go.Proofs.YtmcflglkfgnbbaaDoor.Eng Go.Proofs.YtmcflglkfgnbbaaDoor.Nd
set_option linter.unusedVariables false
set_option linter.unusedSimpArgs false
set_option maxRecDepth 20000
/-- What was added to a fact by the first ones. -/
def wsF (l : List R45) (i : Int) (t n : Int) : List Int := (l.take i.toNat).foldl (stF t n) []
def P2F (l : List R45) (i : Int) (was : List Int) (k : Int) : Prop := (0 ≤ i ∧ i ≤ l.length ∧ i ≤ 40) ∧ was = [] ∧ k = 0
noncomputable instance (l : List R45) (i : Int) (was : List Int) (k : Int) : Decidable (P2F l i was k) := Classical.propDecidable _
def dl2F (s : TS U) : Option (List (R68 × R25) × Int × Int × List Int × List R45 × Int × List Int × Int) := match told s 102 [0, 3, 4, 5, 6, 7] 0, s.objs with
  | some [a0, a1, a2, a3, a4, a5], [o0, o1, o2] =>
    match o0 with
    | .cells [q0] false =>
      match q0 with
      | .mp 1 =>
        match o1 with
        | .mp .m_t68_t25 L false =>
          match o2 with
          | .cells [q1, q2, q3] false =>
            match q1 with
            | .v (.int .i64 t) =>
              match q2 with
              | .v (.int .i64 n) =>
                match q3 with
                | .lst .i64 xl =>
                  match a0 with
                  | .lst .t45 l =>
                    match a1 with
                    | .ref 0 0 0 =>
                      match a2 with
                      | .v (.int .i64 i) =>
                        match a3 with
                        | .ref 2 0 0 =>
                          match a4 with
                          | .lst .i64 was =>
                            match a5 with
                            | .v (.int .i64 k) =>
                              some (L, t, n, xl, l, i, was, k)
                            | _ => none
                          | _ => none
                        | _ => none
                      | _ => none
                    | _ => none
                  | _ => none
                | _ => none
              | _ => none
            | _ => none
          | _ => none
        | _ => none
      | _ => none
    | _ => none
  | _, _ => none
theorem dl2F_ok {s : TS U} {L : List (R68 × R25)} {t : Int} {n : Int} {xl : List Int} {l : List R45} {i : Int} {was : List Int} {k : Int} (h : dl2F s = some (L, t, n, xl, l, i, was, k)) : s = mkS (U := U) 102 ([0, 3, 4, 5, 6, 7].zip ([.lst .t45 l, .ref 0 0 0, .v (.int .i64 i), .ref 2 0 0, .lst .i64 was, .v (.int .i64 k)] : List (TV U))) ([.cells [.mp 1] false, .mp .m_t68_t25 L false, .cells [.v (.int .i64 t), .v (.int .i64 n), .lst .i64 xl] false] : List (TO U)) 0 := by
  unfold dl2F at h
  split at h <;> try (cases h; done)
  rename_i ht ho
  have hs := told_ok ht
  rw [ho] at hs
  repeat' split at h
  all_goals first | (cases h; done) | (cases h; exact hs)
noncomputable def lc2F : LC U := .of dl2F (fun (L, t, n, xl, l, i, was, k) => P2F l i was k) (.exit 2) fun (L, t, n, xl, l, i, was, k) => Z2F l L i t n xl (wsF l i t n)
theorem r0F (c0 : LC
  U) (N : Nat) (l : List
  R45) (L : Fm) (i : Int) : (fnLoop X E6 an6 (lpL [(0, c0), (2, lc2F)]) Tryd.f6 0 N.succ (S0F l L i)) =
  bif decide (i < (↑l.length : Int)) then
  bif decide (i < 40) then
    (getI l i).bind fun (z : X.U.T C.t45) =>
      if P2F l i [] 0 then
        (cutI z.L none (some (if 10 < (↑z.L.length : Int) then 10 else (↑z.L.length : Int)))).bind
          fun (ys : List (X.U.T C.i64)) =>
          if Pl ys.length then
            if Pl (ofR ys).length then
              bif (ofP (ofR ys)).isEmpty then
                if POk2 [] (gtF L z.Tag z.N) then
                  bif nwF L z.Tag z.N [] then
                    if PSs (ofR ys).length (wsF l i z.Tag z.N).length then
                      bif !false == decide (0 < (↑(lessR (ofR ys) (wsF l i z.Tag z.N)).length : Int)) then
                        some (Exit.ret, mkS 102 [(2, TV.v (Value.bool false))] [] 0)
                      else
                        if True then
                          if PWith (gtF L z.Tag z.N) then
                            if PSo (wsF l i z.Tag z.N).length (ofR ys).length then
                              if PSz (numsR (gtF L z.Tag z.N)).length then
                                bif !eqI (numsR (gtF L z.Tag z.N)) (orR (wsF l i z.Tag z.N) (ofR ys)) then
                                  some (Exit.ret, mkS 102 [(2, TV.v (Value.bool false))] [] 0)
                                else
                                  fnLoop X E6 an6 (lpL [(0, c0), (2, lc2F)]) Tryd.f6 0 N
                                    (mkS 102
                                      [(0, TV.lst C.t45 l), (3, TV.ref 0 0 0),
                                        (4, TV.v (Value.int IntKind.i64 (IntKind.i64.wrap (i + 1))))]
                                      [TO.cells [TV.mp 1] false, TO.mp C.m_t68_t25 L false] 0)
                              else none
                            else none
                          else none
                        else none
                    else none
                  else
                    if PSs (ofR ys).length (wsF l i z.Tag z.N).length then
                      bif !true == decide (0 < (↑(lessR (ofR ys) (wsF l i z.Tag z.N)).length : Int)) then
                        some (Exit.ret, mkS 102 [(2, TV.v (Value.bool false))] [] 0)
                      else
                        if True then
                          if PWith (gtF (jnF L z.Tag z.N []) z.Tag z.N) then
                            if PSo (wsF l i z.Tag z.N).length (ofR ys).length then
                              if PSz (numsR (gtF (jnF L z.Tag z.N []) z.Tag z.N)).length then
                                bif
                                    !eqI (numsR (gtF (jnF L z.Tag z.N []) z.Tag z.N))
                                        (orR (wsF l i z.Tag z.N) (ofR ys)) then
                                  some (Exit.ret, mkS 102 [(2, TV.v (Value.bool false))] [] 0)
                                else
                                  fnLoop X E6 an6 (lpL [(0, c0), (2, lc2F)]) Tryd.f6 0 N
                                    (mkS 102
                                      [(0, TV.lst C.t45 l), (3, TV.ref 0 0 0),
                                        (4, TV.v (Value.int IntKind.i64 (IntKind.i64.wrap (i + 1))))]
                                      [TO.cells [TV.mp 1] false, TO.mp C.m_t68_t25 (jnF L z.Tag z.N []) false] 0)
                              else none
                            else none
                          else none
                        else none
                    else none
                else none
              else
                if POk2 (cP (ofP (ofR ys))) (gtF L z.Tag z.N) then
                  bif nwF L z.Tag z.N (cP (ofP (ofR ys))) then
                    if PSs (ofR ys).length (wsF l i z.Tag z.N).length then
                      bif !false == decide (0 < (↑(lessR (ofR ys) (wsF l i z.Tag z.N)).length : Int)) then
                        some (Exit.ret, mkS 102 [(2, TV.v (Value.bool false))] [] 0)
                      else
                        if True then
                          if PWith (gtF L z.Tag z.N) then
                            if PSo (wsF l i z.Tag z.N).length (ofR ys).length then
                              if PSz (numsR (gtF L z.Tag z.N)).length then
                                bif !eqI (numsR (gtF L z.Tag z.N)) (orR (wsF l i z.Tag z.N) (ofR ys)) then
                                  some (Exit.ret, mkS 102 [(2, TV.v (Value.bool false))] [] 0)
                                else
                                  fnLoop X E6 an6 (lpL [(0, c0), (2, lc2F)]) Tryd.f6 0 N
                                    (mkS 102
                                      [(0, TV.lst C.t45 l), (3, TV.ref 0 0 0),
                                        (4, TV.v (Value.int IntKind.i64 (IntKind.i64.wrap (i + 1))))]
                                      [TO.cells [TV.mp 1] false, TO.mp C.m_t68_t25 L false] 0)
                              else none
                            else none
                          else none
                        else none
                    else none
                  else
                    if PSs (ofR ys).length (wsF l i z.Tag z.N).length then
                      bif !true == decide (0 < (↑(lessR (ofR ys) (wsF l i z.Tag z.N)).length : Int)) then
                        some (Exit.ret, mkS 102 [(2, TV.v (Value.bool false))] [] 0)
                      else
                        if True then
                          if PWith (gtF (jnF L z.Tag z.N (cP (ofP (ofR ys)))) z.Tag z.N) then
                            if PSo (wsF l i z.Tag z.N).length (ofR ys).length then
                              if PSz (numsR (gtF (jnF L z.Tag z.N (cP (ofP (ofR ys)))) z.Tag z.N)).length then
                                bif
                                    !eqI (numsR (gtF (jnF L z.Tag z.N (cP (ofP (ofR ys)))) z.Tag z.N))
                                        (orR (wsF l i z.Tag z.N) (ofR ys)) then
                                  some (Exit.ret, mkS 102 [(2, TV.v (Value.bool false))] [] 0)
                                else
                                  fnLoop X E6 an6 (lpL [(0, c0), (2, lc2F)]) Tryd.f6 0 N
                                    (mkS 102
                                      [(0, TV.lst C.t45 l), (3, TV.ref 0 0 0),
                                        (4, TV.v (Value.int IntKind.i64 (IntKind.i64.wrap (i + 1))))]
                                      [TO.cells [TV.mp 1] false,
                                        TO.mp C.m_t68_t25 (jnF L z.Tag z.N (cP (ofP (ofR ys)))) false]
                                      0)
                              else none
                            else none
                          else none
                        else none
                    else none
                else none
            else none
          else none
      else none
  else some (Exit.exit 0, mkS 102 [] [] 0)
else some (Exit.exit 0, mkS 102 [] [] 0) := by kernel_rfl
end Go.Proofs.YtmcflglkfgnbbaaDoor.Bt

/- Facts: a round of the law. -/
namespace Go.Proofs.YtmcflglkfgnbbaaDoor.Bt
open Go Go.RowKit Go.Proofs.YtmcflglkfgnbbaaDoor.Eng Go.Proofs.YtmcflglkfgnbbaaDoor.Nd
set_option linter.unusedVariables false
set_option linter.unusedSimpArgs false
set_option maxRecDepth 20000
theorem mem_ofR (l : List Int) (n : Int) : n ∈ ofR l ↔ n ∈ l ∧ InB n := by
  have := mem_orR l [] n
  unfold orR at this
  unfold ofR
  rw [this]
  simp
theorem ofR_rise (l : List Int) : (ofR l).Pairwise (· < ·) := (relP_of l).2.1
theorem ofR_idem (l : List Int) : ofR (ofR l) = ofR l := rise_ext (ofR_rise _) (ofR_rise _) fun n => by
  rw [mem_ofR (ofR l), mem_ofR l]
  exact ⟨fun h => h.1, fun h => ⟨h, h.2⟩⟩
theorem rel_more (l : List Int) : RelP (ofP (ofR l)) (ofR l) := by
  have := relP_of (ofR l)
  rwa [ofR_idem] at this
/-- Nothing new: what was there stays. -/
theorem or_none {S T : List R54} {X Y : List Int} (hS : RelP S X) (hT : RelP T Y) (h : lessR Y X = []) : orR X Y = X := by
  have hr := or_rel hS hT
  refine rise_ext hr.2.1 hS.2.1 fun n => ?_
  rw [mem_orR]
  refine ⟨fun h2 => h2.elim id fun h3 => ?_, .inl⟩
  cases hm : memI X n with
  | true => exact of_decide_eq_true hm
  | false =>
    have : n ∈ lessR Y X := by
      unfold lessR
      exact List.mem_filter.2 ⟨h3.1, by rw [hm]; rfl⟩
    rw [h] at this
    cases this
theorem nw_less {L : Fm} {t n : Int} {S : List R54} {X Y : List Int} (hS : RelP (gtF L t n) X) (hT : RelP S Y) : nwF L t n S = decide (((lessR Y X).length : Int) = 0) := by
  have hL := less_rel hT hS
  have := nums_none hL.1
  rw [nums_rel hL] at this
  unfold nwF
  congr 1
  exact propext this
theorem ws_succ {l : List R45} {i : Nat} {z : R45} (hz : l[i]? = some z) (t n : Int) : wsF l ((i : Int) + 1) t n = stF t n (wsF l i t n) z := by
  unfold wsF
  rw [show ((i : Int) + 1).toNat = i + 1 by omega, Int.toNat_natCast, List.take_add_one, hz, List.foldl_append]
  rfl
def InvF (l : List R45) (L : Fm) (i : Nat) : Prop := ∀ t n, RelP (gtF L t n) (wsF l i t n)
end Go.Proofs.YtmcflglkfgnbbaaDoor.Bt

/- Facts: a round of the law, told. -/
namespace Go.Proofs.YtmcflglkfgnbbaaDoor.Bt
open Go Go.RowKit Go.Proofs.YtmcflglkfgnbbaaDoor.Eng Go.Proofs.YtmcflglkfgnbbaaDoor.Nd
set_option linter.unusedVariables false
set_option linter.unusedSimpArgs false
set_option maxRecDepth 20000
theorem agetF_aset {A B : Type} {eq : A → A → Bool} (he : ∀ a b, eq a b = true ↔ a = b) (k : A) (b : B) (s : A) : ∀ l : List (A × B), aget eq (aset eq l k b) s = cond (eq s k) (some b) (aget eq l s)
  | [] => rfl
  | (a, y) :: l => by
    rw [aset]
    cases h : eq k a with
    | true =>
      obtain rfl := (he k a).1 h
      rw [cond_true, aget, aget]
      cases eq s k <;> rfl
    | false =>
      rw [cond_false, aget, agetF_aset he k b s l, aget]
      cases h1 : eq s a with
      | false => rfl
      | true =>
        cases h2 : eq s k with
        | false => rfl
        | true =>
          obtain rfl := (he s a).1 h1
          obtain rfl := (he s k).1 h2
          rw [h1] at h
          cases h
theorem keF_iff (a b : R68) : ke_m_t68_t25 a b = true ↔ a = b := by
  unfold ke_m_t68_t25
  cases a
  cases b
  simp
theorem gt_jn (L : Fm) (t n : Int) (S : List R54) (t' n' : Int) : gtF (jnF L t n S) t' n' = cond (decide (t = t') && decide (n = n')) (OrP (gtF L t n) S) (gtF L t' n') := by
  unfold gtF jnF
  rw [agetF_aset keF_iff]
  have : ke_m_t68_t25 (⟨t', n'⟩ : R68) ⟨t, n⟩ = (decide (t = t') && decide (n = n')) := by
    unfold ke_m_t68_t25
    rw [Bool.and_true]
    congr 1 <;> (congr 1; exact propext ⟨Eq.symm, Eq.symm⟩)
  rw [this]
  cases (decide (t = t') && decide (n = n')) <;> rfl
theorem st_eq (t n : Int) (was : List Int) (z : R45) : stF t n was z = cond (decide (z.Tag = t) && decide (z.N = n)) (orR was (ofR (z.L.take 10))) was := by
  unfold stF
  cases decide (z.Tag = t) <;> cases decide (z.N = n) <;> rfl
theorem inv_new {l : List R45} {L : Fm} {i : Nat} {z : R45} {S : List R54} (h : InvF l L i) (hz : l[i]? = some z) (hS : RelP S (ofR (z.L.take 10))) : InvF l (jnF L z.Tag z.N S) (i + 1) := fun t n => by
  have e := ws_succ hz t n
  show RelP _ (wsF l ((i : Int) + 1) t n)
  rw [e, st_eq, gt_jn]
  cases hd : (decide (z.Tag = t) && decide (z.N = n)) with
  | true =>
    obtain ⟨h1, h2⟩ := Bool.and_eq_true_iff.1 hd
    obtain rfl := of_decide_eq_true h1
    obtain rfl := of_decide_eq_true h2
    exact or_rel (h z.Tag z.N) hS
  | false => exact h t n
theorem inv_same {l : List R45} {L : Fm} {i : Nat} {z : R45} {S : List R54} (h : InvF l L i) (hz : l[i]? = some z) (hS : RelP S (ofR (z.L.take 10))) (hn : lessR (ofR (z.L.take 10)) (wsF l i z.Tag z.N) = []) : InvF l L (i + 1) := fun t n => by
  have e := ws_succ hz t n
  show RelP _ (wsF l ((i : Int) + 1) t n)
  rw [e, st_eq]
  cases hd : (decide (z.Tag = t) && decide (z.N = n)) with
  | true =>
    obtain ⟨h1, h2⟩ := Bool.and_eq_true_iff.1 hd
    obtain rfl := of_decide_eq_true h1
    obtain rfl := of_decide_eq_true h2
    show RelP _ (orR _ _)
    rw [or_none (h z.Tag z.N) hS hn]
    exact h z.Tag z.N
  | false => exact h t n
theorem ws_len (l : List R45) (i : Nat) (t n : Int) : (wsF l i t n).length ≤ 10 * i := by
  have key : ∀ (xs : List R45) (was : List Int), (xs.foldl (stF t n) was).length ≤ was.length + 10 * xs.length := by
    intro xs
    induction xs with
    | nil => intro was; exact Nat.le_refl _
    | cons z xs ih =>
      intro was
      have h1 := ih (stF t n was z)
      have h2 : (stF t n was z).length ≤ was.length + 10 := by
        rw [st_eq]
        have h3 := orR_len (ofR (z.L.take 10)) was
        have h4 := ofR_len2 (z.L.take 10)
        rw [List.length_take] at h4
        cases (decide (z.Tag = t) && decide (z.N = n))
        · show was.length ≤ _; omega
        · show (orR was (ofR (z.L.take 10))).length ≤ _; omega
      rw [List.foldl_cons, List.length_cons]
      omega
  have := key (l.take i) []
  rw [List.length_nil, List.length_take] at this
  unfold wsF
  rw [Int.toNat_natCast]
  omega
end Go.Proofs.YtmcflglkfgnbbaaDoor.Bt

/- Facts: the law's rounds. -/
namespace Go.Proofs.YtmcflglkfgnbbaaDoor.Bt
open Go Go.RowKit Go.Proofs.YtmcflglkfgnbbaaDoor.Eng Go.Proofs.YtmcflglkfgnbbaaDoor.Nd
set_option linter.unusedVariables false
set_option linter.unusedSimpArgs false
set_option maxRecDepth 20000
theorem round0F (c0 : LC U) (N : Nat) (l : List R45) (L : Fm) (i : Nat) (hi : i < l.length) (h40 : i < 40) (h : InvF l L i) : ∃ L', InvF l L' (i + 1) ∧ fnLoop X E6 an6 (lpL [(0, c0), (2, lc2F)]) Tryd.f6 0 N.succ (S0F l L i) = fnLoop X E6 an6 (lpL [(0, c0), (2, lc2F)]) Tryd.f6 0 N (S0F l L' ((i : Int) + 1)) := by
  obtain ⟨z, hz, hz2⟩ := getE (l := l) (v := (i : Int)) (by omega) (by omega)
  have hz3 : l[i]? = some z := hz2
  have e := r0F c0 N l L i
  have hM := rel_more (z.L.take 10)
  have hW := h z.Tag z.N
  have hS1 := fun S (hS : RelP S (ofR (z.L.take 10))) => inv_new h hz3 hS
  have hS2 := fun S (hS : RelP S (ofR (z.L.take 10))) hn => inv_same h hz3 hS hn
  have lM := ofR_len2 (z.L.take 10)
  rw [List.length_take] at lM
  have lW := ws_len l i z.Tag z.N
  have k1 : P2F l i [] 0 := ⟨⟨by omega, by omega, by omega⟩, rfl, rfl⟩
  have k2 : Pl (z.L.take 10).length := by rw [List.length_take]; unfold Pl; omega
  have k3 : Pl (ofR (z.L.take 10)).length := by unfold Pl; omega
  have k4 : PSs (ofR (z.L.take 10)).length (wsF l i z.Tag z.N).length := ⟨by omega, by omega⟩
  have k5 : PSo (wsF l i z.Tag z.N).length (ofR (z.L.take 10)).length := by unfold PSo; omega
  rw [decide_eq_true (by omega), cond_true, decide_eq_true (by omega), cond_true, hz, Option.bind_some, if_pos k1, cut10, Option.bind_some, if_pos k2, if_pos k3, wr (a := (i : Int) + 1) (by omega) (by omega)] at e
  simp only [k4, k5, if_true] at e
  generalize ofR (z.L.take 10) = M at *
  generalize ofP M = S at *
  have fin : ∀ S', S' = S → ∃ L', InvF l L' (i + 1) ∧ (if POk2 S' (gtF L z.Tag z.N) then cond (nwF L z.Tag z.N S')
      (cond (!false == decide (0 < ((lessR M (wsF l i z.Tag z.N)).length : Int))) (some (Exit.ret, (mkS 102 [(2, TV.v (Value.bool false))] [] 0 : TS U))) (if PWith (gtF L z.Tag z.N) then (if PSz (numsR (gtF L z.Tag z.N)).length then cond (!eqI (numsR (gtF L z.Tag z.N)) (orR (wsF l i z.Tag z.N) M)) (some (Exit.ret, mkS 102 [(2, TV.v (Value.bool false))] [] 0)) (fnLoop X E6 an6 (lpL [(0, c0), (2, lc2F)]) Tryd.f6 0 N (S0F l L ((i : Int) + 1))) else none) else none))
      (cond (!true == decide (0 < ((lessR M (wsF l i z.Tag z.N)).length : Int))) (some (Exit.ret, mkS 102 [(2, TV.v (Value.bool false))] [] 0)) (if PWith (gtF (jnF L z.Tag z.N S') z.Tag z.N) then (if PSz (numsR (gtF (jnF L z.Tag z.N S') z.Tag z.N)).length then cond (!eqI (numsR (gtF (jnF L z.Tag z.N S') z.Tag z.N)) (orR (wsF l i z.Tag z.N) M)) (some (Exit.ret, mkS 102 [(2, TV.v (Value.bool false))] [] 0)) (fnLoop X E6 an6 (lpL [(0, c0), (2, lc2F)]) Tryd.f6 0 N (S0F l (jnF L z.Tag z.N S') ((i : Int) + 1))) else none) else none)) else none) =
      fnLoop X E6 an6 (lpL [(0, c0), (2, lc2F)]) Tryd.f6 0 N (S0F l L' ((i : Int) + 1)) := by
    rintro S' rfl
    have q := nw_less hW hM
    have hJ : RelP (gtF (jnF L z.Tag z.N S') z.Tag z.N) (orR (wsF l i z.Tag z.N) M) := by
      rw [gt_jn, decide_eq_true rfl, decide_eq_true rfl]
      exact or_rel hW hM
    have z1 : PSz (numsR (gtF L z.Tag z.N)).length := by
      rw [nums_rel hW]; unfold PSz; omega
    have z2 : PSz (numsR (gtF (jnF L z.Tag z.N S') z.Tag z.N)).length := by
      have := orR_len M (wsF l i z.Tag z.N)
      rw [nums_rel hJ]; unfold PSz; omega
    rw [if_pos (show POk2 S' (gtF L z.Tag z.N) from ⟨hM.1, hW.1⟩), if_pos (show PWith (gtF L z.Tag z.N) from hW.1), if_pos (show PWith (gtF (jnF L z.Tag z.N S') z.Tag z.N) from hJ.1), if_pos z1, if_pos z2, nums_rel hW, nums_rel hJ]
    have hself : ∀ x : List Int, eqI x x = true := fun x => decide_eq_true rfl
    by_cases h0 : ((lessR M (wsF l i z.Tag z.N)).length : Int) = 0
    · have hnil : lessR M (wsF l i z.Tag z.N) = [] := List.eq_nil_of_length_eq_zero (by omega)
      rw [q, decide_eq_true h0, cond_true, decide_eq_false (by omega), or_none hW hM hnil, hself]
      exact ⟨L, hS2 S' hM hnil, rfl⟩
    · rw [q, decide_eq_false h0, cond_false, decide_eq_true (by omega), hself]
      exact ⟨_, hS1 S' hM, rfl⟩
  have e2 : ∀ L', fnLoop X E6 an6 (lpL [(0, c0), (2, lc2F)]) Tryd.f6 0 N.succ (S0F l L i) = fnLoop X E6 an6 (lpL [(0, c0), (2, lc2F)]) Tryd.f6 0 N (S0F l L' ((i : Int) + 1)) → fnLoop X E6 an6 (lpL [(0, c0), (2, lc2F)]) Tryd.f6 0 N.succ (S0F l L i) = fnLoop X E6 an6 (lpL [(0, c0), (2, lc2F)]) Tryd.f6 0 N (S0F l L' ((i : Int) + 1)) := fun _ h => h
  cases S with
  | nil =>
    obtain ⟨L', h1, h2⟩ := fin [] rfl
    refine ⟨L', h1, e.trans ?_⟩
    rw [← h2]
    rfl
  | cons p S =>
    obtain ⟨L', h1, h2⟩ := fin (p :: S) rfl
    refine ⟨L', h1, e.trans ?_⟩
    rw [← h2]
    rfl
end Go.Proofs.YtmcflglkfgnbbaaDoor.Bt

/- Facts: the law's function is true. -/
namespace Go.Proofs.YtmcflglkfgnbbaaDoor.Bt
open Go Go.RowKit Go.Proofs.YtmcflglkfgnbbaaDoor.Eng Go.Proofs.YtmcflglkfgnbbaaDoor.Nd
set_option linter.unusedVariables false
set_option linter.unusedSimpArgs false
set_option maxRecDepth 20000
def Z6F : TS U := mkS 102 [] [] 0
theorem rounds0F (c0 : LC U) (l : List R45) : ∀ (m i : Nat) (L : Fm), i + m = min l.length 40 → InvF l L i → ∃ N, fnLoop X E6 an6 (lpL [(0, c0), (2, lc2F)]) Tryd.f6 0 N (S0F l L i) = some (.exit 0, Z6F) := by
  intro m
  induction m with
  | zero =>
    intro i L hi h
    refine ⟨1, (r0F c0 0 l L i).trans ?_⟩
    by_cases h1 : i < l.length
    · rw [decide_eq_true (by omega), cond_true, decide_eq_false (by omega)]
      rfl
    · rw [decide_eq_false (by omega)]
      rfl
  | succ m ih =>
    intro i L hi h
    obtain ⟨L', h1, _⟩ := round0F c0 0 l L i (by omega) (by omega) h
    have key : ∀ N, ∃ L', InvF l L' (i + 1) ∧ fnLoop X E6 an6 (lpL [(0, c0), (2, lc2F)]) Tryd.f6 0 (N + 1) (S0F l L i) = fnLoop X E6 an6 (lpL [(0, c0), (2, lc2F)]) Tryd.f6 0 N (S0F l L' ((i : Int) + 1)) := fun N => round0F c0 N l L i (by omega) (by omega) h
    have fuel : ∀ (m i : Nat) (L : Fm), i + m = min l.length 40 → InvF l L i → fnLoop X E6 an6 (lpL [(0, c0), (2, lc2F)]) Tryd.f6 0 (m + 1) (S0F l L i) = some (.exit 0, Z6F) := by
      intro m
      induction m with
      | zero =>
        intro i L hi h
        refine (r0F c0 0 l L i).trans ?_
        by_cases h1 : i < l.length
        · rw [decide_eq_true (by omega), cond_true, decide_eq_false (by omega)]
          rfl
        · rw [decide_eq_false (by omega)]
          rfl
      | succ m ihm =>
        intro i L hi h
        obtain ⟨L', h1, h2⟩ := round0F c0 (m + 1) l L i (by omega) (by omega) h
        exact h2.trans (ihm (i + 1) L' (by omega) h1)
    exact ⟨_, fuel (m + 1) i L hi h⟩
def P0F (L : Fm) (i : Int) : Prop := L = [] ∧ i = 0
noncomputable instance (L : Fm) (i : Int) : Decidable (P0F L i) := Classical.propDecidable _
def dl0F (s : TS U) : Option (List (R68 × R25) × List R45 × Int) := match told s 102 [0, 3, 4] 0, s.objs with
  | some [a0, a1, a2], [o0, o1] =>
    match o0 with
    | .cells [q0] false =>
      match q0 with
      | .mp 1 =>
        match o1 with
        | .mp .m_t68_t25 L false =>
          match a0 with
          | .lst .t45 l =>
            match a1 with
            | .ref 0 0 0 =>
              match a2 with
              | .v (.int .i64 i) =>
                some (L, l, i)
              | _ => none
            | _ => none
          | _ => none
        | _ => none
      | _ => none
    | _ => none
  | _, _ => none
theorem dl0F_ok {s : TS U} {L : List (R68 × R25)} {l : List R45} {i : Int} (h : dl0F s = some (L, l, i)) : s = mkS (U := U) 102 ([0, 3, 4].zip ([.lst .t45 l, .ref 0 0 0, .v (.int .i64 i)] : List (TV U))) ([.cells [.mp 1] false, .mp .m_t68_t25 L false] : List (TO U)) 0 := by
  unfold dl0F at h
  split at h <;> try (cases h; done)
  rename_i ht ho
  have hs := told_ok ht
  rw [ho] at hs
  repeat' split at h
  all_goals first | (cases h; done) | (cases h; exact hs)
noncomputable def lc0F : LC U := .of dl0F (fun (L, l, i) => P0F L i) (.exit 0) fun _ => Z6F
noncomputable def lp6F : Lp U := lpL [(0, lc0F), (2, lc2F)]
theorem lp6F_ok : ∀ c, Tryd.f6.body = some c → LpOk X E6 an6 lp6F (loops c 0) := lpL_ok (by kernel_rfl) fun b L hm st p hs => by
  cases hm with
  | head =>
    obtain ⟨⟨L, l, i⟩, hx, ⟨rfl, rfl⟩, rfl⟩ := LC.of_some hs
    obtain rfl := dl0F_ok hx
    exact rounds0F lc0F l _ 0 [] (Nat.zero_add _) fun t n => relP_nil
  | tail _ hm => cases hm with
    | head =>
      obtain ⟨⟨L, t, n, xl, l, i, was, k⟩, hx, ⟨⟨h1, h2, h3⟩, rfl, rfl⟩, rfl⟩ := LC.of_some hs
      obtain rfl := dl2F_ok hx
      obtain ⟨j, rfl⟩ := Int.eq_ofNat_of_zero_le h1
      exact ⟨_, rounds2F _ l L j t n xl (by omega) (by omega) j 0 [] (Nat.zero_add _) (Nat.le_refl _)⟩
    | tail _ hm => cases hm
theorem e6F (l : List
  R45) : (evFn X E6 an6 lp6F Tryd.f6 [] [TV.lst C.t45 l] fun (o : List (TO X.U)) (v : TV X.U) => some (o, v)) =
  if P0F [] 0 then some ([], TV.v (Value.bool true)) else none := by kernel_rfl
def d6F (objs : List (TO U)) (args : List (TV U)) : Option (List R45) := match objs, args with
  | [], [a0] =>
    match a0 with
    | .lst .t45 l =>
      some l
    | _ => none
  | _, _ => none
theorem d6F_ok {objs : List (TO U)} {args : List (TV U)} {l : List R45} (h : d6F objs args = some l) : objs = [] ∧ args = [.lst .t45 l] := by
  unfold d6F at h
  repeat' split at h
  all_goals first | (cases h; done) | (cases h; exact ⟨rfl, rfl⟩)
noncomputable def sLaw6 : Spc U := .of d6F (fun _ => True) (fun _ => []) fun _ => .v (.bool true)
theorem sLaw6_ok : SpecOk Tryd.prog 6 sLaw6 := by
  refine fn_ok X_ok mixed E6_ok an6 lp6F Tryd.func6 (by kernel_rfl) (by kernel_rfl) lp6F_ok fun objs args l hx hp => ?_
  obtain ⟨rfl, rfl⟩ := d6F_ok hx
  exact (e6F l).trans (if_pos (show P0F [] 0 from ⟨rfl, rfl⟩))
theorem law6 (l : List R45) : HCall Tryd.prog 6 [] [.lst 3 (l.map encS_t45)] [] (.v (.bool true)) :=
  (sLaw6_ok.ok [] [.lst .t45 l] [] (.v (.bool true)) rfl rfl rfl rfl).1
end Go.Proofs.YtmcflglkfgnbbaaDoor.Bt

/- The table that is laid; the seat's facts for a row and its card. -/
namespace Go.Proofs.YtmcflglkfgnbbaaDoor.Bl
open Go Go.ChangeShapes Go.WideShapes Go.ChangeAt Go.RowKit Go.Proofs.YtmcflglkfgnbbaaDoor.Eng
set_option linter.unusedVariables false
theorem own : ownKnob Tryd.prog.godebug = none := by kernel_rfl
theorem gT : Tryd.prog.globalNamed "math/bits.deBruijn64tab" = some 0 := by kernel_rfl
theorem gTType : (Tryd.prog.globals[0]?).map (·.type) = some 69 := by kernel_rfl
theorem cells5 : Tryd.prog.cellsOf 5 = 1 := by kernel_rfl
theorem cells69 : Tryd.prog.cellsOf 69 = 64 := by kernel_rfl
abbrev laidL : List (String × DataW Unit) := [("math/bits.deBruijn64tab", Rows.laid_math_bits_deBruijn64tab)]
theorem door_met (os : Os) (args : Array Value) : laidMetH Tryd.prog laidL ((World.doorLaid Tryd.prog 400 os).forCall (fun _ _ => 0) ⟨#[], args, []⟩).memory :=
  laidMetH_of_parts3 (fuel := 8) (laidMet_of_run' 8 (by kernel_rfl) (by kernel_rfl)) (by kernel_rfl) (by kernel_rfl)
def tabz : List Int := tab0.toList.map fun v => match v with | .int _ n => n | _ => 0
theorem tabs_ok {W : World} (h : laidMetH Tryd.prog laidL W) : TabsOk (fun b => b = 0) W ∧ 0 < W.heap.size := by
  rw [MakeChecks.laidMetH_plain _ _ _ (by kernel_rfl)] at h
  have hL : laidMet Tryd.prog [("math/bits.deBruijn64tab", Lib.tabData .u8 tabz)] W := h
  have hT := Lib.tabIs_of_head gT gTType Tryd.underlying69 Tryd.underlying5 cells5 cells69 hL
  have hv : W.var? Tryd.prog "math/bits.deBruijn64tab" = some tab0 := hT
  have hc := fun i => World.var?_cell gT hv i
  have h0 : W.cell? ⟨0, 0, none⟩ = some (.int .u8 0) := hc 0
  cases hb : W.heap[0]? with
  | none => simp [World.cell?, hb] at h0
  | some o =>
    have hlt := (Array.getElem?_eq_some_iff.1 hb).1
    cases o with
    | cells cs T fr =>
      refine ⟨fun p hp => ?_, hlt⟩
      obtain rfl : p = (0, tab0) := by simpa [tabs] using hp
      refine ⟨rfl, cs, T, fr, hb, fun k v hk => ?_⟩
      have := (hc k).trans hk
      simpa [World.cell?, hb] using this
    | _ => simp [World.cell?, hb] at h0
theorem laidOut : laidOutB Tryd.prog = true := by kernel_rfl
/-- A law's call, by its contract: the table is laid; what is handed in is frozen. -/
theorem call_of {F : FuncId} {args : List SV} (key : HCall Tryd.prog F [] args [] (.v (.bool true))) (vs : List Value) (W : World) (h : laidMetH Tryd.prog laidL W) (hv : RepL ⟨fun _ => none, fun _ => 0, fun _ => 0, fun k => k < W.heap.size⟩ W.heap vs args) :
    Calls Tryd.prog F vs.toArray W fun e W' => e = .returned (.bool true) ∧ Below W.heap.size W W' := by
  obtain ⟨h1, h2⟩ := tabs_ok h
  refine (key ⟨fun _ => none, fun _ => 0, fun _ => 0, fun k => k < W.heap.size⟩ W vs ⟨fun p hp => ?_, fun k hk => hk, fun i o hi => by simp at hi, fun _ _ => rfl, fun i j o o' b hi => by simp at hi⟩ hv).mono fun e W' ⟨v, g', he, hv, hp⟩ => ?_
  · obtain ⟨hb, hr⟩ := h1 p hp
    exact ⟨by have hb : p.1 = 0 := hb; show p.1 < _; omega, hr⟩
  · obtain rfl := rep_v hv
    exact ⟨he, ⟨hp.os, hp.tape, hp.output, hp.hsize, fun k hk => hp.base k hk fun ⟨i, o, hi, _⟩ => by simp at hi⟩⟩
end Go.Proofs.YtmcflglkfgnbbaaDoor.Bl

/- Rows of records, read out of the data. -/
namespace Go.Proofs.YtmcflglkfgnbbaaDoor.Nd
open Go Go.ChangeShapes Go.WideShapes Go.ChangeAt Go.RowKit Go.Proofs.YtmcflglkfgnbbaaDoor.Eng
set_option linter.unusedVariables false
set_option linter.unusedSimpArgs false
theorem repR_of {α : Type} {H : Array Go.Obj} {L : List Value} {m : Nat} (enc : α → List SV) (g : Gh) (f : Nat → α) : ∀ (n k : Nat), (∀ j, k ≤ j → j < k + n → ((L.drop (j * m)).take m).length = m ∧ RepL g H ((L.drop (j * m)).take m) (enc (f j))) → RepR g H (L.drop (k * m)) m (((List.range' k n).map f).map enc)
  | 0, _, _ => .nil
  | n + 1, k, h => by
    obtain ⟨h1, h2⟩ := h k (Nat.le_refl k) (by omega)
    have := RepR.cons (rows := ((List.range' (k + 1) n).map f).map enc) h1 h2 (repR_of enc g f n (k + 1) fun j hj hj' => h j (by omega) (by omega))
    rw [show L.drop ((k + 1) * m) = (L.drop (k * m)).drop m by rw [List.drop_drop, Nat.succ_mul], List.take_append_drop] at this
    simpa [List.range'_succ] using this
/-- A row whose elements read, as a frozen list. -/
theorem rep_list {α : Type} {W : World} {a : Addr} {len cap m : Nat} (enc : α → List SV) (hm : 0 < m) (hl : len ≤ cap) (hpos : 0 < len) (z0 : α)
    (he : ∀ j, j < cap → ∃ cs' z, W.cells? 0 (a.add (j * m)) m = some cs' ∧ ∀ g, RepL g W.heap cs' (enc z)) :
    ∃ (b : Nat) (l : List α), b < W.heap.size ∧ l.length = len ∧ ∀ g : Gh, g.F b → Rep g W.heap (.slice (some a) len cap) (.lst m (l.map enc)) := by
  obtain ⟨f, hf⟩ : ∃ f : Nat → α, ∀ j, j < cap → ∃ cs', W.cells? 0 (a.add (j * m)) m = some cs' ∧ ∀ g, RepL g W.heap cs' (enc (f j)) := by
    refine ⟨fun j => if h : j < cap then (he j h).choose_spec.choose else z0, fun j hj => ?_⟩
    simp only [hj, ↓reduceDIte]
    exact ⟨_, (he j hj).choose_spec.choose_spec⟩
  obtain ⟨b, off, inner⟩ := a
  have hcell : ∀ j i, j < cap → i < m → ∃ v, W.cell? ((⟨b, off, inner⟩ : Addr).add (j * m + i)) = some v := fun j i hj hi => by
    obtain ⟨cs', h1, _⟩ := hf j hj
    obtain ⟨_, h2, h3⟩ := World.cells?_some h1
    have := h3 i hi
    rw [Addr.add_add] at this
    exact ⟨cs'[i]'(by omega), by rw [this, List.getElem?_eq_getElem (by omega)]⟩
  obtain ⟨v, h0⟩ := hcell 0 0 (by omega) hm
  have ha0 : (⟨b, off, inner⟩ : Addr).add (0 * m + 0) = ⟨b, off, inner⟩ := by unfold Addr.add; simp
  rw [ha0] at h0
  cases inner with
  | some i =>
    cases hb : W.heap[b]? with
    | none => simp [World.cell?, hb] at h0
    | some o => cases o <;> simp [World.cell?, hb] at h0
  | none =>
    cases hb : W.heap[b]? with
    | none => simp [World.cell?, hb] at h0
    | some o =>
      have hlt := (Array.getElem?_eq_some_iff.1 hb).1
      cases o with
      | cells cs T fr =>
        have hat : ∀ j i, j < cap → i < m → ∃ v, cs[off + (j * m + i)]? = some v := fun j i hj hi => by
          obtain ⟨v, hv⟩ := hcell j i hj hi
          rw [addr_add, cell_of hb] at hv
          exact ⟨v, hv⟩
        have hsz : off + cap * m ≤ cs.size := by
          obtain ⟨v, hv⟩ := hat (cap - 1) (m - 1) (by omega) (by omega)
          have h1 := (Array.getElem?_eq_some_iff.1 hv).1
          have h2 : cap * m = (cap - 1) * m + m := by
            rw [← Nat.succ_mul, show (cap - 1).succ = cap by omega]
          omega
        refine ⟨b, (List.range len).map f, hlt, by simp, fun g hF => .lst (by simp) hF hb hl hsz ?_⟩
        have := repR_of (H := W.heap) (L := cs.toList.drop off) (m := m) enc g f len 0 fun j _ hj => by
          obtain ⟨cs', h1, h2⟩ := hf j (by omega)
          obtain ⟨_, h3, h4⟩ := World.cells?_some h1
          have heq : ((cs.toList.drop off).drop (j * m)).take m = cs' := by
            apply List.ext_getElem?
            intro i
            rcases Nat.lt_or_ge i m with hi | hi
            · rw [List.getElem?_take_of_lt hi, List.getElem?_drop, List.getElem?_drop, Array.getElem?_toList, ← h4 i hi, Addr.add_add, addr_add, cell_of hb]
            · rw [List.getElem?_eq_none (by rw [List.length_take]; omega), List.getElem?_eq_none (by omega)]
          rw [heq]
          exact ⟨h3, h2 g⟩
        rw [Nat.zero_mul, List.drop_zero, ← List.range_eq_range'] at this
        exact this
      | _ => simp [World.cell?, hb] at h0
/-- What is told of the rows of a []struct out of the data, by what is told of one element. -/
theorem open_list {α : Type} {H : Type} {e : TypeId × Value → H} {P : Program} {W : World} {m T E : Nat} {cs : List Value} {x : DataW H × List MemPlace} (enc : α → List SV) (z0 : α) (hT : P.underlying T = some (.slice E)) (hpos : 0 < P.cellsOf E)
    (h : DataW.trod e P W 0 (fun _ => true) true m T cs = some x) (hel : ∀ n cs' y, DataW.trod e P W 0 (fun _ => true) true n E cs' = some y → ∃ z : α, ∀ g, RepL g W.heap cs' (enc z)) :
    ∃ (v : Value) (l : List α), cs = [v] ∧ Rep ⟨fun _ => none, fun _ => 0, fun _ => 0, fun k => k < W.heap.size⟩ W.heap v (.lst (P.cellsOf E) (l.map enc)) := by
  rcases DataW.trod_slice hT h with ⟨h0, _⟩ | ⟨a, len, cap, elems, rest, n, _, rfl, _, hb, hl, hm, hlen, hE, hsp, _⟩
  · exact ⟨_, [], h0, .nil⟩
  rcases Nat.eq_zero_or_pos len with h00 | hlp
  · subst h00
    exact ⟨_, [], rfl, .nil⟩
  obtain ⟨hrl, hr⟩ := hsp rfl
  obtain ⟨b, l, hlt, _, hrep⟩ := rep_list (W := W) (a := a) (len := len) (cap := cap) enc hpos hl hlp z0 fun j hj => by
    have hy : ∃ y, (W.cells? 0 (a.add (j * P.cellsOf E)) (P.cellsOf E)).bind (DataW.trod e P W 0 (fun _ => true) true n E) = some y := by
      by_cases hi : j < len
      · rw [hE _ hi]
        exact ⟨_, List.getElem?_eq_getElem (by omega)⟩
      · have := hr (j - len) (by omega)
        rw [show len + (j - len) = j by omega] at this
        rw [this]
        exact ⟨_, List.getElem?_eq_getElem (by omega)⟩
    obtain ⟨y, hy⟩ := hy
    rw [Option.bind_eq_some_iff] at hy
    obtain ⟨cs', hcs, hy⟩ := hy
    obtain ⟨z, hz⟩ := hel _ _ _ hy
    exact ⟨cs', z, hcs, hz⟩
  exact ⟨_, l, rfl, hrep _ hlt⟩
end Go.Proofs.YtmcflglkfgnbbaaDoor.Nd

/- Rows of records that hold rows, read out of the data. -/
namespace Go.Proofs.YtmcflglkfgnbbaaDoor.Nd
open Go Go.ChangeShapes Go.WideShapes Go.ChangeAt Go.RowKit Go.Proofs.YtmcflglkfgnbbaaDoor.Eng
set_option linter.unusedVariables false
set_option linter.unusedSimpArgs false
/-- A row whose elements read, as a frozen list. -/
theorem rep_listG (g0 : Gh) {α : Type} {W : World} {a : Addr} {len cap m : Nat} (enc : α → List SV) (hm : 0 < m) (hl : len ≤ cap) (hpos : 0 < len) (z0 : α)
    (he : ∀ j, j < cap → ∃ cs' z, W.cells? 0 (a.add (j * m)) m = some cs' ∧ RepL g0 W.heap cs' (enc z)) :
    ∃ (b : Nat) (l : List α), b < W.heap.size ∧ l.length = len ∧ (g0.F b → Rep g0 W.heap (.slice (some a) len cap) (.lst m (l.map enc))) := by
  obtain ⟨f, hf⟩ : ∃ f : Nat → α, ∀ j, j < cap → ∃ cs', W.cells? 0 (a.add (j * m)) m = some cs' ∧ RepL g0 W.heap cs' (enc (f j)) := by
    refine ⟨fun j => if h : j < cap then (he j h).choose_spec.choose else z0, fun j hj => ?_⟩
    simp only [hj, ↓reduceDIte]
    exact ⟨_, (he j hj).choose_spec.choose_spec⟩
  obtain ⟨b, off, inner⟩ := a
  have hcell : ∀ j i, j < cap → i < m → ∃ v, W.cell? ((⟨b, off, inner⟩ : Addr).add (j * m + i)) = some v := fun j i hj hi => by
    obtain ⟨cs', h1, _⟩ := hf j hj
    obtain ⟨_, h2, h3⟩ := World.cells?_some h1
    have := h3 i hi
    rw [Addr.add_add] at this
    exact ⟨cs'[i]'(by omega), by rw [this, List.getElem?_eq_getElem (by omega)]⟩
  obtain ⟨v, h0⟩ := hcell 0 0 (by omega) hm
  have ha0 : (⟨b, off, inner⟩ : Addr).add (0 * m + 0) = ⟨b, off, inner⟩ := by unfold Addr.add; simp
  rw [ha0] at h0
  cases inner with
  | some i =>
    cases hb : W.heap[b]? with
    | none => simp [World.cell?, hb] at h0
    | some o => cases o <;> simp [World.cell?, hb] at h0
  | none =>
    cases hb : W.heap[b]? with
    | none => simp [World.cell?, hb] at h0
    | some o =>
      have hlt := (Array.getElem?_eq_some_iff.1 hb).1
      cases o with
      | cells cs T fr =>
        have hat : ∀ j i, j < cap → i < m → ∃ v, cs[off + (j * m + i)]? = some v := fun j i hj hi => by
          obtain ⟨v, hv⟩ := hcell j i hj hi
          rw [addr_add, cell_of hb] at hv
          exact ⟨v, hv⟩
        have hsz : off + cap * m ≤ cs.size := by
          obtain ⟨v, hv⟩ := hat (cap - 1) (m - 1) (by omega) (by omega)
          have h1 := (Array.getElem?_eq_some_iff.1 hv).1
          have h2 : cap * m = (cap - 1) * m + m := by
            rw [← Nat.succ_mul, show (cap - 1).succ = cap by omega]
          omega
        refine ⟨b, (List.range len).map f, hlt, by simp, fun hF => .lst (by simp) hF hb hl hsz ?_⟩
        have := repR_of (H := W.heap) (L := cs.toList.drop off) (m := m) enc g0 f len 0 fun j _ hj => by
          obtain ⟨cs', h1, h2⟩ := hf j (by omega)
          obtain ⟨_, h3, h4⟩ := World.cells?_some h1
          have heq : ((cs.toList.drop off).drop (j * m)).take m = cs' := by
            apply List.ext_getElem?
            intro i
            rcases Nat.lt_or_ge i m with hi | hi
            · rw [List.getElem?_take_of_lt hi, List.getElem?_drop, List.getElem?_drop, Array.getElem?_toList, ← h4 i hi, Addr.add_add, addr_add, cell_of hb]
            · rw [List.getElem?_eq_none (by rw [List.length_take]; omega), List.getElem?_eq_none (by omega)]
          rw [heq]
          exact ⟨h3, h2⟩
        rw [Nat.zero_mul, List.drop_zero, ← List.range_eq_range'] at this
        exact this
      | _ => simp [World.cell?, hb] at h0
/-- What is told of the rows of a []struct out of the data, by what is told of one element. -/
theorem open_listG {α : Type} {H : Type} {e : TypeId × Value → H} {P : Program} {W : World} {m T E : Nat} {cs : List Value} {x : DataW H × List MemPlace} (enc : α → List SV) (z0 : α) (hT : P.underlying T = some (.slice E)) (hpos : 0 < P.cellsOf E)
    (h : DataW.trod e P W 0 (fun _ => true) true m T cs = some x) (hel : ∀ n cs' y, DataW.trod e P W 0 (fun _ => true) true n E cs' = some y → ∃ z : α, RepL ⟨fun _ => none, fun _ => 0, fun _ => 0, fun k => k < W.heap.size⟩ W.heap cs' (enc z)) :
    ∃ (v : Value) (l : List α), cs = [v] ∧ Rep ⟨fun _ => none, fun _ => 0, fun _ => 0, fun k => k < W.heap.size⟩ W.heap v (.lst (P.cellsOf E) (l.map enc)) := by
  rcases DataW.trod_slice hT h with ⟨h0, _⟩ | ⟨a, len, cap, elems, rest, n, _, rfl, _, hb, hl, hm, hlen, hE, hsp, _⟩
  · exact ⟨_, [], h0, .nil⟩
  rcases Nat.eq_zero_or_pos len with h00 | hlp
  · subst h00
    exact ⟨_, [], rfl, .nil⟩
  obtain ⟨hrl, hr⟩ := hsp rfl
  obtain ⟨b, l, hlt, _, hrep⟩ := rep_listG ⟨fun _ => none, fun _ => 0, fun _ => 0, fun k => k < W.heap.size⟩ (W := W) (a := a) (len := len) (cap := cap) enc hpos hl hlp z0 fun j hj => by
    have hy : ∃ y, (W.cells? 0 (a.add (j * P.cellsOf E)) (P.cellsOf E)).bind (DataW.trod e P W 0 (fun _ => true) true n E) = some y := by
      by_cases hi : j < len
      · rw [hE _ hi]
        exact ⟨_, List.getElem?_eq_getElem (by omega)⟩
      · have := hr (j - len) (by omega)
        rw [show len + (j - len) = j by omega] at this
        rw [this]
        exact ⟨_, List.getElem?_eq_getElem (by omega)⟩
    obtain ⟨y, hy⟩ := hy
    rw [Option.bind_eq_some_iff] at hy
    obtain ⟨cs', hcs, hy⟩ := hy
    obtain ⟨z, hz⟩ := hel _ _ _ hy
    exact ⟨cs', z, hcs, hz⟩
  exact ⟨_, l, rfl, hrep hlt⟩
end Go.Proofs.YtmcflglkfgnbbaaDoor.Nd


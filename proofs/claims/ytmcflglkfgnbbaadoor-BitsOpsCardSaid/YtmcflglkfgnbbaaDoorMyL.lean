/- Texts of this claim, put together: part 12. -/
import Derived.Test.YtmcflglkfgnbbaaDoorMyE
import Derived.Test.YtmcflglkfgnbbaaDoorMyJ
import Derived.Test.YtmcflglkfgnbbaaDoorMyK
/- What is in either: the contract. -/
namespace Go.Proofs.YtmcflglkfgnbbaaDoor.Bt
open Go Go.RowKit Go.Proofs.YtmcflglkfgnbbaaDoor.Eng Go.Proofs.YtmcflglkfgnbbaaDoor.Nd
set_option linter.unusedVariables false
set_option linter.unusedSimpArgs false
set_option maxRecDepth 20000
def OrP : List R54 → List R54 → List R54
  | [], T => T
  | p :: S, [] => p :: S
  | p :: S, q :: T => if p.At < q.At then p :: OrP S (q :: T) else if q.At < p.At then q :: OrP (p :: S) T else ⟨p.At, orW p.Bits q.Bits⟩ :: OrP S T
termination_by S T => S.length + T.length
theorem OrP_nil (S : List R54) : OrP S [] = S := by cases S <;> rw [OrP]
theorem rounds16 (lp : Lp U) (S T : List R54) (hS : S.length ≤ 100000) (hT : T.length ≤ 100000) : ∀ (m i k : Nat) (P : List R54), (S.length - i) + (T.length - k) = m → i ≤ S.length → k ≤ T.length → P.length ≤ i + k →
    ∃ N, fnLoop X E0 an16 lp Tryd.f16 0 N (S16 S T P i k) = some (.exit 0, Z16 (P ++ OrP (S.drop i) (T.drop k))) := by
  intro m
  induction m using Nat.strongRecOn with
  | _ m ih =>
    intro i k P hm hi hk hP
    have hp : (P.length + 1) * 16 ≤ 140737488355328 := by omega
    by_cases h1 : i < S.length
    · obtain ⟨z, hz, hz2⟩ := getE (l := S) (v := (i : Int)) (by omega) (by omega)
      have hz3 : S[i]? = some z := hz2
      by_cases h2 : k < T.length
      · obtain ⟨y, hy, hy2⟩ := getE (l := T) (v := (k : Int)) (by omega) (by omega)
        have hy3 : T[k]? = some y := hy2
        rw [dropG hz3, dropG hy3, OrP]
        by_cases h3 : z.At < y.At
        · obtain ⟨N, hN⟩ := ih (m - 1) (by omega) (i + 1) k (P ++ [z]) (by omega) (by omega) hk (by rw [List.length_append, List.length_singleton]; omega)
          refine ⟨N + 1, ?_⟩
          rw [r16, decide_eq_true (by omega), cond_true]
          unfold bd16 st16
          rw [decide_eq_false (by omega), cond_false, decide_eq_true (by omega), cond_true, hz, hy, Option.bind_some, Option.bind_some, decide_eq_true h3, cond_true, Option.bind_some, if_pos hp, if_pos h3, wr (a := (i : Int) + 1) (by omega) (by omega)]
          rw [List.append_assoc, dropG hy3] at hN
          exact hN
        · by_cases h4 : y.At < z.At
          · obtain ⟨N, hN⟩ := ih (m - 1) (by omega) i (k + 1) (P ++ [y]) (by omega) hi (by omega) (by rw [List.length_append, List.length_singleton]; omega)
            refine ⟨N + 1, ?_⟩
            rw [r16, decide_eq_true (by omega), cond_true]
            unfold bd16 st16
            rw [decide_eq_false (by omega), cond_false, decide_eq_true (by omega), cond_true, hz, hy, Option.bind_some, Option.bind_some, decide_eq_false h3, cond_false, decide_eq_false (by omega), cond_false, Option.bind_some, Option.bind_some, decide_eq_true h4, cond_true, Option.bind_some, if_pos hp, if_neg h3, if_pos h4, wr (a := (k : Int) + 1) (by omega) (by omega)]
            rw [List.append_assoc, dropG hz3] at hN
            exact hN
          · obtain ⟨N, hN⟩ := ih (m - 2) (by omega) (i + 1) (k + 1) (P ++ [⟨z.At, orW z.Bits y.Bits⟩]) (by omega) (by omega) (by omega) (by rw [List.length_append, List.length_singleton]; omega)
            refine ⟨N + 1, ?_⟩
            rw [r16, decide_eq_true (by omega), cond_true]
            unfold bd16 st16
            rw [decide_eq_false (by omega), cond_false, decide_eq_true (by omega), cond_true, hz, hy, Option.bind_some, Option.bind_some, decide_eq_false h3, cond_false, decide_eq_false (by omega), cond_false, Option.bind_some, Option.bind_some, decide_eq_false h4, cond_false, Option.bind_some, Option.bind_some, Option.bind_some, if_pos hp, if_neg h3, if_neg h4, wr (a := (k : Int) + 1) (by omega) (by omega), wr (a := (i : Int) + 1) (by omega) (by omega)]
            rw [List.append_assoc] at hN
            exact hN
      · rw [List.drop_eq_nil_of_le (show T.length ≤ k by omega), OrP_nil, dropG hz3]
        obtain ⟨N, hN⟩ := ih (m - 1) (by omega) (i + 1) k (P ++ [z]) (by omega) (by omega) hk (by rw [List.length_append, List.length_singleton]; omega)
        refine ⟨N + 1, ?_⟩
        rw [r16, decide_eq_true (by omega), cond_true]
        unfold bd16 st16
        rw [decide_eq_true (by omega), cond_true, hz, Option.bind_some, if_pos hp, wr (a := (i : Int) + 1) (by omega) (by omega)]
        rw [List.append_assoc, List.drop_eq_nil_of_le (show T.length ≤ k by omega), OrP_nil] at hN
        exact hN
    · rw [List.drop_eq_nil_of_le (show S.length ≤ i by omega), OrP]
      by_cases h2 : k < T.length
      · obtain ⟨y, hy, hy2⟩ := getE (l := T) (v := (k : Int)) (by omega) (by omega)
        have hy3 : T[k]? = some y := hy2
        rw [dropG hy3]
        obtain ⟨N, hN⟩ := ih (m - 1) (by omega) i (k + 1) (P ++ [y]) (by omega) hi (by omega) (by rw [List.length_append, List.length_singleton]; omega)
        refine ⟨N + 1, ?_⟩
        rw [r16, decide_eq_false (by omega), cond_false, decide_eq_true (by omega), cond_true]
        unfold bd16 st16
        rw [decide_eq_false (by omega), cond_false, decide_eq_false (by omega), cond_false, decide_eq_true (by omega), cond_true, hy, Option.bind_some, if_pos hp, wr (a := (k : Int) + 1) (by omega) (by omega)]
        rw [List.append_assoc, List.drop_eq_nil_of_le (show S.length ≤ i by omega), OrP] at hN
        exact hN
      · refine ⟨1, ?_⟩
        rw [r16, decide_eq_false (by omega), cond_false, decide_eq_false (by omega), cond_false, List.drop_eq_nil_of_le (show T.length ≤ k by omega), List.append_nil]
def Z16e : TS U := mkS 118 [(4, .ref 0 0 0), (5, nlv)] [.cells [nlv] false] 0
def Z16c (P : List R54) : TS U := mkS 118 [(4, .ref 0 0 0), (5, .full 1)] [.cells [nlv] false, .row .t54 P false] 0
theorem Z16_e {P : List R54} (h : P.isEmpty = true) : Z16 P = Z16e := by
  cases P with
  | nil => rfl
  | cons => cases h
theorem Z16_c {P : List R54} (h : P.isEmpty = false) : Z16 P = Z16c (cP P) := by
  cases P with
  | nil => cases h
  | cons => rfl
def dl16 (s : TS U) : Option (List R54 × List R54 × Int × Int) := match told s 118 [2, 3, 4, 5, 6, 7] 0, s.objs with
  | some [a0, a1, a2, a3, a4, a5], [o0, o1, o2] =>
    match o0 with
    | .cells [q0] false =>
      match q0 with
      | .lst .t54 S =>
        match o1 with
        | .cells [q1] false =>
          match q1 with
          | .lst .t54 T =>
            match o2 with
            | .cells [q2] false =>
              match q2 with
              | .v (.slice none 0 0) =>
                match a0 with
                | .ref 0 0 0 =>
                  match a1 with
                  | .ref 1 0 0 =>
                    match a2 with
                    | .ref 2 0 0 =>
                      match a3 with
                      | .v (.slice none 0 0) =>
                        match a4 with
                        | .v (.int .i64 i) =>
                          match a5 with
                          | .v (.int .i64 k) =>
                            some (S, T, i, k)
                          | _ => none
                        | _ => none
                      | _ => none
                    | _ => none
                  | _ => none
                | _ => none
              | _ => none
            | _ => none
          | _ => none
        | _ => none
      | _ => none
    | _ => none
  | _, _ => none
theorem dl16_ok {s : TS U} {S : List R54} {T : List R54} {i : Int} {k : Int} (h : dl16 s = some (S, T, i, k)) : s = mkS (U := U) 118 ([2, 3, 4, 5, 6, 7].zip ([.ref 0 0 0, .ref 1 0 0, .ref 2 0 0, .v (.slice none 0 0), .v (.int .i64 i), .v (.int .i64 k)] : List (TV U))) ([.cells [.lst .t54 S] false, .cells [.lst .t54 T] false, .cells [.v (.slice none 0 0)] false] : List (TO U)) 0 := by
  unfold dl16 at h
  split at h <;> try (cases h; done)
  rename_i ht ho
  have hs := told_ok ht
  rw [ho] at hs
  repeat' split at h
  all_goals first | (cases h; done) | (cases h; exact hs)
def Q16 (S T : List R54) (i k : Int) : Prop := POk2 S T ∧ i = 0 ∧ k = 0
noncomputable instance (S T : List R54) (i k : Int) : Decidable (Q16 S T i k) := Classical.propDecidable _
noncomputable def lc16 : LC U := .of2 dl16 (fun (S, T, i, k) => Q16 S T i k) (fun (S, T, i, k) => (OrP S T).isEmpty) (.exit 0) (fun _ => Z16e) (.exit 0) fun (S, T, i, k) => Z16c (cP (OrP S T))
noncomputable def lp16 : Lp U := lpL [(0, lc16)]
theorem lp16_ok : ∀ c, Tryd.f16.body = some c → LpOk X E0 an16 lp16 (loops c 0) := lpL_ok (by kernel_rfl) fun b L hm st p hs => by
  cases hm with
  | head =>
    obtain ⟨⟨S, T, i, k⟩, hx, ⟨⟨h1, h2⟩, rfl, rfl⟩, rfl⟩ := LC.of2_some hs
    obtain rfl := dl16_ok hx
    have hl1 := h1.len
    have hl2 := h2.len
    obtain ⟨N, hN⟩ := rounds16 lp16 S T (by omega) (by omega) _ 0 0 [] rfl (Nat.zero_le _) (Nat.zero_le _) (Nat.zero_le _)
    refine ⟨N, hN.trans ?_⟩
    rw [List.drop_zero, List.drop_zero, List.nil_append]
    dsimp only
    cases hq : (OrP S T).isEmpty with
    | true => rw [Z16_e hq]; rfl
    | false => rw [Z16_c hq]; rfl
  | tail _ hm => cases hm
theorem e16 (S : List
  R54) (T : List
  R54) : (evFn X E0 an16 lp16 Tryd.f16 [] [TV.agg [TV.lst C.t54 S], TV.agg [TV.lst C.t54 T]]
  fun (o : List (TO X.U)) (v : TV X.U) => some (o, v)) =
  if Q16 S T 0 0 then
  bif (OrP S T).isEmpty then some ([], TV.agg [TV.v (Value.slice none 0 0)])
  else some ([], TV.agg [@TV.lst U C.t54 (cP (OrP S T))])
else none := by kernel_rfl
end Go.Proofs.YtmcflglkfgnbbaaDoor.Bt

/- What is in both, in either, in the first one alone: the plain laws. -/
namespace Go.Proofs.YtmcflglkfgnbbaaDoor.Bt
open Go Go.RowKit Go.Proofs.YtmcflglkfgnbbaaDoor.Eng Go.Proofs.YtmcflglkfgnbbaaDoor.Nd
set_option linter.unusedVariables false
set_option linter.unusedSimpArgs false
set_option maxRecDepth 20000
noncomputable def sOrS0 : Spc U := .of2 dST (fun (S, T) => POk2 S T) (fun (S, T) => (OrP S T).isEmpty) (fun _ => []) (fun _ => .agg [nlv]) (fun _ => []) fun (S, T) => .agg [.lst .t54 (cP (OrP S T))]
theorem sOrS0_ok : SpecOk Tryd.prog 16 sOrS0 := by
  refine fn_ok2 X_ok mixed E0_ok an16 lp16 Tryd.func16 (by kernel_rfl) (by kernel_rfl) lp16_ok fun objs args x hx hp => ?_
  obtain ⟨S, T⟩ := x
  obtain ⟨rfl, rfl⟩ := dST_ok hx
  have hp : POk2 S T := hp
  refine (e16 S T).trans ?_
  rw [if_pos (show Q16 S T 0 0 from ⟨hp, rfl, rfl⟩)]
  dsimp only
  cases (OrP S T).isEmpty <;> rfl
noncomputable def sOrS1 : Spc U := .of dST (fun x => POk2 x.1 x.2) (fun _ => []) fun x => .agg [.lst .t54 (OrP x.1 x.2)]
theorem sOrS1_ok : SpecOk Tryd.prog 16 sOrS1 := SpecOk.lstW (P := fun x : List R54 × List R54 => OrP x.1 x.2) sOrS0_ok fun objs args x hx => by obtain ⟨S, T⟩ := x; exact (dST_ok hx).1
noncomputable def sOrS : Spc U := sOrS1.wkA [.a [.l .t54], .a [.l .t54]]
theorem sOrS_ok : SpecOk Tryd.prog 16 sOrS := sOrS1_ok.wkA _
/-! ### The lists -/
def InB (n : Int) : Prop := 0 ≤ n ∧ n < 1048576
theorem mem_rwR (l : List Int) (z n : Int) : n ∈ rwR l z ↔ n ∈ l ∨ (n = z ∧ InB z) := by
  unfold rwR InB
  by_cases h0 : z < 0
  · rw [decide_eq_true h0, Bool.true_or, Bool.true_or, cond_true]
    exact ⟨.inl, fun h => h.elim id fun h => by omega⟩
  · by_cases h1 : 1048576 ≤ z
    · rw [decide_eq_true h1, Bool.or_true, Bool.true_or, cond_true]
      exact ⟨.inl, fun h => h.elim id fun h => by omega⟩
    · rw [decide_eq_false h0, decide_eq_false h1, Bool.false_or, Bool.false_or]
      cases hm : memI l z with
      | true =>
        rw [cond_true]
        exact ⟨.inl, fun h => h.elim id fun h => by rw [h.1]; exact of_decide_eq_true hm⟩
      | false =>
        rw [cond_false, mem_insR]
        exact ⟨fun h => h.elim .inl fun h => .inr ⟨h, by omega⟩, fun h => h.elim .inl fun h => .inr h.1⟩
theorem mem_orR : ∀ (Y X : List Int) (n : Int), n ∈ orR X Y ↔ n ∈ X ∨ (n ∈ Y ∧ InB n)
  | [], X, n => by unfold orR; simp
  | z :: Y, X, n => by
    have := mem_orR Y (rwR X z) n
    unfold orR at this ⊢
    rw [List.foldl_cons, this, mem_rwR, List.mem_cons]
    constructor
    · rintro ((h | ⟨rfl, h⟩) | h)
      · exact .inl h
      · exact .inr ⟨.inl rfl, h⟩
      · exact .inr ⟨.inr h.1, h.2⟩
    · rintro (h | ⟨rfl | h, h2⟩)
      · exact .inl (.inl h)
      · exact .inl (.inr ⟨rfl, h2⟩)
      · exact .inr ⟨h, h2⟩
theorem rel_fold : ∀ (Y : List Int) {S : List R54} {X : List Int}, RelP S X → ∃ S', RelP S' (orR X Y)
  | [], S, X, h => ⟨S, h⟩
  | z :: Y, S, X, h => rel_fold Y (relP_with h z)
/-! ### Has, by parts -/
theorem has_ex {ps : List R54} (h : OkP ps) {n : Int} : hasP ps n = true ↔ ∃ p ∈ ps, n / 64 = p.At ∧ p.Bits.toNat.testBit (n % 64).toNat = true := by rw [← nums_has h, mem_nums]
theorem has_btA (T : List R54) (n : Int) : hasP T n = (btA T (n / 64)).toNat.testBit (n % 64).toNat := by
  unfold hasP btA bitP
  cases T[rkP T (n / 64)]? with
  | none =>
    show false = _
    exact (Nat.zero_testBit _).symm
  | some q =>
    dsimp only
    cases decide (q.At = n / 64) with
    | true => rfl
    | false =>
      rw [Bool.false_and, cond_false]
      exact (Nat.zero_testBit _).symm
theorem mem_pick {M : Int → Int → Int} {S T : List R54} {r : R54} : r ∈ (S.filterMap fun p => cond (decide (M p.Bits (btA T p.At) = 0)) none (some (⟨p.At, M p.Bits (btA T p.At)⟩ : R54))) ↔ ∃ p ∈ S, M p.Bits (btA T p.At) ≠ 0 ∧ r = ⟨p.At, M p.Bits (btA T p.At)⟩ := by
  rw [List.mem_filterMap]
  constructor
  · rintro ⟨p, hp, h⟩
    cases hd : decide (M p.Bits (btA T p.At) = 0) with
    | true => rw [hd] at h; cases h
    | false =>
      rw [hd] at h
      cases h
      exact ⟨p, hp, of_decide_eq_false hd, rfl⟩
  · rintro ⟨p, hp, h1, rfl⟩
    exact ⟨p, hp, by rw [decide_eq_false h1]; rfl⟩
theorem pick_rel {M : Int → Int → Int} {S T : List R54} {X Z : List Int} (g : Bool → Bool → Bool) (hS : RelP S X) (hM : ∀ a b : Int, B64 a → B64 b → B64 (M a b) ∧ ∀ j, j < 64 → (M a b).toNat.testBit j = g (a.toNat.testBit j) (b.toNat.testBit j)) (hT : OkP T) (hg : ∀ b, g false b = false)
    (hZ : Z.Pairwise (· < ·)) (hZX : ∀ n ∈ Z, n ∈ X) (hm : ∀ n, n ∈ X → (n ∈ Z ↔ g true (hasP T n) = true)) :
    RelP (S.filterMap fun p => cond (decide (M p.Bits (btA T p.At) = 0)) none (some (⟨p.At, M p.Bits (btA T p.At)⟩ : R54))) Z := by
  obtain ⟨h1, h2, h3, h4⟩ := hS
  have hb : ∀ p ∈ S, B64 p.Bits := fun p hp => ⟨by have := (h1.2 p hp).2.1; omega, (h1.2 p hp).2.2⟩
  have hok : OkP (S.filterMap fun p => cond (decide (M p.Bits (btA T p.At) = 0)) none (some (⟨p.At, M p.Bits (btA T p.At)⟩ : R54))) := by
    refine ⟨?_, fun r hr => ?_⟩
    · unfold RiseP
      rw [List.pairwise_filterMap]
      refine h1.1.imp fun {a b} hab x hx y hy => ?_
      cases hd : decide (M a.Bits (btA T a.At) = 0) with
      | true => rw [hd] at hx; cases hx
      | false =>
        cases hd2 : decide (M b.Bits (btA T b.At) = 0) with
        | true => rw [hd2] at hy; cases hy
        | false =>
          rw [hd] at hx
          rw [hd2] at hy
          cases hx
          cases hy
          exact hab
    · obtain ⟨p, hp, hne, rfl⟩ := mem_pick.1 hr
      have := (hM p.Bits (btA T p.At) (hb p hp) (btA_lt hT _)).1
      exact ⟨(h1.2 p hp).1, by show 0 < M _ _; have := this.1; omega, this.2⟩
  refine ⟨hok, hZ, fun n hn => h3 n (hZX n hn), fun n hn => ?_⟩
  rw [has_ex hok]
  constructor
  · intro hz
    have hx := hZX n hz
    have hs := (h4 n hn).1 hx
    obtain ⟨p, hp, p1, p2⟩ := (has_ex h1).1 hs
    have hgt := (hm n hx).1 hz
    rw [has_btA, p1] at hgt
    have ht := (hM p.Bits (btA T p.At) (hb p hp) (btA_lt hT _)).2 (n % 64).toNat (by omega)
    rw [p2, hgt] at ht
    refine ⟨⟨p.At, M p.Bits (btA T p.At)⟩, mem_pick.2 ⟨p, hp, fun e => ?_, rfl⟩, p1, ht⟩
    rw [e] at ht
    have := Nat.zero_testBit (n % 64).toNat
    rw [show ((0 : Int).toNat) = 0 from rfl, this] at ht
    cases ht
  · rintro ⟨r, hr, r1, r2⟩
    obtain ⟨p, hp, hne, rfl⟩ := mem_pick.1 hr
    have r1 : n / 64 = p.At := r1
    have r2 : (M p.Bits (btA T p.At)).toNat.testBit (n % 64).toNat = true := r2
    have ht := (hM p.Bits (btA T p.At) (hb p hp) (btA_lt hT _)).2 (n % 64).toNat (by omega)
    rw [r2] at ht
    cases hpb : p.Bits.toNat.testBit (n % 64).toNat with
    | false => rw [hpb, hg] at ht; cases ht
    | true =>
      rw [hpb] at ht
      have hx := (h4 n hn).2 ((has_ex h1).2 ⟨p, hp, r1, hpb⟩)
      refine (hm n hx).2 ?_
      rw [has_btA, r1]
      exact ht.symm
theorem memI_has {T : List R54} {Y : List Int} (hT : RelP T Y) {n : Int} (hn : 0 ≤ n) : memI Y n = hasP T n := by
  have := hT.2.2.2 n hn
  unfold memI
  cases hh : hasP T n with
  | true => exact decide_eq_true (this.2 hh)
  | false => exact decide_eq_false fun hm => by rw [this.1 hm] at hh; cases hh
theorem and_rel {S T : List R54} {X Y : List Int} (hS : RelP S X) (hT : RelP T Y) : RelP (AndP S T) (andR X Y) := by
  refine pick_rel (M := andM) (fun a b => a && b) hS (fun a b ha hb => ?_) hT.1 (fun b => rfl) (hS.2.1.filter _) (fun n hn => (List.mem_filter.1 hn).1) fun n hn => ?_
  · have hlt : (a.toNat &&& b.toNat : Nat) ≤ a.toNat := Nat.and_le_left
    obtain ⟨ha0, ha1⟩ := ha
    refine ⟨⟨by unfold andM; omega, by unfold andM; omega⟩, fun j _ => ?_⟩
    unfold andM
    rw [Int.toNat_natCast, Nat.testBit_and]
  · unfold andR
    rw [List.mem_filter, memI_has hT (hS.2.2.1 n hn).1, Bool.true_and]
    exact ⟨fun h => h.2, fun h => ⟨hn, h⟩⟩
theorem less_rel {S T : List R54} {X Y : List Int} (hS : RelP S X) (hT : RelP T Y) : RelP (LessP S T) (lessR X Y) := by
  refine pick_rel (M := lessM) (fun a b => a && !b) hS (fun a b ha hb => ?_) hT.1 (fun b => rfl) (hS.2.1.filter _) (fun n hn => (List.mem_filter.1 hn).1) fun n hn => ?_
  · have hlt : Pu.andn a.toNat b.toNat ≤ a.toNat := Nat.and_le_left
    obtain ⟨ha0, ha1⟩ := ha
    obtain ⟨hb0, hb1⟩ := hb
    refine ⟨⟨by unfold lessM; omega, by unfold lessM; omega⟩, fun j hj => ?_⟩
    unfold lessM Pu.andn
    rw [Int.toNat_natCast, Nat.testBit_and, Pu.tb_compl b.toNat j (by omega), decide_eq_true hj, Bool.true_and]
  · unfold lessR
    rw [List.mem_filter, memI_has hT (hS.2.2.1 n hn).1, Bool.true_and]
    exact ⟨fun h => h.2, fun h => ⟨hn, h⟩⟩
end Go.Proofs.YtmcflglkfgnbbaaDoor.Bt

/- What is in either; one set has one row of parts. -/
namespace Go.Proofs.YtmcflglkfgnbbaaDoor.Bt
open Go Go.RowKit Go.Proofs.YtmcflglkfgnbbaaDoor.Eng Go.Proofs.YtmcflglkfgnbbaaDoor.Nd
set_option linter.unusedVariables false
set_option linter.unusedSimpArgs false
set_option maxRecDepth 20000
/-! ### One set has one row of parts -/
theorem sorted_eq {α : Type} {r : α → α → Prop} (hirr : ∀ a, ¬ r a a) (htr : ∀ a b c, r a b → r b c → r a c) : ∀ {l m : List α}, l.Pairwise r → m.Pairwise r → (∀ x, x ∈ l ↔ x ∈ m) → l = m
  | [], [], _, _, _ => rfl
  | [], y :: m, _, _, h => absurd ((h y).2 List.mem_cons_self) (by simp)
  | x :: l, [], _, _, h => absurd ((h x).1 List.mem_cons_self) (by simp)
  | x :: l, y :: m, hl, hm, h => by
    obtain ⟨l1, l2⟩ := List.pairwise_cons.1 hl
    obtain ⟨m1, m2⟩ := List.pairwise_cons.1 hm
    have exy : x = y := by
      rcases List.mem_cons.1 ((h x).1 List.mem_cons_self) with e | e
      · exact e
      · rcases List.mem_cons.1 ((h y).2 List.mem_cons_self) with e2 | e2
        · exact e2.symm
        · exact absurd (htr _ _ _ (l1 y e2) (m1 x e)) (hirr x)
    subst exy
    rw [sorted_eq hirr htr l2 m2 fun z => ⟨fun hz => (List.mem_cons.1 ((h z).1 (List.mem_cons_of_mem _ hz))).elim (fun e => absurd (l1 z hz) (by rw [e]; exact hirr x)) id, fun hz => (List.mem_cons.1 ((h z).2 (List.mem_cons_of_mem _ hz))).elim (fun e => absurd (m1 z hz) (by rw [e]; exact hirr x)) id⟩]
theorem bit_ex {b : Int} (h0 : 0 < b) (h1 : b < 18446744073709551616) : ∃ i, i < 64 ∧ bitP b i = true := by
  obtain ⟨b, rfl⟩ := Int.eq_ofNat_of_zero_le (Int.le_of_lt h0)
  have hb : b ≠ 0 := by omega
  obtain ⟨i, hi⟩ := Nat.exists_testBit_of_ne_zero hb
  refine ⟨i, ?_, hi⟩
  by_cases h : i < 64
  · exact h
  · exfalso
    have hlt : b < 2 ^ i := Nat.lt_of_lt_of_le (by omega : b < 2 ^ 64) (Nat.pow_le_pow_right (by decide) (by omega))
    rw [Nat.testBit_lt_two_pow hlt] at hi
    cases hi
theorem bits_eq {a b : Int} (ha : 0 < a ∧ a < 18446744073709551616) (hb : 0 < b ∧ b < 18446744073709551616) (h : ∀ i, i < 64 → bitP a i = bitP b i) : a = b := by
  obtain ⟨a, rfl⟩ := Int.eq_ofNat_of_zero_le (Int.le_of_lt ha.1)
  obtain ⟨b, rfl⟩ := Int.eq_ofNat_of_zero_le (Int.le_of_lt hb.1)
  congr 1
  apply Nat.eq_of_testBit_eq
  intro i
  by_cases hi : i < 64
  · exact h i hi
  · have h1 : ∀ c : Nat, c < 18446744073709551616 → c.testBit i = false := fun c hc => Nat.testBit_lt_two_pow (Nat.lt_of_lt_of_le (by omega : c < 2 ^ 64) (Nat.pow_le_pow_right (by decide) (by omega)))
    rw [h1 a (by omega), h1 b (by omega)]
theorem at_uniq {ps : List R54} (h : RiseP ps) {p q : R54} (hp : p ∈ ps) (hq : q ∈ ps) (e : p.At = q.At) : p = q := by
  obtain ⟨i, hi, rfl⟩ := List.mem_iff_getElem.1 hp
  obtain ⟨j, hj, rfl⟩ := List.mem_iff_getElem.1 hq
  have h1 := rk_at h (List.getElem?_eq_getElem hi)
  have h2 := rk_at h (List.getElem?_eq_getElem hj)
  rw [e] at h1
  have : i = j := by omega
  subst this
  rfl
theorem sub_of {ps qs : List R54} (h : OkP ps) (k : OkP qs) (he : ∀ n, 0 ≤ n → hasP ps n = hasP qs n) : ∀ p, p ∈ ps → p ∈ qs := fun p hp => by
  obtain ⟨⟨a0, a1⟩, b0, b1⟩ := h.2 p hp
  have at_ : ∀ i : Nat, i < 64 → (p.At * 64 + i) / 64 = p.At ∧ ((p.At * 64 + i) % 64).toNat = i := fun i hi => by omega
  obtain ⟨i, hi, hb⟩ := bit_ex b0 b1
  have h1 : hasP ps (p.At * 64 + i) = true := (has_iff h.1 _).2 ⟨p, hp, (at_ i hi).1.symm, by rw [(at_ i hi).2]; exact hb⟩
  rw [he _ (by omega)] at h1
  obtain ⟨q, hq, e1, e2⟩ := (has_iff k.1 _).1 h1
  rw [(at_ i hi).1] at e1
  obtain ⟨_, c0, c1⟩ := k.2 q hq
  have hbits : p.Bits = q.Bits := bits_eq ⟨b0, b1⟩ ⟨c0, c1⟩ fun j hj => by
    have hh := he (p.At * 64 + j) (by omega)
    have f : ∀ {rs : List R54}, RiseP rs → ∀ r ∈ rs, r.At = p.At → hasP rs (p.At * 64 + j) = bitP r.Bits j := fun {rs} hr r hrm hra => by
      apply Bool.eq_iff_iff.2
      rw [has_iff hr, (at_ j hj).1, (at_ j hj).2]
      constructor
      · rintro ⟨r', hr', e3, e4⟩
        rw [at_uniq hr hrm hr' (hra.trans e3.symm)]
        exact e4
      · intro e4
        exact ⟨r, hrm, hra, e4⟩
    rw [f h.1 p hp rfl, f k.1 q hq e1] at hh
    exact hh
  have : p = q := by
    cases p; cases q
    dsimp only at e1 hbits
    rw [e1, hbits]
  rw [this]
  exact hq
theorem parts_eq {ps qs : List R54} (h : OkP ps) (k : OkP qs) (he : ∀ n, 0 ≤ n → hasP ps n = hasP qs n) : ps = qs :=
  sorted_eq (r := fun a b : R54 => a.At < b.At) (fun a h => by omega) (fun a b c h1 h2 => by omega) h.1 k.1 fun p => ⟨sub_of h k he p, sub_of k h (fun n hn => (he n hn).symm) p⟩
theorem rel_uniq {ps qs : List R54} {l : List Int} (h : RelP ps l) (k : RelP qs l) : ps = qs :=
  parts_eq h.1 k.1 fun n hn => by
    apply Bool.eq_iff_iff.2
    rw [← h.2.2.2 n hn, ← k.2.2.2 n hn]

theorem orW_nat {a b : Int} (ha : B64 a) (hb : B64 b) : orW a b = ((a.toNat ||| b.toNat : Nat) : Int) := by
  obtain ⟨a0, a1⟩ := ha
  obtain ⟨b0, b1⟩ := hb
  obtain ⟨y, rfl⟩ : ∃ y : Nat, a = (y : Int) := ⟨a.toNat, by omega⟩
  obtain ⟨z, rfl⟩ : ∃ z : Nat, b = (z : Int) := ⟨b.toNat, by omega⟩
  unfold orW
  rw [Pu.or_k (by omega) (by omega)]
  rfl
theorem or_at : ∀ (S T : List R54), ∀ r ∈ OrP S T, (∃ p ∈ S, r.At = p.At) ∨ ∃ q ∈ T, r.At = q.At := by
  intro S T
  induction S, T using OrP.induct with
  | case1 T => intro r hr; rw [OrP] at hr; exact .inr ⟨r, hr, rfl⟩
  | case2 p S => intro r hr; rw [OrP] at hr; exact .inl ⟨r, hr, rfl⟩
  | case3 p S q T h ih =>
    intro r hr
    rw [OrP, if_pos h] at hr
    rcases List.mem_cons.1 hr with rfl | hr
    · exact .inl ⟨r, List.mem_cons_self, rfl⟩
    · exact (ih r hr).elim (fun ⟨x, h1, h2⟩ => .inl ⟨x, List.mem_cons_of_mem _ h1, h2⟩) .inr
  | case4 p S q T h h2 ih =>
    intro r hr
    rw [OrP, if_neg h, if_pos h2] at hr
    rcases List.mem_cons.1 hr with rfl | hr
    · exact .inr ⟨r, List.mem_cons_self, rfl⟩
    · exact (ih r hr).elim .inl fun ⟨x, h1, h2⟩ => .inr ⟨x, List.mem_cons_of_mem _ h1, h2⟩
  | case5 p S q T h h2 ih =>
    intro r hr
    rw [OrP, if_neg h, if_neg h2] at hr
    rcases List.mem_cons.1 hr with rfl | hr
    · exact .inl ⟨p, List.mem_cons_self, rfl⟩
    · exact (ih r hr).elim (fun ⟨x, h1, h2⟩ => .inl ⟨x, List.mem_cons_of_mem _ h1, h2⟩) fun ⟨x, h1, h2⟩ => .inr ⟨x, List.mem_cons_of_mem _ h1, h2⟩
def BdP (p : R54) : Prop := (0 ≤ p.At ∧ p.At < 16384) ∧ 0 < p.Bits ∧ p.Bits < 18446744073709551616
theorem BdP.b {p : R54} (h : BdP p) : B64 p.Bits := ⟨by have := h.2.1; omega, h.2.2⟩
def ExB (ps : List R54) (n : Int) : Prop := ∃ p ∈ ps, n / 64 = p.At ∧ p.Bits.toNat.testBit (n % 64).toNat = true
theorem exB_cons {p : R54} {ps : List R54} {n : Int} : ExB (p :: ps) n ↔ (n / 64 = p.At ∧ p.Bits.toNat.testBit (n % 64).toNat = true) ∨ ExB ps n := by
  unfold ExB
  simp
theorem or_all : ∀ (S T : List R54), RiseP S → RiseP T → (∀ p ∈ S, BdP p) → (∀ p ∈ T, BdP p) → RiseP (OrP S T) ∧ (∀ r ∈ OrP S T, BdP r) ∧ ∀ n, ExB (OrP S T) n ↔ ExB S n ∨ ExB T n := by
  intro S T
  induction S, T using OrP.induct with
  | case1 T => intro h1 h2 h3 h4; rw [OrP]; exact ⟨h2, h4, fun n => ⟨.inr, fun h => h.elim (fun ⟨_, h, _⟩ => by simp at h) id⟩⟩
  | case2 p S => intro h1 h2 h3 h4; rw [OrP]; exact ⟨h1, h3, fun n => ⟨.inl, fun h => h.elim id (fun ⟨_, h, _⟩ => by simp at h)⟩⟩
  | case3 p S q T h ih =>
    intro h1 h2 h3 h4
    obtain ⟨k1, k2⟩ := List.pairwise_cons.1 h1
    obtain ⟨l1, l2⟩ := List.pairwise_cons.1 h2
    obtain ⟨i1, i2, i3⟩ := ih k2 h2 (fun x hx => h3 x (List.mem_cons_of_mem _ hx)) h4
    rw [OrP, if_pos h]
    refine ⟨List.pairwise_cons.2 ⟨fun r hr => ?_, i1⟩, fun r hr => ?_, fun n => ?_⟩
    · rcases or_at _ _ r hr with ⟨x, hx, e⟩ | ⟨x, hx, e⟩
      · have := k1 x hx; omega
      · rcases List.mem_cons.1 hx with rfl | hx
        · omega
        · have := l1 x hx; omega
    · rcases List.mem_cons.1 hr with rfl | hr
      · exact h3 r List.mem_cons_self
      · exact i2 r hr
    · rw [exB_cons, i3 n, exB_cons (p := p) (ps := S), or_assoc]
  | case4 p S q T h h5 ih =>
    intro h1 h2 h3 h4
    obtain ⟨k1, k2⟩ := List.pairwise_cons.1 h1
    obtain ⟨l1, l2⟩ := List.pairwise_cons.1 h2
    obtain ⟨i1, i2, i3⟩ := ih h1 l2 h3 (fun x hx => h4 x (List.mem_cons_of_mem _ hx))
    rw [OrP, if_neg h, if_pos h5]
    refine ⟨List.pairwise_cons.2 ⟨fun r hr => ?_, i1⟩, fun r hr => ?_, fun n => ?_⟩
    · rcases or_at _ _ r hr with ⟨x, hx, e⟩ | ⟨x, hx, e⟩
      · rcases List.mem_cons.1 hx with rfl | hx
        · omega
        · have := k1 x hx; omega
      · have := l1 x hx; omega
    · rcases List.mem_cons.1 hr with rfl | hr
      · exact h4 r List.mem_cons_self
      · exact i2 r hr
    · rw [exB_cons, i3 n, exB_cons (ps := T)]
      exact ⟨fun h => h.elim (fun h => .inr (.inl h)) fun h => h.elim .inl fun h => .inr (.inr h), fun h => h.elim (fun h => .inr (.inl h)) fun h => h.elim .inl fun h => .inr (.inr h)⟩
  | case5 p S q T h h5 ih =>
    intro h1 h2 h3 h4
    obtain ⟨k1, k2⟩ := List.pairwise_cons.1 h1
    obtain ⟨l1, l2⟩ := List.pairwise_cons.1 h2
    obtain ⟨i1, i2, i3⟩ := ih k2 l2 (fun x hx => h3 x (List.mem_cons_of_mem _ hx)) (fun x hx => h4 x (List.mem_cons_of_mem _ hx))
    have hp := h3 p List.mem_cons_self
    have hq := h4 q List.mem_cons_self
    have e := orW_nat hp.b hq.b
    have hlt : (p.Bits.toNat ||| q.Bits.toNat) < 18446744073709551616 := Pu.or_lt (by have := hp.2; omega) (by have := hq.2; omega)
    have hge : p.Bits.toNat ≤ (p.Bits.toNat ||| q.Bits.toNat) := Nat.left_le_or
    rw [OrP, if_neg h, if_neg h5]
    refine ⟨List.pairwise_cons.2 ⟨fun r hr => ?_, i1⟩, fun r hr => ?_, fun n => ?_⟩
    · show p.At < r.At
      rcases or_at _ _ r hr with ⟨x, hx, e⟩ | ⟨x, hx, e⟩
      · have := k1 x hx; omega
      · have := l1 x hx; omega
    · rcases List.mem_cons.1 hr with rfl | hr
      · refine ⟨hp.1, ?_, ?_⟩
        · show 0 < orW _ _
          rw [e]
          have := hp.2.1
          omega
        · show orW _ _ < _
          rw [e]
          omega
      · exact i2 r hr
    · rw [exB_cons, i3 n, exB_cons, exB_cons]
      show (n / 64 = p.At ∧ (orW p.Bits q.Bits).toNat.testBit _ = true) ∨ _ ↔ _
      rw [e, Int.toNat_natCast, Nat.testBit_or, Bool.or_eq_true]
      have ea : p.At = q.At := by omega
      rw [← ea]
      constructor
      · rintro (⟨h6, h7 | h7⟩ | h6 | h6)
        · exact .inl (.inl ⟨h6, h7⟩)
        · exact .inr (.inl ⟨h6, h7⟩)
        · exact .inl (.inr h6)
        · exact .inr (.inr h6)
      · rintro ((h6 | h6) | h6 | h6)
        · exact .inl ⟨h6.1, .inl h6.2⟩
        · exact .inr (.inl h6)
        · exact .inl ⟨h6.1, .inr h6.2⟩
        · exact .inr (.inr h6)
theorem or_rel {S T : List R54} {X Y : List Int} (hS : RelP S X) (hT : RelP T Y) : RelP (OrP S T) (orR X Y) := by
  obtain ⟨S', hS'⟩ := rel_fold Y hS
  obtain ⟨h1, h2, h3⟩ := or_all S T hS.1.1 hT.1.1 hS.1.2 hT.1.2
  have hok : OkP (OrP S T) := ⟨h1, h2⟩
  refine ⟨hok, hS'.2.1, hS'.2.2.1, fun n hn => ?_⟩
  have ex : ExB (OrP S T) n ↔ hasP (OrP S T) n = true := (has_ex hok).symm
  have ex1 : ExB S n ↔ hasP S n = true := (has_ex hS.1).symm
  have ex2 : ExB T n ↔ hasP T n = true := (has_ex hT.1).symm
  rw [← ex, h3 n, ex1, ex2, mem_orR, ← hS.2.2.2 n hn, ← hT.2.2.2 n hn]
  exact ⟨fun h => h.elim .inl fun h => .inr h.1, fun h => h.elim .inl fun h => .inr ⟨h, hT.2.2.1 n h⟩⟩
theorem orP_comm {S T : List R54} {X Y : List Int} (hS : RelP S X) (hT : RelP T Y) : OrP S T = OrP T S := by
  have h1 := or_rel hS hT
  have h2 := or_rel hT hS
  have e : orR X Y = orR Y X := rise_ext h1.2.1 h2.2.1 fun n => by
    rw [mem_orR, mem_orR]
    exact ⟨fun h => h.elim (fun h => .inr ⟨h, hS.2.2.1 n h⟩) fun h => .inl h.1, fun h => h.elim (fun h => .inr ⟨h, hT.2.2.1 n h⟩) fun h => .inl h.1⟩
  rw [← e] at h2
  exact rel_uniq h1 h2
theorem eq_rel {S T : List R54} {X Y : List Int} (hS : RelP S X) (hT : RelP T Y) : eqP S T = eqI X Y := by
  unfold eqP eqI
  by_cases h : X = Y
  · subst h
    rw [decide_eq_true rfl]
    exact decide_eq_true (rel_uniq hS hT)
  · rw [decide_eq_false h]
    exact decide_eq_false fun e => h (by
      subst e
      rw [← nums_rel hS, ← nums_rel hT])
end Go.Proofs.YtmcflglkfgnbbaaDoor.Bt

/- A set is the document's list; the law's first words are run. -/
namespace Go.Proofs.YtmcflglkfgnbbaaDoor.Bt
open Go Go.RowKit Go.Proofs.YtmcflglkfgnbbaaDoor.Eng Go.Proofs.YtmcflglkfgnbbaaDoor.Nd
set_option linter.unusedVariables false
set_option linter.unusedSimpArgs false
set_option maxRecDepth 20000
theorem nums_none {ps : List R54} (h : OkP ps) : (ps.length : Int) = 0 ↔ ((numsR ps).length : Int) = 0 := by
  cases ps with
  | nil => exact ⟨fun _ => rfl, fun _ => rfl⟩
  | cons p ps =>
    have hb := (h.2 p List.mem_cons_self).2
    have hs := Bl.bitsL_step p.At (x := p.Bits.toNat) (by omega) (by rw [Pu.lt64]; omega)
    rw [numsR_cons, hs]
    simp
    omega
def PSm (ps : List R54) (l : List Int) : Prop := RelP ps l
noncomputable instance (ps : List R54) (l : List Int) : Decidable (PSm ps l) := Classical.propDecidable _
def d13 (objs : List (TO U)) (args : List (TV U)) : Option (List R54 × List Int) := match objs, args with
  | [], [a0, a1] =>
    match a0 with
    | .agg [q0] =>
      match q0 with
      | .lst .t54 ps =>
        match a1 with
        | .lst .i64 l =>
          some (ps, l)
        | _ => none
      | _ => none
    | _ => none
  | _, _ => none
theorem d13_ok {objs : List (TO U)} {args : List (TV U)} {ps : List R54} {l : List Int} (h : d13 objs args = some (ps, l)) : objs = [] ∧ args = [.agg [.lst .t54 ps], .lst .i64 l] := by
  unfold d13 at h
  repeat' split at h
  all_goals first | (cases h; done) | (cases h; exact ⟨rfl, rfl⟩)
noncomputable def sSm0 : Spc U := .of d13 (fun (ps, l) => PSm ps l) (fun _ => []) fun _ => .v (.bool true)
theorem sSm0_ok : SpecOk Tryd.prog 13 sSm0 := by
  refine fn_ok X_ok mixed E13_ok an0 lp0 Tryd.func13 (by kernel_rfl) (by kernel_rfl) (lp0_ok (by kernel_rfl)) fun objs args x hx hp => ?_
  obtain ⟨ps, l⟩ := x
  obtain ⟨rfl, rfl⟩ := d13_ok hx
  have hp : RelP ps l := hp
  have hn := nums_rel hp
  have hok := hp.1
  have hz := nums_none hok
  have hl : PSz (numsR ps).length := by
    have := len_nums ps
    have := hok.len
    unfold PSz
    omega
  refine (e13 ps l).trans ?_
  rw [if_pos (show PWith ps from hok), if_pos hl, if_pos (show PWith ps from hok), if_pos trivial]
  unfold mnI
  rw [hn] at hz ⊢
  have e1 : eqI l l = true := decide_eq_true rfl
  rw [e1, cond_true, decide_eq_true rfl, cond_true]
  have : decide ((ps.length : Int) = 0) = decide ((l.length : Int) = 0) := by
    congr 1
    exact propext hz
  rw [this, beq_self_eq_true]
noncomputable def sSm : Spc U := sSm0.wkA [.a [.l .t54], .l .i64]
theorem sSm_ok : SpecOk Tryd.prog 13 sSm := sSm0_ok.wkA _
/-! ### awake: it is run -/
def rb29 : Ann := ⟨fun _ => 0, fun _ => 0, fun _ => [], false⟩
def rb36 : Ann := ⟨fun | 0 => 460 | _ => 0, fun | 0 => 12 | _ => 0, fun _ => [], false⟩
def rb65 : Ann := ⟨fun _ => 0, fun _ => 0, fun _ => [], false⟩
def rb66 : Ann := ⟨fun | 0 => 904 | _ => 0, fun | 0 => 12 | _ => 0, fun _ => [], false⟩
def rb60 : Ann := ⟨fun _ => 0, fun _ => 0, fun _ => [], false⟩
def rb81 : Ann := ⟨fun _ => 0, fun _ => 0, fun _ => [], false⟩
def rb90 : Ann := ⟨fun | 0 => 1799 | _ => 0, fun | 0 => 967 | _ => 0, fun _ => [], false⟩
def rb91 : Ann := ⟨fun _ => 0, fun _ => 0, fun _ => [], false⟩
def rb82 : Ann := ⟨fun _ => 0, fun _ => 0, fun _ => [], false⟩
def rb85 : Ann := ⟨fun _ => 0, fun _ => 0, fun _ => [], false⟩
/-- One element put into a row. -/
def sInsC : Spc U := .of dNP (fun (ys, i) => ys.length = 1 ∧ i = 0) (fun (ys, i) => [.dead ys.length, .row .t54 ys false]) fun _ => .full 1
theorem sInsC_ok : SpecOk Tryd.prog 36 sInsC := by
  refine SpecOk.of sInsPN_ok fun objs args x hx hp => ?_
  obtain ⟨ys, i⟩ := x
  obtain ⟨h1, rfl⟩ := hp
  have h1 : ys.length = 1 := h1
  unfold sInsPN Spc.of
  dsimp only
  rw [hx]
  exact if_pos (show PreN ys.length 0 from ⟨h1, rfl⟩)
def sInsD : Spc U := .of dIP (fun (xs, ys, i) => ys.length = 1 ∧ xs.length ≤ 1000 ∧ 0 ≤ i ∧ i ≤ xs.length) (fun (xs, ys, i) => [.dead xs.length, .row .t54 ys false, .row .t54 (insL xs ys i) false]) fun _ => .full 2
theorem sInsD_ok : SpecOk Tryd.prog 36 sInsD := by
  refine SpecOk.of sInsP0_ok fun objs args x hx hp => ?_
  obtain ⟨xs, ys, i⟩ := x
  obtain ⟨h1, h2, h3, h4⟩ := hp
  unfold sInsP0 Spc.of
  dsimp only
  rw [hx]
  exact if_pos (show PreIns xs.length ys.length 16 i from ⟨h3, h4, h1, by omega⟩)
def Eaw : FuncId → Option (Spc U)
  | 36 => some (alt isNl sInsC sInsD)
  | _ => none
theorem Eaw_ok : ∀ f S, Eaw f = some S → SpecOk Tryd.prog f S := fun f S h => by
  unfold Eaw at h
  split at h
  · cases h; exact alt_ok sInsC_ok sInsD_ok
  · cases h
noncomputable def fsB : FuncId → Option (Func × Ann)
  | 9 => some (Tryd.f9, rb29)
  | 28 => some (Tryd.f28, rb36)
  | 11 => some (Tryd.f11, rb65)
  | 33 => some (Tryd.f33, rb66)
  | 10 => some (Tryd.f10, rb60)
  | 34 => some (Tryd.f34, rb81)
  | 43 => some (Tryd.f43, rb90)
  | 44 => some (Tryd.f44, rb91)
  | 35 => some (Tryd.f35, { rb82 with own := true })
  | 42 => some (Tryd.f42, rb85)
  | _ => none
theorem fsB_ok : ∀ f fn an, fsB f = some (fn, an) → Runs Tryd.prog f fn := fun f fn an h => by
  unfold fsB at h
  split at h
  · cases h; exact ⟨Tryd.func9, by kernel_rfl, by kernel_rfl, by kernel_rfl⟩
  · cases h; exact ⟨Tryd.func28, by kernel_rfl, by kernel_rfl, by kernel_rfl⟩
  · cases h; exact ⟨Tryd.func11, by kernel_rfl, by kernel_rfl, by kernel_rfl⟩
  · cases h; exact ⟨Tryd.func33, by kernel_rfl, by kernel_rfl, by kernel_rfl⟩
  · cases h; exact ⟨Tryd.func10, by kernel_rfl, by kernel_rfl, by kernel_rfl⟩
  · cases h; exact ⟨Tryd.func34, by kernel_rfl, by kernel_rfl, by kernel_rfl⟩
  · cases h; exact ⟨Tryd.func43, by kernel_rfl, by kernel_rfl, by kernel_rfl⟩
  · cases h; exact ⟨Tryd.func44, by kernel_rfl, by kernel_rfl, by kernel_rfl⟩
  · cases h; exact ⟨Tryd.func35, by kernel_rfl, by kernel_rfl, by kernel_rfl⟩
  · cases h; exact ⟨Tryd.func42, by kernel_rfl, by kernel_rfl, by kernel_rfl⟩
  · cases h
set_option maxHeartbeats 0 in
theorem e29 : evFn X (runE X Eaw fsB 60 3 20) rb29 lp0 Tryd.f9 [] [] (fun o v => some (o, v)) = some ([], .v (.bool true)) := by kernel_rfl
def d00 (objs : List (TO U)) (args : List (TV U)) : Option (Unit) := match objs, args with
  | [], [] =>
    some ()
  | _, _ => none
theorem d00_ok {objs : List (TO U)} {args : List (TV U)} (h : d00 objs args = some ()) : objs = [] ∧ args = [] := by
  unfold d00 at h
  repeat' split at h
  all_goals first | (cases h; done) | (cases h; exact ⟨rfl, rfl⟩)
def sAwk : Spc U := .of d00 (fun _ => True) (fun _ => []) fun _ => .v (.bool true)
theorem sAwk_ok : SpecOk Tryd.prog 9 sAwk := by
  refine fn_ok X_ok mixed (runE_ok (N := 60) (k := 3) X_ok mixed Eaw_ok fsB_ok 20) rb29 lp0 Tryd.func9 (by kernel_rfl) (by kernel_rfl) (lp0_ok (by kernel_rfl)) fun objs args x hx hp => ?_
  obtain ⟨rfl, rfl⟩ := d00_ok hx
  exact e29
end Go.Proofs.YtmcflglkfgnbbaaDoor.Bt


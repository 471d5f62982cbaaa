/- Texts of this claim, put together: part 14. -/
import Derived.ChangeSlices
import Derived.ChangeSame
import Derived.Lib.SmallJoins
import Derived.Below
import Derived.Test.YtmcflglkfgnbbaaMtH
import Derived.Test.YtmcflglkfgnbbaaMtM
/- A key that is set and taken away: the plain law. -/
namespace Go.Proofs.Ytmcflglkfgnbbaa.Nd
open Go Go.RowKit Go.Proofs.Ytmcflglkfgnbbaa.Eng
set_option linter.unusedVariables false
set_option linter.unusedSimpArgs false
theorem rk_at {ks : List ByteArray} {p : Nat} {x : ByteArray} (hs : Srt ks) (h : ks[p]? = some x) : rk ks x = p := by
  have h1 := rk_ge (k := x) h (lt_irr x)
  have hrl := rk_le ks x
  by_cases h2 : rk ks x < p
  · have hp := (List.getElem?_eq_some_iff.1 h)
    have hr : rk ks x < ks.length := by have := hp.1; omega
    have hlt := List.pairwise_iff_getElem.1 hs (rk ks x) p hr hp.1 h2
    rw [hp.2] at hlt
    have := rk_lt hs (List.getElem?_eq_getElem hr) hlt
    omega
  · omega
theorem isK_of {ks : List ByteArray} {p : Nat} {x : ByteArray} (hs : Srt ks) (h : ks[p]? = some x) : isK ks x = true := by
  unfold isK
  rw [rk_at hs h, h]
  simp
theorem delL_get {α : Type} (xs : List α) (r j : Nat) (hr : r < xs.length) : (delL xs (r : Int) ((r : Int) + 1))[j]? = if j < r then xs[j]? else xs[j + 1]? := by
  unfold delL
  rw [show ((r : Int) + 1).toNat = r + 1 by omega, Int.toNat_natCast]
  by_cases h : j < r
  · rw [if_pos h, List.getElem?_append_left (by rw [List.length_take]; omega), List.getElem?_take, if_pos h]
  · rw [if_neg h, List.getElem?_append_right (by rw [List.length_take]; omega), List.getElem?_drop, List.length_take]
    congr 1
    omega
theorem delL_srt {ks : List ByteArray} (hs : Srt ks) {r : Nat} (hr : r < ks.length) : Srt (delL ks (r : Int) ((r : Int) + 1)) := by
  unfold delL Srt
  rw [show ((r : Int) + 1).toNat = r + 1 by omega, Int.toNat_natCast, List.pairwise_append]
  refine ⟨hs.sublist (List.take_sublist _ _), hs.sublist (List.drop_sublist _ _), fun a ha b hb => ?_⟩
  obtain ⟨i, hi⟩ := List.mem_iff_getElem?.1 ha
  obtain ⟨j, hj⟩ := List.mem_iff_getElem?.1 hb
  rw [List.getElem?_take] at hi
  rw [List.getElem?_drop] at hj
  split at hi
  · have h1 := List.getElem?_eq_some_iff.1 hi
    have h2 := List.getElem?_eq_some_iff.1 hj
    have := List.pairwise_iff_getElem.1 hs i (r + 1 + j) h1.1 h2.1 (by omega)
    rw [h1.2, h2.2] at this
    exact this
  · cases hi
theorem insL_at {α : Type} (xs : List α) (y : α) {r : Nat} (h : r ≤ xs.length) : (insL xs [y] (r : Int))[r]? = some y := by
  unfold insL
  rw [Int.toNat_natCast, List.getElem?_append_right (by rw [List.length_take]; omega), List.length_take, Nat.min_eq_left h, Nat.sub_self]
  rfl
theorem del_ins {α : Type} (xs : List α) (y : α) {r : Nat} (h : r ≤ xs.length) : delL (insL xs [y] (r : Int)) (r : Int) ((r : Int) + 1) = xs := by
  unfold delL insL
  rw [show ((r : Int) + 1).toNat = r + 1 by omega, Int.toNat_natCast]
  have hl : (xs.take r).length = r := by rw [List.length_take]; omega
  rw [List.take_left' hl, List.singleton_append, show r + 1 = (xs.take r ++ [y]).length by rw [List.length_append, hl]; rfl]
  have e : xs.take r ++ y :: xs.drop r = (xs.take r ++ [y]) ++ xs.drop r := by simp
  rw [e, List.drop_left, List.take_append_drop]
section
variable {ks : List ByteArray} {vs : List R33} {c : ByteArray} {v : R33}
/-- What a key that was set has; what is left without it. -/
structure Set3 (ks : List ByteArray) (vs : List R33) (c : ByteArray) (v : R33) : Prop where
  pre : PreSet (sK ks c) (sV ks vs c v)
  has : Nd.isK (sK ks c) c = true
  at_ : (sV ks vs c v)[rk (sK ks c) c]? = some v
  pre2 : PreSet (uK (sK ks c) (sK ks c) c) (uK (sK ks c) (sV ks vs c v) c)
  no : Nd.isK (uK (sK ks c) (sK ks c) c) c = false
  left : ∀ (j : Nat) (x : ByteArray) (w : R33), (uK (sK ks c) (sK ks c) c)[j]? = some x → (uK (sK ks c) (sV ks vs c v) c)[j]? = some w → ∃ p : Nat, ks[p]? = some x ∧ vs[p]? = some w ∧ x ≠ c
theorem isK_mem {xs : List ByteArray} {x : ByteArray} (h : isK xs x = true) : ∃ p : Nat, xs[p]? = some x := ⟨_, isK_at h⟩
theorem set3 (h : PreSet ks vs) (hl : ks.length ≤ 999999) : Set3 ks vs c v := by
  have hpre := h.step (k := c) (v := v) hl
  have hr := rk_le ks c
  have hlen := h.1
  cases hi : isK ks c with
  | true =>
    have hlt := isK_lt hi
    have e1 : sK ks c = ks := by unfold sK; rw [hi]; rfl
    have e2 : sV ks vs c v = vs.set (rk ks c) v := by unfold sV; rw [hi]; rfl
    have e3 : uK ks ks c = delL ks (rk ks c) ((rk ks c : Int) + 1) := rfl
    have e4 : uK ks (vs.set (rk ks c) v) c = delL (vs.set (rk ks c) v) (rk ks c) ((rk ks c : Int) + 1) := rfl
    have hleft : ∀ (j : Nat) (x : ByteArray) (w : R33), (delL ks (rk ks c) ((rk ks c : Int) + 1))[j]? = some x → (delL (vs.set (rk ks c) v) (rk ks c) ((rk ks c : Int) + 1))[j]? = some w → ∃ p : Nat, ks[p]? = some x ∧ vs[p]? = some w ∧ x ≠ c := fun j x w hx hw => by
      rw [delL_get _ _ _ hlt] at hx
      rw [delL_get _ _ _ (by rw [List.length_set]; omega)] at hw
      have key : ∀ p : Nat, p ≠ rk ks c → ks[p]? = some x → (vs.set (rk ks c) v)[p]? = some w → ∃ p : Nat, ks[p]? = some x ∧ vs[p]? = some w ∧ x ≠ c := fun p hp h1 h2 => by
        rw [List.getElem?_set, if_neg (fun e => hp e.symm)] at h2
        exact ⟨p, h1, h2, fun e => hp (by rw [← e]; exact (rk_at h.2.2 h1).symm)⟩
      by_cases hj : j < rk ks c
      · rw [if_pos hj] at hx hw
        exact key j (by omega) hx hw
      · rw [if_neg hj] at hx hw
        exact key (j + 1) (by omega) hx hw
    refine ⟨hpre, by rw [e1]; exact hi, by rw [e1, e2, List.getElem?_set, if_pos rfl, if_pos (by omega)], ?_, ?_, ?_⟩
    · rw [e1, e2, e3, e4]
      exact ⟨by rw [delL_len _ hlt, delL_len _ (by rw [List.length_set]; omega), List.length_set, hlen], by rw [delL_len _ hlt]; have := h.2.1; omega, delL_srt h.2.2 hlt⟩
    · rw [e1, e3]
      cases hq : isK (delL ks (rk ks c) ((rk ks c : Int) + 1)) c with
      | false => rfl
      | true =>
        obtain ⟨p, hp⟩ := isK_mem hq
        have hpl := (List.getElem?_eq_some_iff.1 hp).1
        have hl2 : (delL (vs.set (rk ks c) v) (rk ks c) ((rk ks c : Int) + 1)).length = (delL ks (rk ks c) ((rk ks c : Int) + 1)).length := by rw [delL_len _ hlt, delL_len _ (by rw [List.length_set]; omega), List.length_set, hlen]
        obtain ⟨_, _, _, hne⟩ := hleft p c _ hp (List.getElem?_eq_getElem (by omega))
        exact (hne rfl).elim
    · rw [e1, e2, e3, e4]
      exact hleft
  | false =>
    have e1 : sK ks c = insL ks [c] (rk ks c) := by unfold sK; rw [hi]; rfl
    have e2 : sV ks vs c v = insL vs [v] (rk ks c) := by unfold sV; rw [hi]; rfl
    have hs := insL_srt h.2.2 hi
    have hat := insL_at ks c hr
    have hrk : rk (insL ks [c] (rk ks c)) c = rk ks c := rk_at hs hat
    have e3 : uK (insL ks [c] (rk ks c)) (insL ks [c] (rk ks c)) c = ks := by unfold uK; rw [hrk]; exact del_ins ks c hr
    have e4 : uK (insL ks [c] (rk ks c)) (insL vs [v] (rk ks c)) c = vs := by unfold uK; rw [hrk]; exact del_ins vs v (by omega)
    refine ⟨hpre, by rw [e1]; exact isK_of hs hat, by rw [e1, e2, hrk]; exact insL_at vs v (by omega), by rw [e1, e2, e3, e4]; exact h, by rw [e1, e3]; exact hi, ?_⟩
    rw [e1, e2, e3, e4]
    exact fun j x w hx hw => ⟨j, hx, hw, fun e => by rw [e] at hx; rw [isK_of h.2.2 hx] at hi; cases hi⟩
end
end Go.Proofs.Ytmcflglkfgnbbaa.Nd

/- A key has what it was given, and nothing when it was taken away: the function, put together. -/
namespace Go.Proofs.Ytmcflglkfgnbbaa.Nd
open Go Go.RowKit Go.Proofs.Ytmcflglkfgnbbaa.Eng
set_option linter.unusedVariables false
set_option linter.unusedSimpArgs false
theorem evC_to {c : Code} {b : Nat} {s T : TS U} (h : evC X Eh an3 lp3 c b s K1 = some T) {R : Type} (K : Exit → TS U → Option R) : evC X Eh an3 lp3 c b s K = K .normal T := by
  obtain ⟨ex, s', hk, hp⟩ := evC_path Eh_ok lpL_path h
  have : ex = .normal ∧ s' = T := by
    unfold K1 at hk
    split at hk
    · cases hk; exact ⟨rfl, rfl⟩
    · cases hk
  rw [← this.1, ← this.2]
  exact hp K
theorem vE_self (a : R33) : vE a a = true := by unfold vE; simp
theorem getI_nat {α : Type} {l : List α} {n : Nat} {x : α} (h : l[n]? = some x) : getI l (n : Int) = some x := by
  unfold getI
  rw [if_pos (by omega), Int.toNat_natCast, h]
section
variable {e : Bool} {ks : List ByteArray} {vs : List R33} {key : ByteArray} {v : R33}
theorem r8_ok (h : PreSet ks vs) (hl : ks.length ≤ 999999) (S : Set3 ks vs key v) : R8 ⟨e, ks, vs, key, v, sK ks key, sV ks vs key v⟩ (uK (sK ks key) (sK ks key) key) (uK (sK ks key) (sV ks vs key v) key) (atV (sK ks key) (sV ks vs key v) key) true (uK (sK ks key) (sK ks key) key) (uK (sK ks key) (sV ks vs key v) key) false =
    some (T8 ⟨e, ks, vs, key, v, sK ks key, sV ks vs key v⟩ (uK (sK ks key) (sK ks key) key) (uK (sK ks key) (sV ks vs key v) key)) := by
  obtain ⟨a1, a2, a3⟩ := S.pre2
  obtain ⟨b1, b2, b3⟩ := h
  have hv : atV (sK ks key) (sV ks vs key v) key = v := by unfold atV; rw [S.at_]; rfl
  have c1 : PreRf (uK (sK ks key) (sV ks vs key v) key).length := by show _ ≤ _; omega
  have c2 : PreRf vs.length := by show _ ≤ _; omega
  have hm : ∀ l : List R33, (l.map cvR).length = l.length := fun l => List.length_map _
  unfold R8
  dsimp only
  rw [hv, vE_self, if_pos c1, if_pos c1, if_pos (show P16 _ _ 0 from ⟨rfl, rfl, by show (uK (sK ks key) (sK ks key) key).length ≤ _; omega, by show ((uK (sK ks key) (sV ks vs key v) key).map cvR).length ≤ _; rw [hm]; exact c1, by show (0 : Nat) ≤ _; omega⟩), if_pos c2, if_pos c2,
    if_pos (show P16 _ _ 0 from ⟨rfl, rfl, by show ks.length ≤ _; omega, by show (vs.map cvR).length ≤ _; rw [hm]; exact c2, by show (0 : Nat) ≤ _; omega⟩)]
  rfl
theorem r10_ok (h : PreSet ks vs) (hl : ks.length ≤ 999999) (S : Set3 ks vs key v) : R10 ⟨e, ks, vs, key, v, sK ks key, sV ks vs key v⟩ (uK (sK ks key) (sK ks key) key) (uK (sK ks key) (sV ks vs key v) key) = some ([], .v (.bool true)) := by
  obtain ⟨a1, a2, a3⟩ := S.pre2
  obtain ⟨b1, b2, b3⟩ := h
  obtain ⟨c1, c2, c3⟩ := S.pre
  have hr := isK_lt S.has
  have hlen : (uK (sK ks key) (sK ks key) key).length = (sK ks key).length - 1 := delL_len _ hr
  have hw : IntKind.i64.wrap (((sK ks key).length : Int) - 1) = ((sK ks key).length : Int) - 1 := wr (by omega) (by omega)
  unfold R10
  dsimp only
  rw [if_pos ⟨by omega, c3⟩, S.has, getI_nat S.at_, hw, decide_eq_true (by omega)]
  simp only [Bool.not_true, cond_false, Option.bind_some, vE_self]
  rw [if_pos]
  refine ⟨Int.le_refl 0, a1, by omega, ⟨by omega, b3⟩, fun j x w hx hw => ?_⟩
  obtain ⟨p, h1, h2, h3⟩ := S.left j x w hx hw
  refine ⟨?_, isK_of b3 h1, by rw [rk_at b3 h1]; exact h2⟩
  cases hq : (x.toList == key.toList) with
  | false => rfl
  | true => exact (h3 (toList_inj (beq_iff_eq.1 hq))).elim
theorem q8_ok {r : Option (TS U)} : Q8 ⟨e, ks, vs, key, v, sK ks key, sV ks vs key v⟩ r = r := by
  unfold Q8 sOld
  dsimp only
  cases isK ks key <;> rfl
theorem c8_ok (h : PreSet ks vs) (hl : ks.length ≤ 999999) (S : Set3 ks vs key v) (he : e = true → ks = [] ∧ vs = []) : evC X Eh an3 lp3 C8 0 (T7 ⟨e, ks, vs, key, v, sK ks key, sV ks vs key v⟩ (uK (sK ks key) (sK ks key) key) (uK (sK ks key) (sV ks vs key v) key) (atV (sK ks key) (sV ks vs key v) key) true (uK (sK ks key) (sK ks key) key) (uK (sK ks key) (sV ks vs key v) key) false) K1 =
    some (T8 ⟨e, ks, vs, key, v, sK ks key, sV ks vs key v⟩ (uK (sK ks key) (sK ks key) key) (uK (sK ks key) (sV ks vs key v) key)) := by
  have hb : ∀ b : Bool, (!(b == b)) = false := fun b => by cases b <;> rfl
  cases e with
  | true =>
    obtain ⟨rfl, rfl⟩ := he rfl
    rw [p8n, hb, cond_false, show isK [] key = false from rfl, cond_false, q8_ok]
    exact r8_ok h hl S
  | false =>
    rw [p8c, hb, cond_false]
    cases hi : isK ks key with
    | true =>
      have hr := isK_lt hi
      obtain ⟨w, hw⟩ : ∃ w, vs[rk ks key]? = some w := ⟨_, List.getElem?_eq_getElem (by have := h.1; omega)⟩
      have ho : sOld ks vs key = w := by unfold sOld atV; rw [hi, hw]; rfl
      rw [cond_true, getI_nat hw, Option.bind_some, ho, vE_self, q8_ok]
      exact r8_ok h hl S
    | false =>
      rw [cond_false, q8_ok]
      exact r8_ok h hl S
theorem a3_ok {z : R24} (h : PreSet ks vs) (hl : ks.length ≤ 40) (he : e = true → ks = [] ∧ vs = []) : A3 lp3 (.seq (sL D6) (.seq (sL (sR D6)) D8)) (List (TO U) × TV U) K3 e ks vs z = some ([], .v (.bool true)) := by
  have S : Set3 ks vs (keyP z) (valP z) := set3 h (by omega)
  have h' := h
  obtain ⟨b1, b2, b3⟩ := h'
  have hk := (sK_len ks (keyP z)).1
  have hg : mkG e ks vs (keyP z) (valP z) = ⟨e, ks, vs, keyP z, valP z, sK ks (keyP z), sV ks vs (keyP z) (valP z)⟩ := by
    unfold mkG
    rw [cS_eq hk, cV_eq (by rw [← sV_len b1]; exact hk)]
  unfold A3
  rw [if_pos (preNd_of h), cut64, Option.bind_some, if_pos trivial, if_pos ⟨by omega, b3⟩, if_pos h, hg, evC_seq, p6, if_pos S.pre]
  try dsimp only
  rw [S.has, cond_true]
  try dsimp only
  rw [evC_seq, p7, if_pos S.pre2]
  try dsimp only
  rw [S.no, cond_false]
  try dsimp only
  rw [hD8, evC_seq, evC_to (c8_ok h (by omega) S he)]
  try dsimp only
  cases e with
  | true =>
    obtain ⟨rfl, rfl⟩ := he rfl
    rw [p10n]
    exact r10_ok h (by omega) S
  | false =>
    rw [p10c]
    exact r10_ok h (by omega) S
end
theorem e3 (l : List R24) (z : R24) : evFn X Eh an3 lp3 Try.f3 [] [.lst .t24 l, z.kV] (fun o v => some (o, v)) = some ([], .v (.bool true)) := by
  obtain ⟨h1, h2⟩ := lfP_ok l
  rw [w3, hD0, p5, if_pos trivial]
  cases hq : (lfP l).1 with
  | nil => exact a3_ok pre0 (by simp) fun _ => ⟨rfl, rfl⟩
  | cons x xs =>
    have e1 : cS (x :: xs) = (lfP l).1 := by rw [hq]; rfl
    have e2 : cV (lfP l).2 = (lfP l).2 := cV_eq (by rw [← h1.1, hq]; simp)
    show A3 lp3 _ _ K3 false (cS (x :: xs)) (cV (lfP l).2) z = _
    rw [e1, e2]
    exact a3_ok h1 h2 fun h => by cases h
def dL3 (objs : List (TO U)) (args : List (TV U)) : Option (List R24 × R24) := match objs, args with
  | [], [a0, a1] =>
    match a0 with
    | .lst .t24 l =>
      match a1 with
      | .agg [q0, q1, q2, q3] =>
        match q0 with
        | .v (.string z_S) =>
          match q1 with
          | .v (.string z_V) =>
            match q2 with
            | .v (.int .i64 z_Page) =>
              match q3 with
              | .v (.int .i64 z_Len) =>
                some (l, (⟨z_S, z_V, z_Page, z_Len⟩ : R24))
              | _ => none
            | _ => none
          | _ => none
        | _ => none
      | _ => none
    | _ => none
  | _, _ => none
theorem dL3_ok {objs : List (TO U)} {args : List (TV U)} {l : List R24} {z : R24} (h : dL3 objs args = some (l, z)) : objs = [] ∧ args = [.lst .t24 l, z.kV] := by
  unfold dL3 at h
  repeat' split at h
  all_goals first | (cases h; done) | (cases h; exact ⟨rfl, rfl⟩)
def sLaw3 : Spc U := .of dL3 (fun _ => True) (fun _ => []) fun _ => .v (.bool true)
theorem sLaw3_ok : SpecOk Try.prog 3 sLaw3 := by
  refine fn_ok X_ok mixed Eh_ok an3 lp3 Try.func3 (by kernel_rfl) (by kernel_rfl) lp3_ok fun objs args x hx hp => ?_
  obtain ⟨l, z⟩ := x
  obtain ⟨rfl, rfl⟩ := dL3_ok hx
  exact e3 l z
end Go.Proofs.Ytmcflglkfgnbbaa.Nd

/- Rows of records, read out of the data. -/
namespace Go.Proofs.Ytmcflglkfgnbbaa.Nd
open Go Go.ChangeShapes Go.WideShapes Go.ChangeAt Go.RowKit Go.Proofs.Ytmcflglkfgnbbaa.Eng
set_option linter.unusedVariables false
set_option linter.unusedSimpArgs false
theorem repR_of {α : Type} {H : Array Go.Obj} {L : List Value} {m : Nat} (enc : α → List SV) (g : Gh) (f : Nat → α) : ∀ (n k : Nat), (∀ j, k ≤ j → j < k + n → ((L.drop (j * m)).take m).length = m ∧ RepL g H ((L.drop (j * m)).take m) (enc (f j))) → RepR g H (L.drop (k * m)) m (((List.range' k n).map f).map enc)
  | 0, _, _ => .nil
  | n + 1, k, h => by
    obtain ⟨h1, h2⟩ := h k (Nat.le_refl k) (by omega)
    have := RepR.cons (rows := ((List.range' (k + 1) n).map f).map enc) h1 h2 (repR_of enc g f n (k + 1) fun j hj hj' => h j (by omega) (by omega))
    rw [show L.drop ((k + 1) * m) = (L.drop (k * m)).drop m by rw [List.drop_drop, Nat.succ_mul], List.take_append_drop] at this
    simpa [List.range'_succ] using this
/-- A row whose elements read, as a frozen list. -/
theorem rep_list {α : Type} {W : World} {a : Addr} {len cap m : Nat} (enc : α → List SV) (hm : 0 < m) (hl : len ≤ cap) (hpos : 0 < len) (z0 : α)
    (he : ∀ j, j < cap → ∃ cs' z, W.cells? 0 (a.add (j * m)) m = some cs' ∧ ∀ g, RepL g W.heap cs' (enc z)) :
    ∃ (b : Nat) (l : List α), b < W.heap.size ∧ l.length = len ∧ ∀ g : Gh, g.F b → Rep g W.heap (.slice (some a) len cap) (.lst m (l.map enc)) := by
  obtain ⟨f, hf⟩ : ∃ f : Nat → α, ∀ j, j < cap → ∃ cs', W.cells? 0 (a.add (j * m)) m = some cs' ∧ ∀ g, RepL g W.heap cs' (enc (f j)) := by
    refine ⟨fun j => if h : j < cap then (he j h).choose_spec.choose else z0, fun j hj => ?_⟩
    simp only [hj, ↓reduceDIte]
    exact ⟨_, (he j hj).choose_spec.choose_spec⟩
  obtain ⟨b, off, inner⟩ := a
  have hcell : ∀ j i, j < cap → i < m → ∃ v, W.cell? ((⟨b, off, inner⟩ : Addr).add (j * m + i)) = some v := fun j i hj hi => by
    obtain ⟨cs', h1, _⟩ := hf j hj
    obtain ⟨_, h2, h3⟩ := World.cells?_some h1
    have := h3 i hi
    rw [Addr.add_add] at this
    exact ⟨cs'[i]'(by omega), by rw [this, List.getElem?_eq_getElem (by omega)]⟩
  obtain ⟨v, h0⟩ := hcell 0 0 (by omega) hm
  have ha0 : (⟨b, off, inner⟩ : Addr).add (0 * m + 0) = ⟨b, off, inner⟩ := by unfold Addr.add; simp
  rw [ha0] at h0
  cases inner with
  | some i =>
    cases hb : W.heap[b]? with
    | none => simp [World.cell?, hb] at h0
    | some o => cases o <;> simp [World.cell?, hb] at h0
  | none =>
    cases hb : W.heap[b]? with
    | none => simp [World.cell?, hb] at h0
    | some o =>
      have hlt := (Array.getElem?_eq_some_iff.1 hb).1
      cases o with
      | cells cs T fr =>
        have hat : ∀ j i, j < cap → i < m → ∃ v, cs[off + (j * m + i)]? = some v := fun j i hj hi => by
          obtain ⟨v, hv⟩ := hcell j i hj hi
          rw [addr_add, cell_of hb] at hv
          exact ⟨v, hv⟩
        have hsz : off + cap * m ≤ cs.size := by
          obtain ⟨v, hv⟩ := hat (cap - 1) (m - 1) (by omega) (by omega)
          have h1 := (Array.getElem?_eq_some_iff.1 hv).1
          have h2 : cap * m = (cap - 1) * m + m := by
            rw [← Nat.succ_mul, show (cap - 1).succ = cap by omega]
          omega
        refine ⟨b, (List.range len).map f, hlt, by simp, fun g hF => .lst (by simp) hF hb hl hsz ?_⟩
        have := repR_of (H := W.heap) (L := cs.toList.drop off) (m := m) enc g f len 0 fun j _ hj => by
          obtain ⟨cs', h1, h2⟩ := hf j (by omega)
          obtain ⟨_, h3, h4⟩ := World.cells?_some h1
          have heq : ((cs.toList.drop off).drop (j * m)).take m = cs' := by
            apply List.ext_getElem?
            intro i
            rcases Nat.lt_or_ge i m with hi | hi
            · rw [List.getElem?_take_of_lt hi, List.getElem?_drop, List.getElem?_drop, Array.getElem?_toList, ← h4 i hi, Addr.add_add, addr_add, cell_of hb]
            · rw [List.getElem?_eq_none (by rw [List.length_take]; omega), List.getElem?_eq_none (by omega)]
          rw [heq]
          exact ⟨h3, h2 g⟩
        rw [Nat.zero_mul, List.drop_zero, ← List.range_eq_range'] at this
        exact this
      | _ => simp [World.cell?, hb] at h0
/-- What is told of the rows of a []struct out of the data, by what is told of one element. -/
theorem open_list {α : Type} {H : Type} {e : TypeId × Value → H} {P : Program} {W : World} {m T E : Nat} {cs : List Value} {x : DataW H × List MemPlace} (enc : α → List SV) (z0 : α) (hT : P.underlying T = some (.slice E)) (hpos : 0 < P.cellsOf E)
    (h : DataW.trod e P W 0 (fun _ => true) true m T cs = some x) (hel : ∀ n cs' y, DataW.trod e P W 0 (fun _ => true) true n E cs' = some y → ∃ z : α, ∀ g, RepL g W.heap cs' (enc z)) :
    ∃ (v : Value) (l : List α), cs = [v] ∧ Rep ⟨fun _ => none, fun _ => 0, fun _ => 0, fun k => k < W.heap.size⟩ W.heap v (.lst (P.cellsOf E) (l.map enc)) := by
  rcases DataW.trod_slice hT h with ⟨h0, _⟩ | ⟨a, len, cap, elems, rest, n, _, rfl, _, hb, hl, hm, hlen, hE, hsp, _⟩
  · exact ⟨_, [], h0, .nil⟩
  rcases Nat.eq_zero_or_pos len with h00 | hlp
  · subst h00
    exact ⟨_, [], rfl, .nil⟩
  obtain ⟨hrl, hr⟩ := hsp rfl
  obtain ⟨b, l, hlt, _, hrep⟩ := rep_list (W := W) (a := a) (len := len) (cap := cap) enc hpos hl hlp z0 fun j hj => by
    have hy : ∃ y, (W.cells? 0 (a.add (j * P.cellsOf E)) (P.cellsOf E)).bind (DataW.trod e P W 0 (fun _ => true) true n E) = some y := by
      by_cases hi : j < len
      · rw [hE _ hi]
        exact ⟨_, List.getElem?_eq_getElem (by omega)⟩
      · have := hr (j - len) (by omega)
        rw [show len + (j - len) = j by omega] at this
        rw [this]
        exact ⟨_, List.getElem?_eq_getElem (by omega)⟩
    obtain ⟨y, hy⟩ := hy
    rw [Option.bind_eq_some_iff] at hy
    obtain ⟨cs', hcs, hy⟩ := hy
    obtain ⟨z, hz⟩ := hel _ _ _ hy
    exact ⟨cs', z, hcs, hz⟩
  exact ⟨_, l, rfl, hrep _ hlt⟩
set_option maxRecDepth 100000 in
/-- One entry, out of its cells. -/
theorem open_ent {H : Type} {e : TypeId × Value → H} {W : World} (n : Nat) (cs' : List Value) (y : DataW H × List MemPlace) (hy : DataW.trod e Try.prog W 0 (fun _ => true) true n 24 cs' = some y) : ∃ z : R24, cs' = [.string z.S, .string z.V, .int .i64 z.Page, .int .i64 z.Len] := by
  have c24 : Try.prog.cellsOf 24 = 4 := by kernel_rfl
  have c9 : Try.prog.cellsOf 9 = 1 := by kernel_rfl
  have c3 : Try.prog.cellsOf 3 = 1 := by kernel_rfl
  obtain ⟨y0, y1, y2, y3, n', _, hlen, e0, e1, e2, e3⟩ := Go.Joins.trod_struct4 Try.underlying24 hy
  rw [c24] at hlen
  have e0' : DataW.trod e Try.prog W 0 (fun _ => true) true n' 9 ((cs'.drop 0).take (Try.prog.cellsOf 9)) = some y0 := e0
  have e1' : DataW.trod e Try.prog W 0 (fun _ => true) true n' 9 ((cs'.drop 1).take (Try.prog.cellsOf 9)) = some y1 := e1
  have e2' : DataW.trod e Try.prog W 0 (fun _ => true) true n' 3 ((cs'.drop 2).take (Try.prog.cellsOf 3)) = some y2 := e2
  have e3' : DataW.trod e Try.prog W 0 (fun _ => true) true n' 3 ((cs'.drop 3).take (Try.prog.cellsOf 3)) = some y3 := e3
  rw [c9] at e0' e1'
  rw [c3] at e2' e3'
  obtain ⟨p, k1, _⟩ := DataW.trod_string Try.underlying9 e0'
  obtain ⟨q, k2, _⟩ := DataW.trod_string Try.underlying9 e1'
  obtain ⟨r, k3, _⟩ := DataW.trod_int Try.underlying3 e2'
  obtain ⟨s, k4, _⟩ := DataW.trod_int Try.underlying3 e3'
  match cs', hlen with
  | [u0, u1, u2, u3], _ =>
    simp only [List.drop_zero, List.take_succ_cons, List.take_zero, List.cons.injEq, and_true, List.drop_succ_cons] at k1 k2 k3 k4
    subst k1 k2 k3 k4
    exact ⟨⟨p, q, r, s⟩, rfl⟩
set_option maxRecDepth 100000 in
theorem rep_ent (z : R24) (g : Gh) (H : Array Go.Obj) : RepL g H [.string z.S, .string z.V, .int .i64 z.Page, .int .i64 z.Len] (encS_t24 z) := .cons (.v _) (.cons (.v _) (.cons (.v _) (.cons (.v _) .nil)))
end Go.Proofs.Ytmcflglkfgnbbaa.Nd


/- Places: a round, and all of them. -/
import Derived.Test.YtcbbpidnocgoiaaDoorSvG
namespace Go.Proofs.YtcbbpidnocgoiaaDoor.Sv
open Go Go.RowKit Go.Proofs.YtcbbpidnocgoiaaDoor.Eng Go.Proofs.YtcbbpidnocgoiaaDoor.Pu
set_option linter.unusedVariables false
set_option linter.unusedSimpArgs false
set_option maxRecDepth 20000
theorem lf_spec {n : Int} {ws : List Int} (hp : Pre n ws) : ∀ (N : Nat) (v : Int), 0 ≤ v → n ≤ 64 * (v / 64 + N) →
    (lf n ws (N + 1) v).getD (-1) = -1 ∧ (∀ j, v ≤ j → j < n → bitI ws j = true) ∨ ∃ r, (lf n ws (N + 1) v).getD (-1) = r ∧ v ≤ r ∧ r < n ∧ bitI ws r = false ∧ ∀ j, v ≤ j → j < r → bitI ws j = true := by
  intro N
  induction N with
  | zero =>
    intro v h0 h1
    left
    unfold lf
    rw [if_neg (by omega)]
    exact ⟨rfl, fun j hj hj1 => by omega⟩
  | succ N ih =>
    intro v h0 h1
    unfold lf
    by_cases hv : v < n
    · rw [if_pos hv]
      have hg := gw_lt hp.2.2 (v / 64).toNat
      have hwl := wd_lt ws v
      have hbit : ∀ t : Nat, (v % 64).toNat + t < 64 → (wd ws v).testBit t = !bitI ws (v + t) := by
        intro t ht
        unfold wd bitI
        rw [tb_div, tb_compl _ _ hg]
        have e1 : (v + t) / 64 = v / 64 := by omega
        have e2 : ((v + t) % 64).toNat = (v % 64).toNat + t := by omega
        rw [e1, e2]
        simp [ht]
      by_cases hz : wd ws v = 0
      · rw [if_pos hz]
        have hall : ∀ j, v ≤ j → j < 64 * (v / 64) + 64 → bitI ws j = true := by
          intro j hj hj1
          have := hbit (j - v).toNat (by omega)
          rw [hz, show v + ((j - v).toNat : Int) = j by omega, Nat.zero_testBit] at this
          cases hb : bitI ws j with
          | true => rfl
          | false => rw [hb] at this; cases this
        rcases ih (64 * (v / 64) + 64) (by omega) (by omega) with ⟨h2, h3⟩ | ⟨r, h2, h3, h4, h5, h6⟩
        · exact .inl ⟨h2, fun j hj hj1 => by
            by_cases hc : j < 64 * (v / 64) + 64
            · exact hall j hj hc
            · exact h3 j (by omega) hj1⟩
        · exact .inr ⟨r, h2, by omega, h4, h5, fun j hj hj1 => by
            by_cases hc : j < 64 * (v / 64) + 64
            · exact hall j hj hc
            · exact h6 j (by omega) hj1⟩
      · rw [if_neg hz]
        have hs := tz_spec 64 (wd ws v) (by omega) (by rw [lt64]; exact hwl)
        have hb := tz_bit 64 (wd ws v) (by omega) (by rw [lt64]; exact hwl)
        obtain ⟨t, ht⟩ : ∃ t, Pu.tz 64 (wd ws v) = t := ⟨_, rfl⟩
        rw [ht] at hs hb ⊢
        have hr : (v % 64).toNat + t < 64 := by
          have h3 := hb.1
          unfold wd at h3
          rw [tb_div, tb_compl _ _ hg] at h3
          simp only [Bool.and_eq_true, decide_eq_true_eq] at h3
          exact h3.1
        have hlow : ∀ j, v ≤ j → j < v + t → bitI ws j = true := by
          intro j hj hj1
          have h4 := hbit (j - v).toNat (by omega)
          rw [hb.2 _ (by omega), show v + ((j - v).toNat : Int) = j by omega] at h4
          cases hb : bitI ws j with
          | true => rfl
          | false => rw [hb] at h4; cases h4
        have hat : bitI ws (v + t) = false := by
          have h4 := hbit t hr
          rw [hb.1] at h4
          cases hb : bitI ws (v + t) with
          | false => rfl
          | true => rw [hb] at h4; cases h4
        by_cases hn : v + (t : Int) < n
        · exact .inr ⟨v + t, by rw [if_pos hn]; rfl, by omega, hn, hat, hlow⟩
        · exact .inl ⟨by rw [if_neg hn]; rfl, fun j hj hj1 => hlow j hj (by omega)⟩
    · rw [if_neg hv]
      exact .inl ⟨rfl, fun j hj hj1 => by omega⟩
theorem pf_spec {us : List Bool} : ∀ (N : Nat) (v : Int), 0 ≤ v → (us.length : Int) ≤ v + N →
    (pf us (N + 1) v).getD (-1) = -1 ∧ (∀ j, v ≤ j → j < us.length → us[j.toNat]? = some true) ∨ ∃ r, (pf us (N + 1) v).getD (-1) = r ∧ v ≤ r ∧ r < us.length ∧ us[r.toNat]? = some false ∧ ∀ j, v ≤ j → j < r → us[j.toNat]? = some true := by
  intro N
  induction N with
  | zero =>
    intro v h0 h1
    left
    unfold pf
    rw [List.getElem?_eq_none (by omega)]
    exact ⟨rfl, fun j hj hj1 => by omega⟩
  | succ N ih =>
    intro v h0 h1
    unfold pf
    cases hx : us[v.toNat]? with
    | none =>
      have := List.getElem?_eq_none_iff.1 hx
      exact .inl ⟨rfl, fun j hj hj1 => by omega⟩
    | some x =>
      have hlt : v.toNat < us.length := (List.getElem?_eq_some_iff.1 hx).1
      cases x with
      | false => exact .inr ⟨v, rfl, by omega, by omega, hx, fun j hj hj1 => by omega⟩
      | true =>
        dsimp only
        rcases ih (v + 1) (by omega) (by omega) with ⟨h2, h3⟩ | ⟨r, h2, h3, h4, h5, h6⟩
        · exact .inl ⟨h2, fun j hj hj1 => by
            by_cases hc : j = v
            · subst hc; exact hx
            · exact h3 j (by omega) hj1⟩
        · exact .inr ⟨r, h2, by omega, h4, h5, fun j hj hj1 => by
            by_cases hc : j = v
            · subst hc; exact hx
            · exact h6 j (by omega) hj1⟩
theorem first_same {n : Int} {ws : List Int} {us : List Bool} (h : Inv n ws us) (a : Int) : lfA n ws a = pfA us a := by
  unfold lfA pfA
  have hv : 0 ≤ (if a < 0 then 0 else a) := by split <;> omega
  generalize (if a < 0 then 0 else a) = v at hv
  have hul := h.ul
  have h1 := lf_spec h.pre ws.length v hv (by have := h.pre.1; omega)
  have h2 := pf_spec (us := us) us.length v hv (by omega)
  rcases h1 with ⟨e1, a1⟩ | ⟨r, e1, b1, c1, d1, f1⟩ <;> rcases h2 with ⟨e2, a2⟩ | ⟨s, e2, b2, c2, d2, f2⟩
  · rw [e1, e2]
  · have := h.same s (by omega) (by omega)
    rw [d2, a1 s b2 (by omega)] at this
    cases this
  · have := h.same r (by omega) c1
    rw [a2 r b1 (by omega), d1] at this
    cases this
  · rw [e1, e2]
    rcases Int.lt_trichotomy r s with hc | hc | hc
    · have := h.same r (by omega) c1
      rw [f2 r b1 hc, d1] at this
      cases this
    · exact hc
    · have := h.same s (by omega) (by omega)
      rw [d2, f1 s b2 hc] at this
      cases this
/-- A step of the law. -/
def stepA (n : Int) (z : R29) (ws : List Int) (us : List Bool) : List Int × List Bool := match evB z with
  | true => if usedB n ws z.At then (ws, us) else (setW ws z.At, us.set z.At.toNat true)
  | false => if inB n z.At && bitI ws z.At then (clrW ws z.At, us.set z.At.toNat false) else (ws, us)
theorem stepA_inv {n : Int} {ws : List Int} {us : List Bool} (h : Inv n ws us) (z : R29) : Inv n (stepA n z ws us).1 (stepA n z ws us).2 := by
  unfold stepA
  split
  · split
    · exact h
    · rename_i hu
      obtain ⟨h0, h1, h2⟩ := used_f (n := n) (ws := ws) (i := z.At) (by simpa using hu)
      exact h.set h0 h1 h2
  · split
    · rename_i hu
      simp only [inB, Bool.and_eq_true, decide_eq_true_eq] at hu
      exact h.clr hu.1.1 hu.1.2 hu.2
    · exact h
theorem bn_self (x : Bool) : bn x x = false := by cases x <;> rfl
theorem fin7_ok {R : Type} {K : Exit → TS U → Option R} {n : Int} {acts : List R29} {ws : List Int} {us : List Bool} {i a : Int} (h : Inv n ws us) : fin7 R K n acts ws us i a false = K .normal (tu n ws us acts i false) := by
  unfold fin7
  rw [cond_false, if_pos h.pre, if_pos (by have := h.ul; have := h.n1; omega), first_same h a]
  simp
theorem used_of {n : Int} {ws : List Int} {us : List Bool} (h : Inv n ws us) {a : Int} : usedB n ws a = (!inB n a || bitI ws a) := rfl
/-- The check at the end of a round. -/
theorem check_ok {R : Type} {lp : Lp U} {K : Exit → TS U → Option R} {n : Int} {acts : List R29} {ws : List Int} {us : List Bool} {i a : Int} (h : Inv n ws us) (l : List (Nat × TV U)) (hl : l = [] ∨ l = [(83, .v (.bool false))]) :
    evC X E3 an3 lp (.seq (sL (sR (sR (sR (sR (sR BB)))))) (sR (sR (sR (sR (sR (sR BB))))))) 1 (tx n ws us acts i a (inB n a) l) K = K .normal (tu n ws us acts i false) := by
  rw [evC_seq, q7 _ _ _ _ _ _ _ _ _ _ _ hl, if_pos h.pre]
  have hu : usedB n ws a = (!inB n a || bitI ws a) := rfl
  cases hi : inB n a with
  | false =>
    rw [hu, hi]
    simp only [Bool.not_false, Bool.true_or, cond_true, bn_self]
    rw [fin7_ok h]
    dsimp only
    rw [q7c]
  | true =>
    have h2 := hi
    simp only [inB, Bool.and_eq_true, decide_eq_true_eq] at h2
    rw [hu, hi]
    simp only [Bool.not_true, Bool.false_or, cond_false]
    rw [if_pos ⟨h2.1, by have := h.ul; omega⟩, h.same a h2.1 h2.2, Option.bind_some, bn_self, fin7_ok h]
    dsimp only
    rw [q7c]
theorem q3i (R : Type) (lp : Lp U) (K : Exit → TS U → Option R) (n : Int) (acts : List R29) (ws : List Int) (us : List Bool) (i a : Int) : evC X E3 an3 lp (sL (sR BB)) 1 (t2 n ws us acts i a) K = K .normal (tx n ws us acts i a (inB n a) []) := by
  rw [q3]
  unfold inB
  by_cases hc : 0 ≤ a <;> simp [hc]
theorem even_ok {R : Type} {lp : Lp U} {K : Exit → TS U → Option R} {n : Int} {acts : List R29} {ws : List Int} {us : List Bool} {i a : Int} (h : Inv n ws us) :
    evC X E3 an3 lp (cT (sR SW)) 2 (tx n ws us acts i a (inB n a) [(62, .v (.bool true))]) K = K .normal (tx n (if usedB n ws a then ws else setW ws a) us acts i a (inB n a) [(11, .v (.bool (!usedB n ws a))), (82, .v (.bool false))]) := by
  rw [hT, evC_seq, q51]
  have hu : usedB n ws a = (!inB n a || bitI ws a) := rfl
  cases hi : inB n a with
  | false =>
    rw [hi] at hu
    have hu : usedB n ws a = true := hu
    rw [cond_false]
    dsimp only
    rw [evC_seq, q52, if_pos h.pre, hu, Bool.not_true, bn_self]
    dsimp only
    rw [q55]
  | true =>
    rw [hi] at hu
    have h2 := hi
    simp only [inB, Bool.and_eq_true, decide_eq_true_eq] at h2
    have hu : usedB n ws a = bitI ws a := hu
    rw [cond_true, if_pos ⟨h2.1, by have := h.ul; omega⟩, h.same _ h2.1 h2.2, Option.bind_some]
    dsimp only
    rw [evC_seq, q52, if_pos h.pre, hu, bn_self]
    dsimp only
    rw [q55]
theorem odd_ok {R : Type} {lp : Lp U} {K : Exit → TS U → Option R} {n : Int} {acts : List R29} {ws : List Int} {us : List Bool} {i a : Int} (h : Inv n ws us) :
    evC X E3 an3 lp (cF (sR SW)) 2 (tx n ws us acts i a (inB n a) [(62, .v (.bool false))]) K = K .normal (tx n (if inB n a && bitI ws a then clrW ws a else ws) us acts i a (inB n a) [(11, .v (.bool (inB n a && bitI ws a))), (61, .v (.bool false))]) := by
  rw [hF, evC_seq, q53]
  cases hi : inB n a with
  | false =>
    rw [cond_false]
    dsimp only
    rw [evC_seq, q54, if_pos h.pre, hi, Bool.false_and, bn_self]
    dsimp only
    rw [q56]
  | true =>
    have h2 := hi
    simp only [inB, Bool.and_eq_true, decide_eq_true_eq] at h2
    rw [cond_true, if_pos ⟨h2.1, by have := h.ul; omega⟩, h.same _ h2.1 h2.2, Option.bind_some]
    dsimp only
    rw [evC_seq, q54, if_pos h.pre, hi, Bool.true_and, bn_self]
    dsimp only
    rw [q56]
theorem want_ok {R : Type} {lp : Lp U} {K : Exit → TS U → Option R} {n : Int} {acts : List R29} {ws ws' : List Int} {us : List Bool} {i a : Int} {b w : Bool} (h : Inv n ws us) (hw : w = true → inB n a = true) (x : Nat) (hx : x = 82 ∨ x = 61) :
    ∃ l, (l = [] ∨ l = [(83, .v (.bool false))]) ∧ evC X E3 an3 lp (sL (sR (sR (sR (sR BB))))) 1 (tx n ws' us acts i a b [(11, .v (.bool w)), (x, .v (.bool false))]) K = K .normal (tx n ws' (if w then us.set a.toNat (!bitI ws a) else us) acts i a b l) := by
  rw [q66 _ _ _ _ _ _ _ _ _ _ _ _ hx]
  cases w with
  | false => exact ⟨_, .inr rfl, by rw [cond_false, if_neg (by decide)]⟩
  | true =>
    have h2 := hw rfl
    simp only [inB, Bool.and_eq_true, decide_eq_true_eq] at h2
    have hr : 0 ≤ a ∧ a < (us.length : Int) := ⟨h2.1, by have := h.ul; omega⟩
    exact ⟨_, .inl rfl, by rw [cond_true, if_pos hr, h.same _ h2.1 h2.2, Option.bind_some, if_pos hr, Option.bind_some, if_pos rfl]⟩
theorem sw_ok {R : Type} {lp : Lp U} {K : Exit → TS U → Option R} {n : Int} {acts : List R29} {ws : List Int} {us : List Bool} {i : Int} {z : R29} (h : Inv n ws us) (hg : getI acts i = some z) :
    ∃ w x, (x = 82 ∨ x = 61) ∧ (w = true → inB n z.At = true) ∧ (stepA n z ws us).2 = (if w then us.set z.At.toNat (!bitI ws z.At) else us) ∧
      evC X E3 an3 lp (.seq (sL SW) (sR SW)) 2 (tx n ws us acts i z.At (inB n z.At) []) K = K .normal (tx n (stepA n z ws us).1 us acts i z.At (inB n z.At) [(11, .v (.bool w)), (x, .v (.bool false))]) := by
  rw [evC_seq, q50, hg, Option.bind_some]
  dsimp only
  rw [q5c]
  unfold stepA
  cases he : evB z with
  | true =>
    refine ⟨!usedB n ws z.At, 82, .inl rfl, fun hw => ?_, ?_, ?_⟩
    · cases hi : inB n z.At with
      | true => rfl
      | false => rw [show usedB n ws z.At = true by unfold usedB; rw [hi]; rfl] at hw; cases hw
    · dsimp only
      cases hu : usedB n ws z.At with
      | true => rfl
      | false =>
        obtain ⟨_, _, hb⟩ := used_f hu
        rw [hb]
        rfl
    · rw [cond_true, even_ok h]
      dsimp only
      cases hu : usedB n ws z.At <;> rfl
  | false =>
    refine ⟨inB n z.At && bitI ws z.At, 61, .inr rfl, fun hw => ?_, ?_, ?_⟩
    · rw [Bool.and_eq_true] at hw; exact hw.1
    · dsimp only
      cases hu : (inB n z.At && bitI ws z.At) with
      | false => rfl
      | true =>
        rw [Bool.and_eq_true] at hu
        rw [hu.2]
        rfl
    · rw [cond_false, odd_ok h]
      dsimp only
      cases hu : (inB n z.At && bitI ws z.At) <;> rfl
theorem round3 {R : Type} {lp : Lp U} {K : Exit → TS U → Option R} {n : Int} {acts : List R29} {ws : List Int} {us : List Bool} {i : Int} (h : Inv n ws us) (h0 : 0 ≤ i) (h1 : i < 200) {z : R29} (hz : acts[i.toNat]? = some z) :
    evC X E3 an3 lp (loopAt Tryd.f3 0) 0 (t0 n ws us acts i) K = K .normal (t0 n (stepA n z ws us).1 (stepA n z ws us).2 acts (i + 1)) := by
  have hg : getI acts i = some z := by unfold getI; rw [if_pos h0]; exact hz
  have hl : i < (acts.length : Int) := by have := (List.getElem?_eq_some_iff.1 hz).1; omega
  have hw : IntKind.i64.wrap (i + 1) = i + 1 := wrap_i64 (by omega) (by omega)
  have hinv := stepA_inv h z
  rw [hB0, evC_seq, q1]
  simp only [hl, h1, decide_true, cond_true]
  rw [evC_seq, evC_block, evC_seq, q2, hg, Option.bind_some]
  dsimp only
  rw [evC_seq, q3i]
  dsimp only
  rw [evC_seq, q4]
  dsimp only
  rw [evC_seq, evC_block]
  generalize hK : (fun (ex : Exit) (s' : TS X.U) => _ : Exit → TS X.U → Option R) = K1
  obtain ⟨w, x, hx, hwi, hs2, hsw⟩ := sw_ok (lp := lp) (K := K1) h hg
  rw [hsw, ← hK]
  dsimp only
  rw [evC_seq]
  generalize hK2 : (fun (ex : Exit) (s' : TS X.U) => _ : Exit → TS X.U → Option R) = K2
  obtain ⟨l, hl, hwt⟩ := want_ok (lp := lp) (K := K2) (acts := acts) (ws' := (stepA n z ws us).1) (i := i) (b := inB n z.At) h hwi x hx
  rw [hwt, ← hK2, ← hs2]
  dsimp only
  rw [check_ok hinv l hl]
  dsimp only
  rw [q8, hw]
end Go.Proofs.YtcbbpidnocgoiaaDoor.Sv

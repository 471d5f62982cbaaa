/- Places: what is used, told twice. -/
import Derived.Test.YtcbbpidnocgoiaaDoorSvE
namespace Go.Proofs.YtcbbpidnocgoiaaDoor.Sv
open Go Go.RowKit Go.Proofs.YtcbbpidnocgoiaaDoor.Eng Go.Proofs.YtcbbpidnocgoiaaDoor.Pu
set_option linter.unusedVariables false
set_option linter.unusedSimpArgs false
theorem pc_or : ∀ (m g r : Nat), r < m → g.testBit r = false → Pu.pc m (g ||| 2 ^ r) = Pu.pc m g + 1
  | 0, g, r, h, _ => by omega
  | m + 1, g, r, h, hb => by
    have hd : ∀ x : Nat, Pu.pc (m + 1) x = Pu.pc m (x / 2) + x % 2 := fun x => rfl
    rw [hd, hd]
    cases r with
    | zero =>
      have h1 : (g ||| 2 ^ 0) / 2 = g / 2 := by
        apply Nat.eq_of_testBit_eq
        intro i
        rw [Nat.testBit_div_two, Nat.testBit_div_two, Nat.testBit_or, Nat.testBit_two_pow]
        simp
      have h0 : g % 2 = 0 := by
        rw [Nat.testBit_zero] at hb
        have := of_decide_eq_false hb
        omega
      have h2 : (g ||| 2 ^ 0) % 2 = 1 := by
        have : (g ||| 2 ^ 0).testBit 0 = true := by rw [Nat.testBit_or, Nat.testBit_two_pow]; simp
        rw [Nat.testBit_zero] at this
        exact of_decide_eq_true this
      rw [h1, h0, h2]
    | succ r =>
      have h1 : (g ||| 2 ^ (r + 1)) / 2 = g / 2 ||| 2 ^ r := by
        apply Nat.eq_of_testBit_eq
        intro i
        rw [Nat.testBit_div_two, Nat.testBit_or, Nat.testBit_or, Nat.testBit_div_two, Nat.testBit_two_pow, Nat.testBit_two_pow]
        simp
      have h2 : (g ||| 2 ^ (r + 1)) % 2 = g % 2 := by
        have : (g ||| 2 ^ (r + 1)).testBit 0 = g.testBit 0 := by rw [Nat.testBit_or, Nat.testBit_two_pow]; simp
        rw [Nat.testBit_zero, Nat.testBit_zero, decide_eq_decide] at this
        omega
      rw [h1, h2, pc_or m (g / 2) r (by omega) (by rw [Nat.testBit_div_two]; exact hb)]
      omega
theorem pc_congr {m a b : Nat} (h : ∀ i, i < m → a.testBit i = b.testBit i) : Pu.pc m a = Pu.pc m b := by
  rw [← Pu.pc_mod m a, ← Pu.pc_mod m b]
  congr 1
  apply Nat.eq_of_testBit_eq
  intro i
  rw [Nat.testBit_mod_two_pow, Nat.testBit_mod_two_pow]
  by_cases hi : i < m
  · simp [hi, h i hi]
  · simp [hi]
theorem pc_andn {g r : Nat} (hr : r < 64) (hb : g.testBit r = true) : Pu.pc 64 (andn g (2 ^ r)) + 1 = Pu.pc 64 g := by
  have h1 : (andn g (2 ^ r)).testBit r = false := by rw [tb_andn _ _ _ hr]; simp
  rw [← pc_or 64 (andn g (2 ^ r)) r hr h1]
  apply pc_congr
  intro i hi
  rw [Nat.testBit_or, tb_andn _ _ _ hr, Nat.testBit_two_pow]
  by_cases e : r = i
  · subst e; simp [hb]
  · simp [e, hi]
theorem tot_set {ws : List Int} {q : Nat} (h : q < ws.length) (x : Int) : tot (ws.set q x) + Pu.pc 64 (gw ws q) = tot ws + Pu.pc 64 x.toNat := by
  induction ws generalizing q with
  | nil => cases h
  | cons w ws ih =>
    cases q with
    | zero =>
      show tot (x :: ws) + Pu.pc 64 w.toNat = tot (w :: ws) + Pu.pc 64 x.toNat
      unfold tot
      rw [List.map_cons, List.map_cons, List.sum_cons, List.sum_cons]
      omega
    | succ q =>
      have := ih (q := q) (by simpa using h)
      show tot (w :: ws.set q x) + Pu.pc 64 (gw ws q) = tot (w :: ws) + Pu.pc 64 x.toNat
      unfold tot at this ⊢
      rw [List.map_cons, List.map_cons, List.sum_cons, List.sum_cons]
      omega
def cnt (us : List Bool) : Nat := (us.map fun b => cond b 0 1).sum
theorem cnt_set {us : List Bool} {q : Nat} {b : Bool} (h : us[q]? = some b) (x : Bool) : cnt (us.set q x) + cond b 0 1 = cnt us + cond x 0 1 := by
  induction us generalizing q with
  | nil => cases h
  | cons w us ih =>
    cases q with
    | zero =>
      cases h
      show cnt (x :: us) + _ = cnt (b :: us) + _
      unfold cnt
      rw [List.map_cons, List.map_cons, List.sum_cons, List.sum_cons]
      omega
    | succ q =>
      have := ih (q := q) h
      show cnt (w :: us.set q x) + _ = cnt (w :: us) + _
      unfold cnt at this ⊢
      rw [List.map_cons, List.map_cons, List.sum_cons, List.sum_cons]
      omega
/-- What the two have in common. -/
structure Inv (n : Int) (ws : List Int) (us : List Bool) : Prop where
  n0 : 0 ≤ n
  n1 : n ≤ 255
  pre : Pre n ws
  wl : ws.length ≤ 100000
  ul : (us.length : Int) = n
  same : ∀ j : Int, 0 ≤ j → j < n → us[j.toNat]? = some (bitI ws j)
  sum : (tot ws : Int) + cnt us = n
theorem gw_set {ws : List Int} {q p : Nat} (h : q < ws.length) (x : Nat) : gw (ws.set q (x : Int)) p = if q = p then x else gw ws p := by
  unfold gw
  rw [List.getD_eq_getElem?_getD, List.getD_eq_getElem?_getD, List.getElem?_set]
  split
  · rename_i e
    subst e
    simp [h]
  · rfl
theorem okW_set {ws : List Int} (hw : okW ws = true) {q x : Nat} (hx : x < 18446744073709551616) : okW (ws.set q (x : Int)) = true := by
  unfold okW at hw ⊢
  rw [List.all_eq_true] at hw ⊢
  intro y hy
  rcases List.mem_or_eq_of_mem_set hy with h | rfl
  · exact hw y h
  · simp
    omega
theorem bit_set {ws : List Int} {i j : Int} (h0 : 0 ≤ i) (hq : (i / 64).toNat < ws.length) (hj : 0 ≤ j) : bitI (setW ws i) j = (bitI ws j || decide (i = j)) := by
  unfold bitI setW
  rw [gw_set hq]
  by_cases e : (i / 64).toNat = (j / 64).toNat
  · rw [if_pos e, tb_or_pow, e]
    congr 1
    rw [decide_eq_decide]
    omega
  · rw [if_neg e]
    have : ¬ i = j := fun h => e (by rw [h])
    simp [this]
theorem bit_clr {ws : List Int} {i j : Int} (h0 : 0 ≤ i) (hq : (i / 64).toNat < ws.length) (hj : 0 ≤ j) : bitI (clrW ws i) j = (bitI ws j && !decide (i = j)) := by
  unfold bitI clrW
  rw [gw_set hq]
  by_cases e : (i / 64).toNat = (j / 64).toNat
  · rw [if_pos e, tb_andn _ _ _ (by omega), e]
    have h1 : (j % 64).toNat < 64 := by omega
    have h2 : decide ((i % 64).toNat = (j % 64).toNat) = decide (i = j) := by rw [decide_eq_decide]; omega
    rw [h2]
    simp [h1]
  · rw [if_neg e]
    have : ¬ i = j := fun h => e (by rw [h])
    simp [this]
theorem Inv.set {n : Int} {ws : List Int} {us : List Bool} (h : Inv n ws us) {i : Int} (h0 : 0 ≤ i) (h1 : i < n) (hb : bitI ws i = false) : Inv n (setW ws i) (us.set i.toNat true) := by
  obtain ⟨n0, n1, ⟨p1, p2, p3⟩, wl, ul, same, sum⟩ := h
  have hq : (i / 64).toNat < ws.length := by omega
  have hlt := gw_lt p3 (i / 64).toNat
  have e1 : (setW ws i).length = ws.length := by unfold setW; rw [List.length_set]
  refine ⟨n0, n1, ⟨by omega, p2, okW_set p3 (or_lt hlt (pow_lt _ (by omega)))⟩, by omega, by rw [List.length_set]; exact ul, fun j hj hj1 => ?_, ?_⟩
  · rw [bit_set h0 hq hj, List.getElem?_set]
    by_cases e : i = j
    · subst e
      rw [if_pos rfl, if_pos (by omega)]
      simp
    · rw [if_neg (by omega), same j hj hj1]
      simp [e]
  · have t1 := tot_set hq ((gw ws (i / 64).toNat ||| 2 ^ (i % 64).toNat : Nat) : Int)
    rw [Int.toNat_natCast, pc_or 64 _ _ (by omega) hb] at t1
    have t2 := cnt_set (same i h0 h1) true
    rw [hb] at t2
    simp only [cond_true, cond_false] at t2
    unfold setW
    omega
theorem Inv.clr {n : Int} {ws : List Int} {us : List Bool} (h : Inv n ws us) {i : Int} (h0 : 0 ≤ i) (h1 : i < n) (hb : bitI ws i = true) : Inv n (clrW ws i) (us.set i.toNat false) := by
  obtain ⟨n0, n1, ⟨p1, p2, p3⟩, wl, ul, same, sum⟩ := h
  have hq : (i / 64).toNat < ws.length := by omega
  have hlt := gw_lt p3 (i / 64).toNat
  have e1 : (clrW ws i).length = ws.length := by unfold clrW; rw [List.length_set]
  have hle : andn (gw ws (i / 64).toNat) (2 ^ (i % 64).toNat) < 18446744073709551616 := Nat.lt_of_le_of_lt Nat.and_le_left hlt
  refine ⟨n0, n1, ⟨by omega, p2, okW_set p3 hle⟩, by omega, by rw [List.length_set]; exact ul, fun j hj hj1 => ?_, ?_⟩
  · rw [bit_clr h0 hq hj, List.getElem?_set]
    by_cases e : i = j
    · subst e
      rw [if_pos rfl, if_pos (by omega)]
      simp
    · rw [if_neg (by omega), same j hj hj1]
      simp [e]
  · have t1 := tot_set hq ((andn (gw ws (i / 64).toNat) (2 ^ (i % 64).toNat) : Nat) : Int)
    have t3 := pc_andn (g := gw ws (i / 64).toNat) (r := (i % 64).toNat) (by omega) hb
    rw [Int.toNat_natCast] at t1
    have t2 := cnt_set (same i h0 h1) false
    rw [hb] at t2
    simp only [cond_true, cond_false] at t2
    unfold clrW
    omega
end Go.Proofs.YtcbbpidnocgoiaaDoor.Sv

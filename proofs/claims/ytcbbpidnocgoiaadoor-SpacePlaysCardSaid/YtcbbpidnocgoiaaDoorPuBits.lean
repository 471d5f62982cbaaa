/- Bits of words: how many are set, and where the first one stands. -/
namespace Go.Proofs.YtcbbpidnocgoiaaDoor.Pu
set_option linter.unusedVariables false
set_option linter.unusedSimpArgs false
/-- How many of the first bits are set. -/
def pc : Nat → Nat → Nat
  | 0, _ => 0
  | n + 1, x => pc n (x / 2) + x % 2
theorem and_cat (a b c d : Nat) (hb : b < 256) (hd : d < 256) : (256 * a + b) &&& (256 * c + d) = 256 * (a &&& c) + (b &&& d) := by
  apply Nat.eq_of_testBit_eq
  intro j
  have h1 := Nat.testBit_two_pow_mul_add a (b := b) (i := 8) hb j
  have h2 := Nat.testBit_two_pow_mul_add c (b := d) (i := 8) hd j
  have h3 := Nat.testBit_two_pow_mul_add (a &&& c) (b := b &&& d) (i := 8) (Nat.lt_of_le_of_lt Nat.and_le_left hb) j
  rw [Nat.testBit_and]
  show ((2 ^ 8 * a + b).testBit j && (2 ^ 8 * c + d).testBit j) = (2 ^ 8 * (a &&& c) + (b &&& d)).testBit j
  rw [h1, h2, h3]
  split <;> simp
def mk (c : Nat) : Nat → Nat
  | 0 => 0
  | n + 1 => 256 * mk c n + c
def s1 (n x : Nat) : Nat := (x / 2 &&& mk 85 n) + (x &&& mk 85 n)
def s2 (n x : Nat) : Nat := (x / 4 &&& mk 51 n) + (x &&& mk 51 n)
def s3 (n x : Nat) : Nat := (x / 16 + x) &&& mk 15 n
theorem b1 : ∀ (r : Fin 2) (lo : Fin 256), (128 * r.val + lo.val / 2) &&& 85 = (lo.val / 2) &&& 85 := by decide +kernel
theorem b1' : ∀ lo : Fin 256, ((lo.val / 2) &&& 85) + (lo.val &&& 85) < 256 := by decide +kernel
theorem b2 : ∀ (r : Fin 4) (lo : Fin 256), (64 * r.val + lo.val / 4) &&& 51 = (lo.val / 4) &&& 51 := by decide +kernel
def byte3 (lo : Nat) : Nat :=
  let y := ((lo / 2) &&& 85) + (lo &&& 85)
  ((y / 4) &&& 51) + (y &&& 51)
theorem b2' : ∀ lo : Fin 256, byte3 lo.val < 256 ∧ byte3 lo.val / 16 ≤ 4 ∧ byte3 lo.val % 16 ≤ 4 := by decide +kernel
theorem b3 : ∀ (lo : Fin 256) (r : Fin 5), (16 * r.val + byte3 lo.val / 16 + byte3 lo.val) < 256 ∧ (16 * r.val + byte3 lo.val / 16 + byte3 lo.val) &&& 15 = pc 8 lo.val := by decide +kernel
theorem s1_cat (n hi lo : Nat) (h : lo < 256) : s1 (n + 1) (256 * hi + lo) = 256 * s1 n hi + (((lo / 2) &&& 85) + (lo &&& 85)) := by
  unfold s1
  show ((256 * hi + lo) / 2 &&& (256 * mk 85 n + 85)) + ((256 * hi + lo) &&& (256 * mk 85 n + 85)) = _
  have e : (256 * hi + lo) / 2 = 256 * (hi / 2) + (128 * (hi % 2) + lo / 2) := by omega
  have k := b1 ⟨hi % 2, by omega⟩ ⟨lo, h⟩
  simp only at k
  rw [e, and_cat _ _ _ _ (by omega) (by omega), and_cat _ _ _ _ h (by omega), k]
  omega
theorem s2_cat (n hi lo : Nat) (h : lo < 256) : s2 (n + 1) (256 * hi + lo) = 256 * s2 n hi + (((lo / 4) &&& 51) + (lo &&& 51)) := by
  unfold s2
  show ((256 * hi + lo) / 4 &&& (256 * mk 51 n + 51)) + ((256 * hi + lo) &&& (256 * mk 51 n + 51)) = _
  have e : (256 * hi + lo) / 4 = 256 * (hi / 4) + (64 * (hi % 4) + lo / 4) := by omega
  have k := b2 ⟨hi % 4, by omega⟩ ⟨lo, h⟩
  simp only at k
  rw [e, and_cat _ _ _ _ (by omega) (by omega), and_cat _ _ _ _ h (by omega), k]
  omega
/-- Each byte as how many of its bits are set. -/
def spread : Nat → Nat → Nat
  | 0, _ => 0
  | n + 1, x => 256 * spread n (x / 256) + pc 8 (x % 256)
def low : Nat → Nat → Nat
  | 0, _ => 0
  | n + 1, x => byte3 (x % 256)
theorem s2_s1 (n x : Nat) : s2 (n + 1) (s1 (n + 1) x) = 256 * s2 n (s1 n (x / 256)) + byte3 (x % 256) := by
  have hx : x = 256 * (x / 256) + x % 256 := by omega
  have hl : x % 256 < 256 := by omega
  have k := b1' ⟨x % 256, hl⟩
  simp only at k
  conv => lhs; rw [hx]
  rw [s1_cat _ _ _ hl, s2_cat _ _ _ k]
  rfl
theorem s_mod (n x : Nat) : s2 n (s1 n x) % 16 ≤ 4 := by
  cases n with
  | zero => simp [s2, s1, mk]
  | succ n =>
    rw [s2_s1]
    have k := b2' ⟨x % 256, by omega⟩
    simp only at k
    omega
theorem s_all : ∀ (n x : Nat), s3 n (s2 n (s1 n x)) = spread n x
  | 0, x => by simp [s3, mk, spread]
  | n + 1, x => by
    rw [spread, ← s_all n (x / 256), s2_s1]
    have k := b2' ⟨x % 256, by omega⟩
    simp only at k
    have hm := s_mod n (x / 256)
    generalize s2 n (s1 n (x / 256)) = y at *
    have k3 := b3 ⟨x % 256, by omega⟩ ⟨y % 16, by omega⟩
    simp only at k3
    unfold s3
    have e : (256 * y + byte3 (x % 256)) / 16 + (256 * y + byte3 (x % 256)) = 256 * (y / 16 + y) + (16 * (y % 16) + byte3 (x % 256) / 16 + byte3 (x % 256)) := by omega
    rw [e]
    show (256 * (y / 16 + y) + _) &&& (256 * mk 15 n + 15) = _
    rw [and_cat _ _ _ _ k3.1 (by omega), k3.2]
theorem pc_le : ∀ (n x : Nat), pc n x ≤ n
  | 0, x => Nat.le_refl _
  | n + 1, x => by
    have := pc_le n (x / 2)
    show pc n (x / 2) + x % 2 ≤ _
    omega
theorem pc_add : ∀ (m n x : Nat), pc (m + n) x = pc m x + pc n (x / 2 ^ m)
  | 0, n, x => by simp [pc]
  | m + 1, n, x => by
    rw [show m + 1 + n = (m + n) + 1 by omega]
    show pc (m + n) (x / 2) + x % 2 = pc m (x / 2) + x % 2 + _
    rw [pc_add m n (x / 2), Nat.div_div_eq_div_mul, Nat.pow_succ, Nat.mul_comm 2]
    omega
theorem pc_mod : ∀ (m x : Nat), pc m (x % 2 ^ m) = pc m x
  | 0, x => rfl
  | m + 1, x => by
    show pc m (x % 2 ^ (m + 1) / 2) + x % 2 ^ (m + 1) % 2 = pc m (x / 2) + x % 2
    have e1 : x % 2 ^ (m + 1) / 2 = (x / 2) % 2 ^ m := by rw [Nat.pow_succ, Nat.mul_comm, Nat.mod_mul_right_div_self]
    have e2 : x % 2 ^ (m + 1) % 2 = x % 2 := Nat.mod_mod_of_dvd _ (by rw [Nat.pow_succ]; exact Nat.dvd_mul_left ..)
    rw [e1, e2, pc_mod m (x / 2)]
/-- The number of bits, by the machine's way. -/
def ones (x : Nat) : Nat :=
  let y := s3 8 (s2 8 (s1 8 x))
  let y := y + y / 256
  let y := y + y / 65536
  let y := y + y / 4294967296
  y % 128
theorem ones_pc (x : Nat) : ones x = pc 64 x := by
  unfold ones
  rw [s_all]
  have hp : ∀ k : Nat, k < 8 → pc 8 (x / 256 ^ k % 256) ≤ 8 := fun k _ => pc_le 8 _
  have hs : pc 64 x = pc 8 (x % 256) + (pc 8 (x / 256 % 256) + (pc 8 (x / 256 / 256 % 256) + (pc 8 (x / 256 / 256 / 256 % 256) + (pc 8 (x / 256 / 256 / 256 / 256 % 256) + (pc 8 (x / 256 / 256 / 256 / 256 / 256 % 256) + (pc 8 (x / 256 / 256 / 256 / 256 / 256 / 256 % 256) + pc 8 (x / 256 / 256 / 256 / 256 / 256 / 256 / 256 % 256))))))) := by
    have q : ∀ (n y : Nat), pc (8 + n) y = pc 8 (y % 256) + pc n (y / 256) := fun n y => by rw [pc_add, ← pc_mod 8 y]
    rw [show (64 : Nat) = 8 + (8 + (8 + (8 + (8 + (8 + (8 + 8)))))) by omega, q, q, q, q, q, q, q, ← pc_mod 8 (x / 256 / 256 / 256 / 256 / 256 / 256 / 256)]
  rw [hs]
  simp only [spread]
  have l0 := pc_le 8 (x % 256)
  have l1 := pc_le 8 (x / 256 % 256)
  have l2 := pc_le 8 (x / 256 / 256 % 256)
  have l3 := pc_le 8 (x / 256 / 256 / 256 % 256)
  have l4 := pc_le 8 (x / 256 / 256 / 256 / 256 % 256)
  have l5 := pc_le 8 (x / 256 / 256 / 256 / 256 / 256 % 256)
  have l6 := pc_le 8 (x / 256 / 256 / 256 / 256 / 256 / 256 % 256)
  have l7 := pc_le 8 (x / 256 / 256 / 256 / 256 / 256 / 256 / 256 % 256)
  generalize pc 8 (x % 256) = c0 at *
  generalize pc 8 (x / 256 % 256) = c1 at *
  generalize pc 8 (x / 256 / 256 % 256) = c2 at *
  generalize pc 8 (x / 256 / 256 / 256 % 256) = c3 at *
  generalize pc 8 (x / 256 / 256 / 256 / 256 % 256) = c4 at *
  generalize pc 8 (x / 256 / 256 / 256 / 256 / 256 % 256) = c5 at *
  generalize pc 8 (x / 256 / 256 / 256 / 256 / 256 / 256 % 256) = c6 at *
  generalize pc 8 (x / 256 / 256 / 256 / 256 / 256 / 256 / 256 % 256) = c7 at *
  clear hs hp
  obtain ⟨z, hz⟩ : ∃ z, 256 * (256 * (256 * (256 * (256 * (256 * (256 * (256 * 0 + c7) + c6) + c5) + c4) + c3) + c2) + c1) + c0 = z := ⟨_, rfl⟩
  rw [hz]
  have h1 : z / 256 = 256 * (256 * (256 * (256 * (256 * (256 * c7 + c6) + c5) + c4) + c3) + c2) + c1 := by omega
  obtain ⟨y, hy⟩ : ∃ y, z + z / 256 = y := ⟨_, rfl⟩
  have hy' : y = 256 * (256 * (256 * (256 * (256 * (256 * (256 * c7 + (c6 + c7)) + (c5 + c6)) + (c4 + c5)) + (c3 + c4)) + (c2 + c3)) + (c1 + c2)) + (c0 + c1) := by omega
  have h2 : y / 65536 = 256 * (256 * (256 * (256 * (256 * c7 + (c6 + c7)) + (c5 + c6)) + (c4 + c5)) + (c3 + c4)) + (c2 + c3) := by omega
  rw [hy]
  obtain ⟨w, hw⟩ : ∃ w, y + y / 65536 = w := ⟨_, rfl⟩
  have hw' : w = 256 * (256 * (256 * (256 * (256 * (256 * (256 * c7 + (c6 + c7)) + (c5 + c6 + c7)) + (c4 + c5 + c6 + c7)) + (c3 + c4 + c5 + c6)) + (c2 + c3 + c4 + c5)) + (c1 + c2 + c3 + c4)) + (c0 + c1 + c2 + c3) := by omega
  have h3 : w / 4294967296 = 256 * (256 * (256 * c7 + (c6 + c7)) + (c5 + c6 + c7)) + (c4 + c5 + c6 + c7) := by omega
  rw [hw, h3, hw']
  clear hw' h3 hw h2 hy' hy h1 hz
  have e : ∀ (A B S : Nat), S < 128 → (256 * A + S + (256 * B + 0)) % 128 = S := fun A B S h => by omega
  generalize 256 * (256 * (256 * (256 * (256 * (256 * c7 + (c6 + c7)) + (c5 + c6 + c7)) + (c4 + c5 + c6 + c7)) + (c3 + c4 + c5 + c6)) + (c2 + c3 + c4 + c5)) + (c1 + c2 + c3 + c4) = A
  generalize 256 * (256 * c7 + (c6 + c7)) + (c5 + c6 + c7) = B
  omega
/-- The place of the lowest bit that is set. -/
def tz : Nat → Nat → Nat
  | 0, _ => 0
  | n + 1, x => if x % 2 = 1 then 0 else tz n (x / 2) + 1
theorem tz_le : ∀ (n x : Nat), tz n x ≤ n
  | 0, x => Nat.le_refl _
  | n + 1, x => by
    unfold tz
    split
    · omega
    · have := tz_le n (x / 2); omega
theorem tz_spec : ∀ (n x : Nat), 0 < x → x < 2 ^ n → tz n x < n ∧ ∃ q, x = 2 ^ tz n x * (2 * q + 1)
  | 0, x, h0, h1 => by omega
  | n + 1, x, h0, h1 => by
    unfold tz
    split
    · exact ⟨by omega, x / 2, by rw [Nat.pow_zero]; omega⟩
    · have hx : 0 < x / 2 := by omega
      have hl : x / 2 < 2 ^ n := by rw [Nat.pow_succ] at h1; omega
      obtain ⟨h2, q, hq⟩ := tz_spec n (x / 2) hx hl
      refine ⟨by omega, q, ?_⟩
      rw [Nat.pow_succ, Nat.mul_comm _ 2, Nat.mul_assoc, ← hq]
      omega
theorem tz_bit (n x : Nat) (h0 : 0 < x) (h1 : x < 2 ^ n) : x.testBit (tz n x) = true ∧ ∀ j, j < tz n x → x.testBit j = false := by
  obtain ⟨h2, q, hq⟩ := tz_spec n x h0 h1
  generalize tz n x = k at *
  subst hq
  refine ⟨?_, fun j hj => ?_⟩
  · have := Nat.testBit_two_pow_mul (i := k) (j := k) (a := 2 * q + 1)
    rw [this]
    simp
  · have := Nat.testBit_two_pow_mul (i := k) (j := j) (a := 2 * q + 1)
    rw [this]
    simp
    omega
theorem and_neg (x : Nat) (h0 : 0 < x) (h1 : x < 2 ^ 64) : x &&& (2 ^ 64 - x) = 2 ^ tz 64 x := by
  obtain ⟨h2, q, hq⟩ := tz_spec 64 x h0 h1
  generalize tz 64 x = k at *
  subst hq
  have e64 : (2 : Nat) ^ 64 = 2 ^ k * 2 ^ (64 - k) := by rw [← Nat.pow_add]; congr 1; omega
  have e63 : (2 : Nat) ^ (64 - k) = 2 * 2 ^ (63 - k) := by rw [show 64 - k = (63 - k) + 1 by omega, Nat.pow_succ, Nat.mul_comm]
  have hpos : 0 < 2 ^ k := Nat.two_pow_pos k
  have hlt : 2 * q + 1 < 2 * 2 ^ (63 - k) := by
    rw [e64, e63] at h1
    exact Nat.lt_of_mul_lt_mul_left h1
  rw [e64, e63, ← Nat.mul_sub]
  apply Nat.eq_of_testBit_eq
  intro j
  rw [Nat.testBit_and, Nat.testBit_two_pow_mul, Nat.testBit_two_pow_mul, Nat.testBit_two_pow]
  by_cases hj : j ≥ k
  · simp only [hj, decide_true, Bool.true_and]
    rcases Nat.eq_zero_or_pos (j - k) with h | h
    · have : j = k := by omega
      subst this
      simp only [Nat.sub_self, Nat.testBit_zero]
      simp
      omega
    · have hne : k ≠ j := by omega
      simp only [hne, decide_false]
      obtain ⟨i, hi⟩ : ∃ i, j - k = i + 1 := ⟨j - k - 1, by omega⟩
      rw [hi, Nat.testBit_succ, Nat.testBit_succ]
      have d1 : (2 * q + 1) / 2 = q := by omega
      have d2 : (2 * 2 ^ (63 - k) - (2 * q + 1)) / 2 = 2 ^ (63 - k) - (q + 1) := by omega
      rw [d1, d2, Nat.testBit_two_pow_sub_succ (by omega)]
      cases Nat.testBit q i <;> simp
  · have hne : k ≠ j := by omega
    simp [hj, hne]
/-- Bits, one by one. -/
theorem pc_bits : ∀ (n x : Nat), pc n x = ((List.range n).map fun i => (x.testBit i).toNat).sum
  | 0, x => rfl
  | n + 1, x => by
    rw [List.range_succ_eq_map, List.map_cons, List.sum_cons, List.map_map]
    show pc n (x / 2) + x % 2 = _
    rw [pc_bits n (x / 2)]
    have e : (fun i => ((x / 2).testBit i).toNat) = ((fun i => (x.testBit i).toNat) ∘ Nat.succ) := by
      funext i
      simp [Function.comp, Nat.testBit_succ]
    rw [e, Nat.testBit_zero]
    have : (decide (x % 2 = 1)).toNat = x % 2 := by
      rcases Nat.mod_two_eq_zero_or_one x with h | h <;> simp [h]
    omega
end Go.Proofs.YtcbbpidnocgoiaaDoor.Pu

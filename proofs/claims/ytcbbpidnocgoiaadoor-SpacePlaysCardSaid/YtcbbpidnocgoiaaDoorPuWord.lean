/- Words of 64 bits, as the machine reckons with them. -/
import Derived.Test.YtcbbpidnocgoiaaDoorEng13
import Derived.Test.YtcbbpidnocgoiaaDoorPuBits
namespace Go.Proofs.YtcbbpidnocgoiaaDoor.Pu
open Go Go.Proofs.YtcbbpidnocgoiaaDoor.Eng
set_option linter.unusedVariables false
set_option linter.unusedSimpArgs false
theorem lt64 : (2 : Nat) ^ 64 = 18446744073709551616 := by decide
theorem wrapN {a : Nat} (h : a < 18446744073709551616) : IntKind.wrap .u64 (a : Int) = (a : Int) := wrap_u64 (by omega) (by omega)
theorem ofIntN (a : Nat) : (BitVec.ofInt 64 (a : Int)) = BitVec.ofNat 64 a := by
  apply BitVec.eq_of_toNat_eq
  simp [BitVec.toNat_ofInt]
theorem and_w {a b : Nat} (ha : a < 18446744073709551616) (hb : b < 18446744073709551616) : IntKind.wrap .u64 (((BitVec.ofInt 64 (a : Int) &&& BitVec.ofInt 64 (b : Int))).toNat : Nat) = ((a &&& b : Nat) : Int) := by
  rw [ofIntN, ofIntN, BitVec.toNat_and, BitVec.toNat_ofNat, BitVec.toNat_ofNat, Nat.mod_eq_of_lt (by rw [lt64]; exact ha), Nat.mod_eq_of_lt (by rw [lt64]; exact hb)]
  exact wrapN (Nat.lt_of_le_of_lt Nat.and_le_left ha)
theorem or_lt {a b : Nat} (ha : a < 18446744073709551616) (hb : b < 18446744073709551616) : a ||| b < 18446744073709551616 := by
  rw [← lt64] at *
  exact Nat.or_lt_two_pow ha hb
theorem or_w {a b : Nat} (ha : a < 18446744073709551616) (hb : b < 18446744073709551616) : IntKind.wrap .u64 (((BitVec.ofInt 64 (a : Int) ||| BitVec.ofInt 64 (b : Int))).toNat : Nat) = ((a ||| b : Nat) : Int) := by
  rw [ofIntN, ofIntN, BitVec.toNat_or, BitVec.toNat_ofNat, BitVec.toNat_ofNat, Nat.mod_eq_of_lt (by rw [lt64]; exact ha), Nat.mod_eq_of_lt (by rw [lt64]; exact hb)]
  exact wrapN (or_lt ha hb)
/-- What is left of one number's bits without another's. -/
def andn (a b : Nat) : Nat := a &&& (18446744073709551615 - b)
theorem andn_w {a b : Nat} (ha : a < 18446744073709551616) (hb : b < 18446744073709551616) : IntKind.wrap .u64 (((BitVec.ofInt 64 (a : Int) &&& ~~~BitVec.ofInt 64 (b : Int))).toNat : Nat) = ((andn a b : Nat) : Int) := by
  rw [ofIntN, ofIntN, BitVec.toNat_and, BitVec.toNat_not, BitVec.toNat_ofNat, BitVec.toNat_ofNat, Nat.mod_eq_of_lt (by rw [lt64]; exact ha), Nat.mod_eq_of_lt (by rw [lt64]; exact hb)]
  have e : (2 : Nat) ^ 64 - 1 - b = 18446744073709551615 - b := by rw [lt64]
  rw [e]
  exact wrapN (Nat.lt_of_le_of_lt Nat.and_le_left ha)
theorem not_w {a : Nat} (ha : a < 18446744073709551616) : IntKind.wrap .u64 (((BitVec.ofInt 64 (18446744073709551615 : Int) ^^^ BitVec.ofInt 64 (a : Int))).toNat : Nat) = ((18446744073709551615 - a : Nat) : Int) := by
  have e1 : (18446744073709551615 : Int) = ((18446744073709551615 : Nat) : Int) := rfl
  rw [e1, ofIntN, ofIntN, BitVec.toNat_xor, BitVec.toNat_ofNat, BitVec.toNat_ofNat, Nat.mod_eq_of_lt (by rw [lt64]; omega), Nat.mod_eq_of_lt (by rw [lt64]; exact ha)]
  have key : 18446744073709551615 ^^^ a = 18446744073709551615 - a := by
    apply Nat.eq_of_testBit_eq
    intro j
    have h1 := Nat.testBit_two_pow_sub_succ (n := 64) (x := 0) (by decide) j
    have h2 := Nat.testBit_two_pow_sub_succ (n := 64) (x := a) (by rw [lt64]; exact ha) j
    rw [lt64] at h1 h2
    have e2 : 18446744073709551616 - (a + 1) = 18446744073709551615 - a := by omega
    rw [e2] at h2
    rw [Nat.testBit_xor, h2]
    have h3 : Nat.testBit 18446744073709551615 j = decide (j < 64) := by
      have := h1
      simpa using this
    rw [h3]
    by_cases hj : j < 64
    · simp [hj]
    · have : a.testBit j = false := Nat.testBit_lt_two_pow (Nat.lt_of_lt_of_le ha (by rw [← lt64]; exact Nat.pow_le_pow_right (by decide) (by omega)))
      simp [hj, this]
  rw [key]
  exact wrapN (by omega)
theorem shr_w (a : Nat) (r : Int) (h0 : 0 ≤ r) (h1 : r < 64) : (a : Int).fdiv (2 ^ min r.toNat 64) = ((a / 2 ^ r.toNat : Nat) : Int) := by
  rw [Nat.min_eq_left (by omega), Int.fdiv_eq_ediv_of_nonneg _ (Int.le_of_lt (Int.pow_pos (by decide)))]
  have : ((2 : Int) ^ r.toNat) = ((2 ^ r.toNat : Nat) : Int) := by simp
  rw [this]
  rfl
theorem shl_w (r : Int) (h0 : 0 ≤ r) (h1 : r < 64) : IntKind.wrap .u64 (1 * 2 ^ min r.toNat 64) = ((2 ^ r.toNat : Nat) : Int) := by
  have e : (1 : Int) * 2 ^ min r.toNat 64 = ((2 ^ r.toNat : Nat) : Int) := by
    rw [Nat.min_eq_left (by omega)]
    simp
  rw [e]
  refine wrapN ?_
  rw [← lt64]
  exact Nat.pow_lt_pow_right (by decide) (by omega)
theorem pow_lt (r : Nat) (h : r < 64) : 2 ^ r < 18446744073709551616 := by
  rw [← lt64]
  exact Nat.pow_lt_pow_right (by decide) h
/-- One bit. -/
theorem bit_w (a : Nat) (ha : a < 18446744073709551616) (r : Int) (h0 : 0 ≤ r) (h1 : r < 64) :
    decide (IntKind.wrap .u64 (((BitVec.ofInt 64 (Int.fdiv (a : Int) (2 ^ min r.toNat 64)) &&& BitVec.ofInt 64 1)).toNat : Nat) = 1) = a.testBit r.toNat := by
  rw [shr_w a r h0 h1]
  have e1 : (1 : Int) = ((1 : Nat) : Int) := rfl
  have hlt : a / 2 ^ r.toNat < 18446744073709551616 := Nat.lt_of_le_of_lt (Nat.div_le_self _ _) ha
  have hm : ∀ x : Nat, x &&& 1 = x % 2 := fun x => Nat.and_one_is_mod x
  rw [e1, and_w hlt (by decide), Nat.testBit, Nat.shiftRight_eq_div_pow, Nat.and_comm 1, hm]
  rcases Nat.mod_two_eq_zero_or_one (a / 2 ^ r.toNat) with h | h <;> simp [h]
theorem quo_w (i : Int) (h0 : 0 ≤ i) (h1 : i ≤ 9223372036854775807) : IntKind.wrap .i64 (i.tdiv 64) = i / 64 := by
  rw [Int.tdiv_eq_ediv_of_nonneg h0, wrap_i64 (by omega) (by omega)]
theorem rem_w (i : Int) (h0 : 0 ≤ i) : i.tmod 64 = i % 64 := Int.tmod_eq_emod_of_nonneg h0
theorem tb_or_pow (a r j : Nat) : (a ||| 2 ^ r).testBit j = (a.testBit j || decide (r = j)) := by
  rw [Nat.testBit_or, Nat.testBit_two_pow]
theorem tb_compl (a j : Nat) (ha : a < 18446744073709551616) : (18446744073709551615 - a).testBit j = (decide (j < 64) && !a.testBit j) := by
  have h2 := Nat.testBit_two_pow_sub_succ (n := 64) (x := a) (by rw [lt64]; exact ha) j
  rw [lt64] at h2
  have e2 : 18446744073709551616 - (a + 1) = 18446744073709551615 - a := by omega
  rw [e2] at h2
  exact h2
theorem tb_andn (a r j : Nat) (hr : r < 64) : (andn a (2 ^ r)).testBit j = (a.testBit j && decide (j < 64) && !decide (r = j)) := by
  unfold andn
  rw [Nat.testBit_and, tb_compl _ _ (pow_lt r hr), Nat.testBit_two_pow, Bool.and_assoc]
theorem tb_div (a r j : Nat) : (a / 2 ^ r).testBit j = a.testBit (r + j) := by
  rw [Nat.testBit_div_two_pow, Nat.add_comm]
/-! ### As it is printed -/
theorem and_k {a b : Nat} (ha : a < 18446744073709551616) (hb : b < 18446744073709551616) : IntKind.wrap .u64 (((BitVec.ofInt IntKind.u64.bits (a : Int) &&& BitVec.ofInt IntKind.u64.bits (b : Int))).toNat : Nat) = ((a &&& b : Nat) : Int) := and_w ha hb
theorem or_k {a b : Nat} (ha : a < 18446744073709551616) (hb : b < 18446744073709551616) : IntKind.wrap .u64 (((BitVec.ofInt IntKind.u64.bits (a : Int) ||| BitVec.ofInt IntKind.u64.bits (b : Int))).toNat : Nat) = ((a ||| b : Nat) : Int) := or_w ha hb
theorem andn_k {a b : Nat} (ha : a < 18446744073709551616) (hb : b < 18446744073709551616) : IntKind.wrap .u64 (((BitVec.ofInt IntKind.u64.bits (a : Int) &&& ~~~BitVec.ofInt IntKind.u64.bits (b : Int))).toNat : Nat) = ((andn a b : Nat) : Int) := andn_w ha hb
theorem not_k {a : Nat} (ha : a < 18446744073709551616) : IntKind.wrap .u64 (((BitVec.ofInt IntKind.u64.bits (IntKind.max .u64) ^^^ BitVec.ofInt IntKind.u64.bits (a : Int))).toNat : Nat) = ((18446744073709551615 - a : Nat) : Int) := not_w ha
theorem shr_k (a : Nat) (r : Int) (h0 : 0 ≤ r) (h1 : r < 64) : (a : Int).fdiv (2 ^ min r.toNat IntKind.u64.bits) = ((a / 2 ^ r.toNat : Nat) : Int) := shr_w a r h0 h1
theorem shl_k (r : Int) (h0 : 0 ≤ r) (h1 : r < 64) : IntKind.wrap .u64 (1 * 2 ^ min r.toNat IntKind.u64.bits) = ((2 ^ r.toNat : Nat) : Int) := shl_w r h0 h1
theorem bit_k (a : Nat) (ha : a < 18446744073709551616) (r : Int) (h0 : 0 ≤ r) (h1 : r < 64) :
    decide (IntKind.wrap .u64 (((BitVec.ofInt IntKind.u64.bits (Int.fdiv (a : Int) (2 ^ min r.toNat IntKind.u64.bits)) &&& BitVec.ofInt IntKind.u64.bits 1)).toNat : Nat) = 1) = a.testBit r.toNat := bit_w a ha r h0 h1
end Go.Proofs.YtcbbpidnocgoiaaDoor.Pu

/- Plain lemmas on how numbers are read out of bytes, and on numbers of so many bytes. -/
import Derived.Test.YtnejefipkmnioaaLib
import Derived.Test.YtnejefipkmnioaaWMore
namespace Go.Proofs.Ytnejefipkmnioaa.Lib
open Go.RowKit Go.Proofs.YtnejefipkmnioaaW.PrintWords Go.Proofs.YtnejefipkmnioaaW.PrintMore

/-- How a number is read: an error, or the number and how many bytes it took. -/
inductive DR where
  | bad (e : Int)
  | ok (n j : Nat)
def dec : Nat → Nat → Nat → List Int → DR
  | 0, _, _, _ => .bad 3
  | _ + 1, _, _, [] => .bad 2
  | m + 1, i, n, c :: t => if (m = 0 ∧ 1 < c) ∨ (0 < i ∧ c = 0) then .bad 3 else if c < 128 then .ok (n + c.toNat * 128 ^ i) (i + 1) else dec m (i + 1) (n + (c.toNat - 128) * 128 ^ i) t
/-- What a reader tells of it: the number, what is left, the error. -/
def tell (s : ByteArray) (most : Int) : DR → Int × ByteArray × Int
  | .bad e => (0, s, e)
  | .ok n j => if (n : Int) > most then (0, s, 4) else ((n : Int), s.extract j s.size, 0)
def numR (s : ByteArray) (most : Int) : Int × ByteArray × Int := tell s most (dec 10 0 0 (bytesOf s))

def numE (s : ByteArray) (e most : Int) : Int × ByteArray × Int := if e = 0 then numR s most else (0, s, e)
/-- The same, in another order. -/
def turnR (x : Int × ByteArray × Int) : ByteArray × Int × Int := (x.2.1, x.2.2, x.1)
theorem tell_size (s : ByteArray) (most : Int) (d : DR) : (tell s most d).2.1.size ≤ s.size := by
  cases d with
  | bad e => exact Nat.le_refl _
  | ok n j =>
    simp only [tell]
    split
    · exact Nat.le_refl _
    · show (s.extract j s.size).size ≤ s.size
      rw [ByteArray.size_extract]; omega
theorem numE_size (s : ByteArray) (e most : Int) : (numE s e most).2.1.size ≤ s.size := by
  unfold numE
  split
  · exact tell_size _ _ _
  · exact Nat.le_refl _
theorem pow128 (i : Nat) : (128 : Nat) ^ i = 2 ^ (7 * i) := by rw [Nat.pow_mul]
theorem and127 (c : Int) (h0 : 0 ≤ c) (h1 : c < 256) : Go.bits .and .u8 c 127 = c % 128 := bits_mask .u8 8 (by decide) wraps_u8' 7 (by decide) c h0 (by omega)
theorem nat_and128 : ∀ a : Nat, a < 256 → a &&& 128 = if a < 128 then 0 else 128 := by decide +kernel
theorem and128 (c : Int) (h0 : 0 ≤ c) (h1 : c < 256) : Go.bits .and .u8 c 128 = if c < 128 then 0 else 128 := by
  obtain ⟨a, rfl⟩ := Int.eq_ofNat_of_zero_le h0
  have h := (bits_nat .u8 8 (by decide) wraps_u8' a 128 (by omega) (by decide)).1
  have h2 := nat_and128 a (by omega)
  rw [show (128 : Int) = ((128 : Nat) : Int) from rfl, h, h2]
  by_cases hc : a < 128
  · rw [if_pos hc, if_pos (by omega)]; rfl
  · rw [if_neg hc, if_neg (by omega)]
theorem digit_bound (i d : Nat) (hi : i ≤ 9) (hd : d < 128) (h9 : i = 9 → d ≤ 1) : (d + 1) * 128 ^ i ≤ 18446744073709551616 := by
  by_cases h : i = 9
  · subst h
    have := h9 rfl
    calc (d + 1) * 128 ^ 9 ≤ 2 * 128 ^ 9 := Nat.mul_le_mul_right _ (by omega)
      _ ≤ 18446744073709551616 := by decide
  · have h8 : 128 ^ i ≤ 128 ^ 8 := Nat.pow_le_pow_right (by omega) (by omega)
    calc (d + 1) * 128 ^ i ≤ 128 * 128 ^ 8 := Nat.mul_le_mul (by omega) h8
      _ ≤ 18446744073709551616 := by decide
theorem shl_digit (i d : Nat) (hi : i ≤ 9) (hd : d < 128) (h9 : i = 9 → d ≤ 1) : shl .u64 (d : Int) ((7 * i : Nat) : Int) = ((d * 128 ^ i : Nat) : Int) := by
  have hb := digit_bound i d hi hd h9
  have hp : 0 < 128 ^ i := Nat.pow_pos (by omega)
  have hb2 : (d + 1) * 128 ^ i = d * 128 ^ i + 128 ^ i := by rw [Nat.add_mul, Nat.one_mul]
  unfold shl
  rw [Int.toNat_natCast, Nat.min_eq_left (by simp [IntKind.bits]; omega)]
  have e : (d : Int) * 2 ^ (7 * i) = ((d * 128 ^ i : Nat) : Int) := by rw [pow128]; simp
  rw [e]
  exact IntWalk.u64_in _ ⟨by omega, by omega⟩
theorem or_digit (i n d : Nat) (hi : i ≤ 9) (hn : n < 128 ^ i) (hd : d < 128) (h9 : i = 9 → d ≤ 1) : Go.bits .or .u64 (n : Int) (shl .u64 (d : Int) ((7 * i : Nat) : Int)) = ((n + d * 128 ^ i : Nat) : Int) := by
  have hb := digit_bound i d hi hd h9
  have hp : 0 < 128 ^ i := Nat.pow_pos (by omega)
  have hb2 : (d + 1) * 128 ^ i = d * 128 ^ i + 128 ^ i := by rw [Nat.add_mul, Nat.one_mul]
  rw [shl_digit i d hi hd h9, (bits_nat .u64 64 (by decide) wraps_u64 n (d * 128 ^ i) (by omega) (by omega)).2]
  rw [Nat.or_comm, Nat.mul_comm d, pow128]
  rw [pow128] at hn
  rw [← Nat.two_pow_add_eq_or_of_lt hn d, Nat.add_comm]
theorem add_digit (i n d : Nat) (hi : i ≤ 9) (hn : n < 128 ^ i) (hd : d < 128) (h9 : i = 9 → d ≤ 1) : IntKind.u64.wrap ((n : Int) + shl .u64 (d : Int) ((7 * i : Nat) : Int)) = ((n + d * 128 ^ i : Nat) : Int) := by
  have hb := digit_bound i d hi hd h9
  have hb2 : (d + 1) * 128 ^ i = d * 128 ^ i + 128 ^ i := by rw [Nat.add_mul, Nat.one_mul]
  rw [shl_digit i d hi hd h9, ← Int.natCast_add]
  exact IntWalk.u64_in _ ⟨by omega, by omega⟩
theorem next_digit (i n d : Nat) (hn : n < 128 ^ i) (hd : d < 128) : n + d * 128 ^ i < 128 ^ (i + 1) := by
  have h1 : (d + 1) * 128 ^ i ≤ 128 * 128 ^ i := Nat.mul_le_mul_right _ (by omega)
  rw [Nat.pow_succ, Nat.mul_comm (128 ^ i)]
  rw [Nat.add_mul, Nat.one_mul] at h1
  omega
/-- A number's bytes are read as it. -/
theorem dec_nb (n : Nat) : ∀ (m i acc : Nat) (t : List Int), m + i = 10 → n * 128 ^ i < 18446744073709551616 → (0 < i → 0 < n) → dec m i acc (nb n ++ t) = .ok (acc + n * 128 ^ i) (i + (nb n).length) := by
  induction n using Nat.strongRecOn with
  | ind n ih =>
    intro m i acc t hm hn hi
    have h1 : i ≤ 9 := by
      by_cases h : i ≤ 9
      · exact h
      · have hi10 : i = 10 := by omega
        subst hi10
        have := hi (by omega)
        have h2 : 1 * 128 ^ 10 ≤ n * 128 ^ 10 := Nat.mul_le_mul_right _ (by omega)
        omega
    obtain ⟨m, rfl⟩ : ∃ q, m = q + 1 := ⟨m - 1, by omega⟩
    have h9 : m = 0 → n < 2 := by
      intro h0
      have : i = 9 := by omega
      subst this
      omega
    by_cases h : n < 128
    · rw [nb_low h]
      simp only [List.cons_append, List.nil_append, dec, List.length_singleton]
      rw [if_neg (by omega), if_pos (by omega), Int.toNat_natCast]
    · rw [nb_high h]
      simp only [List.cons_append, dec, List.length_cons]
      rw [if_neg (by omega), if_neg (by omega)]
      have e : (((128 + n % 128 : Nat) : Int)).toNat - 128 = n % 128 := by omega
      have hs : n / 128 * 128 ^ (i + 1) + n % 128 * 128 ^ i = n * 128 ^ i := by
        rw [Nat.pow_succ, Nat.mul_comm (128 ^ i) 128, ← Nat.mul_assoc, ← Nat.add_mul, Nat.div_add_mod']
      rw [e, ih (n / 128) (by omega) m (i + 1) _ t (by omega) (by omega) (by omega)]
      have e5 : acc + n % 128 * 128 ^ i + n / 128 * 128 ^ (i + 1) = acc + n * 128 ^ i := by omega
      have e6 : i + 1 + (nb (n / 128)).length = i + ((nb (n / 128)).length + 1) := by omega
      rw [e5, e6]
theorem numR_nb (s : ByteArray) (n : Nat) (t : List Int) (hn : n < 18446744073709551616) (hs : bytesOf s = nb n ++ t) (most : Int) : numR s most = if (n : Int) > most then (0, s, 4) else ((n : Int), s.extract (nb n).length s.size, 0) := by
  unfold numR
  rw [hs, dec_nb n 10 0 0 t (by omega) (by omega) (by omega)]
  simp only [tell]
  rw [Nat.pow_zero, Nat.mul_one, Nat.zero_add, Nat.zero_add]
theorem bytes_rest (s : ByteArray) (a t : List Int) (hs : bytesOf s = a ++ t) : bytesOf (s.extract a.length s.size) = t := by
  rw [bytesOf_extract, List.take_of_length_le (by rw [bytesOf_length]; exact Nat.le_refl _), hs, List.drop_left]
theorem bytes_front (s : ByteArray) (a t : List Int) (hs : bytesOf s = a ++ t) : bytesOf (s.extract 0 a.length) = a := by
  rw [bytesOf_extract, hs, List.take_left, List.drop_zero]

/-! ### Numbers of so many bytes -/
/-- A number's lowest bytes, the lowest first. -/
def fb : Nat → Nat → List Int
  | 0, _ => []
  | k + 1, n => ((n % 256 : Nat) : Int) :: fb k (n / 256)
theorem fb_len (k : Nat) : ∀ n, (fb k n).length = k := by
  induction k with
  | zero => intro n; rfl
  | succ k ih => intro n; simp [fb, ih]
theorem fb_ab (k : Nat) : ∀ n, AB (fb k n) := by
  induction k with
  | zero => intro n; exact AB.nil
  | succ k ih => intro n; exact AB.cons (by omega) (by omega) (ih _)
/-- What bytes say, the lowest first. -/
def lv : List Int → Nat
  | [] => 0
  | c :: t => c.toNat + 256 * lv t
theorem lv_lt : ∀ l : List Int, AB l → lv l < 256 ^ l.length
  | [], _ => by simp [lv]
  | c :: t, h => by
    have h1 := h.head
    have h2 := lv_lt t h.tail
    simp only [lv, List.length_cons]
    rw [Nat.pow_succ]
    omega
theorem lv_fb (k : Nat) : ∀ n, lv (fb k n) = n % 256 ^ k := by
  induction k with
  | zero => intro n; simp [fb, lv, Nat.mod_one]
  | succ k ih =>
    intro n
    simp only [fb, lv]
    rw [ih, Int.toNat_natCast, Nat.pow_succ, Nat.mul_comm (256 ^ k) 256, Nat.mod_mul]
theorem mask_u64 (n k : Nat) (hn : n < 18446744073709551616) (hk : k < 8) : Go.bits .and .u64 (n : Int) (IntKind.u64.wrap ((IntKind.u64.wrap (2 ^ (8 * k))) - 1)) = ((n % 256 ^ k : Nat) : Int) := by
  have hp : (2 : Nat) ^ (8 * k) ≤ 2 ^ 56 := Nat.pow_le_pow_right (by omega) (by omega)
  have hq : 0 < (2 : Nat) ^ (8 * k) := Nat.pow_pos (by omega)
  have e : (2 : Int) ^ (8 * k) = ((2 ^ (8 * k) : Nat) : Int) := by simp
  rw [e, IntWalk.u64_in ((2 ^ (8 * k) : Nat) : Int) ⟨by omega, by omega⟩, IntWalk.u64_in _ ⟨by omega, by omega⟩, ← e, bits_mask .u64 64 (by decide) wraps_u64 (8 * k) (by omega) (n : Int) (by omega) (by omega), e]
  have e2 : (256 : Nat) ^ k = 2 ^ (8 * k) := by rw [Nat.pow_mul]
  rw [e2]
  simp
end Go.Proofs.Ytnejefipkmnioaa.Lib

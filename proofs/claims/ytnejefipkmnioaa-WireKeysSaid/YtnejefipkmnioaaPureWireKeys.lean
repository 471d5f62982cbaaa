/- Keys of numbers stand in order as numbers do, are the document's, and are read again: for every two numbers and every text. -/
import Derived.Test.YtnejefipkmnioaaPWireKeysx2
import Derived.Test.YtnejefipkmnioaaLib
namespace Go.Proofs.Ytnejefipkmnioaa.Pure
open Go.RowKit Go.Proofs.Ytnejefipkmnioaa.PWireKeys Go.Proofs.YtnejefipkmnioaaW.PrintWords Go.Proofs.YtnejefipkmnioaaW.PrintLast Go.Proofs.Ytnejefipkmnioaa.Lib
/-! ### wire.Key, and the document's -/
theorem wireKey_loop (n : Nat) : ∀ (k : Nat) (acc : List Int), (kb n).length < k → (kb n).length + acc.length < 1000 →
    wire_Key.l0 k (n : Int) acc = some (strOfNums ((((((kb n).length + acc.length : Nat) : Int) % 256)) :: (kb n ++ acc))) := by
  induction n using Nat.strongRecOn with
  | ind n ih =>
    intro k acc hk hl
    obtain ⟨k, rfl⟩ : ∃ m, k = m + 1 := ⟨k - 1, by omega⟩
    by_cases h : n = 0
    · subst h
      simp only [wire_Key.l0]
      rw [if_neg (by omega)]
      simp only [Option.bind_some]
      rw [if_pos (by simp; omega)]
      simp [kb_zero]
    · have e := kb_pos (show 0 < n by omega)
      have el : (kb n).length = (kb (n / 256)).length + 1 := by rw [e]; simp
      simp only [wire_Key.l0]
      rw [if_pos (by omega)]
      simp only [Option.bind_some]
      rw [if_pos (by simp; omega)]
      have e1 : (n : Int) / 256 = ((n / 256 : Nat) : Int) := by omega
      have e2 : (n : Int) % 256 = ((n % 256 : Nat) : Int) := by omega
      rw [e1, e2, ih (n / 256) (by omega) k _ (by omega) (by simp; omega)]
      have e3 : (kb (n / 256)).length + ([((n % 256 : Nat) : Int)] ++ acc).length = (kb n).length + acc.length := by rw [el]; simp; omega
      rw [e3, e, List.append_assoc]
theorem wireKey_f (a : Nat) (h : a < 18446744073709551616) (k : Nat) (hk : 8 < k) : wire_Key.f k (a : Int) = some (strOfNums (key a)) := by
  have h8 := kb_len8 a h
  unfold wire_Key.f
  rw [wireKey_loop a k [] (by omega) (by simp; omega)]
  have e : (((kb a).length + ([] : List Int).length : Nat) : Int) % 256 = ((kb a).length : Int) := by simp; omega
  rw [e, List.append_nil]
  rfl
theorem refKey_loop (n : Nat) : ∀ (k : Nat) (acc : List Int), n < 18446744073709551616 → (kb n).length < k → (kb n).length + acc.length < 1000 →
    keywayref03_Key.l0 k (n : Int) (strOfNums acc) = some (strOfNums ((((((kb n).length + acc.length : Nat) : Int) % 256)) :: (kb n ++ acc))) := by
  induction n using Nat.strongRecOn with
  | ind n ih =>
    intro k acc hn hk hl
    obtain ⟨k, rfl⟩ : ∃ m, k = m + 1 := ⟨k - 1, by omega⟩
    by_cases h : n = 0
    · subst h
      simp only [keywayref03_Key.l0]
      rw [if_neg (by omega)]
      simp only [Option.bind_some]
      rw [if_pos (by rw [strOfNums_size, strOfNums_size]; simp; omega), ← str_app, strOfNums_size]
      simp [kb_zero]
    · have e := kb_pos (show 0 < n by omega)
      have el : (kb n).length = (kb (n / 256)).length + 1 := by rw [e]; simp
      simp only [keywayref03_Key.l0]
      rw [if_pos (by omega)]
      simp only [Option.bind_some]
      rw [if_pos (by rw [strOfNums_size, strOfNums_size]; simp; omega)]
      have e1 : IntKind.u64.wrap (Int.tdiv (n : Int) 256) = ((n / 256 : Nat) : Int) := by
        rw [Int.tdiv_eq_ediv_of_nonneg (by omega), IntWalk.u64_in _ ⟨by omega, by omega⟩]; omega
      have e2 : Int.tmod (n : Int) 256 % 256 = ((n % 256 : Nat) : Int) := by
        rw [Int.tmod_eq_emod_of_nonneg (by omega)]; omega
      rw [e1, e2, ← str_app, ih (n / 256) (by omega) k _ (by omega) (by omega) (by simp; omega)]
      have e3 : (kb (n / 256)).length + ([((n % 256 : Nat) : Int)] ++ acc).length = (kb n).length + acc.length := by rw [el]; simp; omega
      rw [e3, e, List.append_assoc]
theorem refKey_f (a : Nat) (h : a < 18446744073709551616) (k : Nat) (hk : 8 < k) : keywayref03_Key.f k (a : Int) = some (strOfNums (key a)) := by
  have h8 := kb_len8 a h
  unfold keywayref03_Key.f
  have h0 := refKey_loop a k [] h (by omega) (by simp; omega)
  have e : (((kb a).length + ([] : List Int).length : Nat) : Int) % 256 = ((kb a).length : Int) := by simp; omega
  rw [e, List.append_nil] at h0
  exact h0
/-! ### wire.Num -/
theorem wireNum_loop (n : Nat) : ∀ (k : Nat) (acc : List Int), (nb n).length ≤ k → (nb n).length + acc.length < 1000 →
    wire_Num.l0 k (n : Int) acc = some (strOfNums (acc ++ nb n)) := by
  induction n using Nat.strongRecOn with
  | ind n ih =>
    intro k acc hk hl
    have hp := nb_pos n
    obtain ⟨k, rfl⟩ : ∃ m, k = m + 1 := ⟨k - 1, by omega⟩
    by_cases h : n < 128
    · simp only [wire_Num.l0]
      rw [if_neg (by omega), if_pos (by omega), nb_low h]
      have e2 : (n : Int) % 256 = (n : Int) := by omega
      rw [e2]
    · have e := nb_high h
      have el : (nb n).length = (nb (n / 128)).length + 1 := by rw [e]; simp
      simp only [wire_Num.l0]
      rw [if_pos (by omega), if_pos (by omega), or128 _ (by omega) (by omega)]
      have e1 : (n : Int) / 128 = ((n / 128 : Nat) : Int) := by omega
      have e2 : 128 + (n : Int) % 256 % 128 = ((128 + n % 128 : Nat) : Int) := by omega
      rw [e1, e2, ih (n / 128) (by omega) k _ (by omega) (by simp; omega), e, List.append_assoc]
      rfl
theorem wireNum_f (a : Nat) (h : a < 18446744073709551616) (k : Nat) (hk : 10 ≤ k) : wire_Num.f k (a : Int) = some (strOfNums (nb a)) := by
  have h8 := nb_len10 a h
  unfold wire_Num.f
  rw [wireNum_loop a k [] (by omega) (by simp; omega)]
  rfl
theorem key258 : key 258 = [2, 1, 2] := by
  unfold key
  rw [kb_pos (by omega), kb_pos (by omega), kb_zero]
  rfl
theorem nb300 : nb 300 = [172, 2] := by
  rw [nb_high (by omega), nb_low (by omega)]
  rfl
theorem awake03 (k : Nat) (hk : 10 ≤ k) : keywaylaw03_awake.f k = some true := by
  unfold keywaylaw03_awake.f
  have h1 := wireNum_f 300 (by omega) k hk
  have h2 := wireKey_f 258 (by omega) k (by omega)
  rw [nb300] at h1
  rw [key258] at h2
  rw [show (300 : Int) = ((300 : Nat) : Int) from rfl, h1]
  simp only [Option.bind_some]
  have e1 : (strOfNums [172, 2]).toList = ([172, 2] : List UInt8) := toList_is.2 (by rw [of_str (nb300 ▸ nb_ab 300)]; rfl)
  have e2 : (strOfNums [2, 1, 2]).toList = ([2, 1, 2] : List UInt8) := toList_is.2 (by rw [of_str (key258 ▸ key_ab 258 (by omega))]; rfl)
  rw [if_pos e1, show (258 : Int) = ((258 : Nat) : Int) from rfl, h2]
  simp only [Option.bind_some]
  rw [e2]
  rfl
/-! ### wire.Unkey -/
theorem unkey_loop (s : ByteArray) (K : Nat) (hK : K ≤ s.size) (hK9 : K ≤ 9) (d : Nat) : ∀ (k i a : Nat), i ≤ K → K - i = d → d < k → 1 ≤ i → (a + 1) * 256 ^ d ≤ 256 ^ 8 →
    wire_Unkey.l0 k s (K : Int) (a : Int) (i : Int) = some (val (a : Int) (((bytesOf s).take K).drop i), s.extract K s.size, true) := by
  have hsz := bytesOf_length s
  induction d with
  | zero =>
    intro k i a hi hd hk h1 ha
    obtain ⟨k, rfl⟩ : ∃ m, k = m + 1 := ⟨k - 1, by omega⟩
    obtain rfl : i = K := by omega
    simp only [wire_Unkey.l0]
    rw [if_neg (by omega), if_pos (by omega), if_pos (by omega)]
    rw [List.drop_of_length_le (by simp; omega)]
    rfl
  | succ d ih =>
    intro k i a hi hd hk h1 ha
    obtain ⟨k, rfl⟩ : ∃ m, k = m + 1 := ⟨k - 1, by omega⟩
    have hb := (bytesOf_ab s).rd_ (i : Int)
    obtain ⟨c, hc⟩ : ∃ c : Nat, rd (bytesOf s) (i : Int) = (c : Int) := Int.eq_ofNat_of_zero_le hb.1
    have hc' : c < 256 := by rw [hc] at hb; omega
    have hp : 0 < 256 ^ d := Nat.two_pow_pos (8 * d) |> fun h => by rw [Nat.pow_mul] at h; exact h
    have ha2 : (a + 1) * 256 ≤ 256 ^ 8 := by
      have e : (a + 1) * 256 ^ (d + 1) = (a + 1) * 256 * 256 ^ d := by rw [Nat.pow_succ, Nat.mul_assoc, Nat.mul_comm 256]
      rw [e] at ha
      exact Nat.le_trans (Nat.le_mul_of_pos_right _ hp) ha
    have ha3 : (a * 256 + c + 1) * 256 ^ d ≤ 256 ^ 8 := by
      have e : (a + 1) * 256 ^ (d + 1) = (a + 1) * 256 * 256 ^ d := by rw [Nat.pow_succ, Nat.mul_assoc, Nat.mul_comm 256]
      rw [e] at ha
      exact Nat.le_trans (Nat.mul_le_mul_right _ (by omega)) ha
    simp only [wire_Unkey.l0]
    rw [if_pos (by omega), if_pos (by omega), if_pos (by omega), bt_of, hc, or_byte _ _ (by omega) (by omega) (by omega) (by omega), wrap64_of (by omega) (by omega)]
    have e1 : (a : Int) * 256 + (c : Int) = ((a * 256 + c : Nat) : Int) := by omega
    have e2 : (i : Int) + 1 = ((i + 1 : Nat) : Int) := by omega
    rw [e1, e2, ih k (i + 1) (a * 256 + c) (by omega) (by omega) (by omega) (by omega) ha3]
    have e3 : ((bytesOf s).take K).drop i = (c : Int) :: ((bytesOf s).take K).drop (i + 1) := by
      rw [drop_cons_rd _ _ (by simp; omega), rd_take _ _ _ (by omega) (by omega), hc]
    rw [e3, val_cons, e1]
theorem unkey_ok (s : ByteArray) (c : Nat) (t : List Int) (hs : bytesOf s = (c : Int) :: t) (hc : c ≤ 8) (ht : c ≤ t.length) (h0 : 0 < c → rd t 0 ≠ 0) (k : Nat) (hk : 10 < k) :
    wire_Unkey.f k s = some (val 0 (t.take c), s.extract (c + 1) s.size, true) := by
  have hsz := bytesOf_length s
  rw [hs, List.length_cons] at hsz
  have hb0 : bt s 0 = (c : Int) := by rw [bt_of, hs]; rfl
  have hb1 : bt s 1 = rd t 0 := by rw [bt_of, hs, rd_cons_succ _ _ _ (by omega)]; rfl
  have hj : wire_Unkey.j0 k s false = some (val 0 (t.take c), s.extract (c + 1) s.size, true) := by
    obtain ⟨k, rfl⟩ : ∃ m, k = m + 1 := ⟨k - 1, by omega⟩
    simp only [wire_Unkey.j0]
    rw [if_neg (by simp), if_pos (by omega), hb0, wrap64_of (n := (c : Int)) (by omega) (by omega), wrap64_of (by omega) (by omega)]
    have e1 : (c : Int) + 1 = ((c + 1 : Nat) : Int) := by omega
    have h := unkey_loop s (c + 1) (by omega) (by omega) c k 1 0 (by omega) (by omega) (by omega) (by omega) (by
      rw [Nat.zero_add, Nat.one_mul]; exact Nat.pow_le_pow_right (by omega) hc)
    rw [hs, List.take_succ_cons, List.drop_succ_cons, List.drop_zero] at h
    rw [e1]
    exact h
  unfold wire_Unkey.f
  rw [if_neg (by rw [toList_is, hs]; simp), if_pos (by omega), hb0, if_neg (by omega), wrap64_of (by omega) (by omega), if_neg (by omega)]
  by_cases hp : 0 < c
  · rw [if_pos (by omega), if_pos (by omega), hb1, show (rd t 0 == 0) = false from by rw [beq_eq_false_iff_ne]; exact h0 hp]
    exact hj
  · rw [if_neg (by omega)]
    exact hj
theorem rd_key_head (a : Nat) (t : List Int) (h : 0 < (kb a).length) : rd (kb a ++ t) 0 ≠ 0 := by
  have h0 : 0 < a := by
    cases a with
    | zero => rw [kb_zero] at h; simp at h
    | succ a => omega
  obtain ⟨c, r, e, hc⟩ := kb_head a h0
  rw [e]
  show c ≠ 0
  omega
theorem WireKeys : keywaylaw03_WireKeys.Pure := by
  intro a0 a1 s w0 w1 hs
  have b0 := wf_u64 w0
  have b1 := wf_u64 w1
  obtain ⟨a, rfl⟩ := Int.eq_ofNat_of_zero_le b0.1
  obtain ⟨b, rfl⟩ := Int.eq_ofNat_of_zero_le b1.1
  have ha : a < 18446744073709551616 := by omega
  have hb : b < 18446744073709551616 := by omega
  refine ⟨20, ?_⟩
  unfold keywaylaw03_WireKeys.f
  rw [wireKey_f a ha 20 (by omega), wireKey_f b hb 20 (by omega)]
  simp only [Option.bind_some]
  have hm : 0 ≤ mn (s.size : Int) 20 ∧ mn (s.size : Int) 20 ≤ (s.size : Int) ∧ mn (s.size : Int) 20 ≤ 20 := by unfold mn; omega
  rw [if_pos hm.1, if_pos hm.2.1]
  generalize hT : s.extract 0 (mn (s.size : Int) 20).toNat = t
  have hka := key_ab a ha
  have hkb := key_ab b hb
  have h8 := kb_len8 a ha
  have hts : t.size ≤ 20 := by
    rw [← hT, size_of, bytesOf_extract, List.drop_zero, List.length_take]
    omega
  rw [if_pos (by rw [strOfNums_size]; unfold key; simp; omega)]
  have hx : bytesOf (strOfNums (key a) ++ t) = ((kb a).length : Int) :: (kb a ++ bytesOf t) := by
    rw [bytesOf_append, of_str hka]; rfl
  rw [unkey_ok _ (kb a).length _ hx h8 (by simp) (rd_key_head a _) 20 (by omega)]
  simp only [Option.bind_some]
  rw [awake03 20 (by omega), refKey_f a ha 20 (by omega)]
  simp only [Option.bind_some, if_true]
  rw [bytesLess_str, of_str hka, of_str hkb, key_ltL, if_pos (by
    rw [beq_iff_eq, decide_eq_decide]; omega)]
  rw [toList_beq, of_str hka, of_str hkb, if_pos (by
    rw [beq_iff_eq, Bool.eq_iff_iff, beq_iff_eq, beq_iff_eq]
    exact ⟨fun h => by rw [key_inj h], fun h => by rw [show a = b by omega]⟩)]
  rw [if_pos (by rw [List.take_left, val_kb])]
  rw [toList_beq, bytesOf_extract, hx]
  have hz : (strOfNums (key a) ++ t).size = (kb a).length + 1 + t.size := by
    rw [size_of, hx, List.length_cons, List.length_append, bytesOf_length]; omega
  rw [hz, List.take_of_length_le (by rw [List.length_cons, List.length_append, bytesOf_length]; omega), List.drop_succ_cons, List.drop_left]
  simp
end Go.Proofs.Ytnejefipkmnioaa.Pure

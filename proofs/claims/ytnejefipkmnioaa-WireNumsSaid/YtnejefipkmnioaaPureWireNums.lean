/- Numbers have the document's bytes, and are read again, up to any limit: for every number and every limit. -/
import Derived.Test.YtnejefipkmnioaaQWireNumsx2
import Derived.Test.YtnejefipkmnioaaLibR
namespace Go.Proofs.Ytnejefipkmnioaa.Pure
open Go.RowKit Go.Proofs.Ytnejefipkmnioaa.QWireNums Go.Proofs.YtnejefipkmnioaaW.PrintWords Go.Proofs.YtnejefipkmnioaaW.PrintLast Go.Proofs.YtnejefipkmnioaaW.PrintMore Go.Proofs.Ytnejefipkmnioaa.Lib
/-! ### wire.Key, and the document's -/
theorem wireKey_loop (n : Nat) : ∀ (k : Nat) (acc : List Int), (kb n).length < k → (kb n).length + acc.length < 1000 →
    wire_Key.l0 k (n : Int) acc = some (strOfNums ((((((kb n).length + acc.length : Nat) : Int) % 256)) :: (kb n ++ acc))) := by
  induction n using Nat.strongRecOn with
  | ind n ih =>
    intro k acc hk hl
    obtain ⟨k, rfl⟩ : ∃ m, k = m + 1 := ⟨k - 1, by omega⟩
    by_cases h : n = 0
    · subst h
      simp only [wire_Key.l0]
      rw [if_neg (by omega)]
      simp only [Option.bind_some]
      rw [if_pos (by simp; omega)]
      simp [kb_zero]
    · have e := kb_pos (show 0 < n by omega)
      have el : (kb n).length = (kb (n / 256)).length + 1 := by rw [e]; simp
      simp only [wire_Key.l0]
      rw [if_pos (by omega)]
      simp only [Option.bind_some]
      rw [if_pos (by simp; omega)]
      have e1 : (n : Int) / 256 = ((n / 256 : Nat) : Int) := by omega
      have e2 : (n : Int) % 256 = ((n % 256 : Nat) : Int) := by omega
      rw [e1, e2, ih (n / 256) (by omega) k _ (by omega) (by simp; omega)]
      have e3 : (kb (n / 256)).length + ([((n % 256 : Nat) : Int)] ++ acc).length = (kb n).length + acc.length := by rw [el]; simp; omega
      rw [e3, e, List.append_assoc]
theorem wireKey_f (a : Nat) (h : a < 18446744073709551616) (k : Nat) (hk : 8 < k) : wire_Key.f k (a : Int) = some (strOfNums (key a)) := by
  have h8 := kb_len8 a h
  unfold wire_Key.f
  rw [wireKey_loop a k [] (by omega) (by simp; omega)]
  have e : (((kb a).length + ([] : List Int).length : Nat) : Int) % 256 = ((kb a).length : Int) := by simp; omega
  rw [e, List.append_nil]
  rfl
/-! ### wire.Num -/
theorem wireNum_loop (n : Nat) : ∀ (k : Nat) (acc : List Int), (nb n).length ≤ k → (nb n).length + acc.length < 1000 →
    wire_Num.l0 k (n : Int) acc = some (strOfNums (acc ++ nb n)) := by
  induction n using Nat.strongRecOn with
  | ind n ih =>
    intro k acc hk hl
    have hp := nb_pos n
    obtain ⟨k, rfl⟩ : ∃ m, k = m + 1 := ⟨k - 1, by omega⟩
    by_cases h : n < 128
    · simp only [wire_Num.l0]
      rw [if_neg (by omega), if_pos (by omega), nb_low h]
      have e2 : (n : Int) % 256 = (n : Int) := by omega
      rw [e2]
    · have e := nb_high h
      have el : (nb n).length = (nb (n / 128)).length + 1 := by rw [e]; simp
      simp only [wire_Num.l0]
      rw [if_pos (by omega), if_pos (by omega), or128 _ (by omega) (by omega)]
      have e1 : (n : Int) / 128 = ((n / 128 : Nat) : Int) := by omega
      have e2 : 128 + (n : Int) % 256 % 128 = ((128 + n % 128 : Nat) : Int) := by omega
      rw [e1, e2, ih (n / 128) (by omega) k _ (by omega) (by simp; omega), e, List.append_assoc]
      rfl
theorem wireNum_f (a : Nat) (h : a < 18446744073709551616) (k : Nat) (hk : 10 ≤ k) : wire_Num.f k (a : Int) = some (strOfNums (nb a)) := by
  have h8 := nb_len10 a h
  unfold wire_Num.f
  rw [wireNum_loop a k [] (by omega) (by simp; omega)]
  rfl
theorem key258 : key 258 = [2, 1, 2] := by
  unfold key
  rw [kb_pos (by omega), kb_pos (by omega), kb_zero]
  rfl
theorem nb300 : nb 300 = [172, 2] := by
  rw [nb_high (by omega), nb_low (by omega)]
  rfl
theorem awake03 (k : Nat) (hk : 10 ≤ k) : keywaylaw03_awake.f k = some true := by
  unfold keywaylaw03_awake.f
  have h1 := wireNum_f 300 (by omega) k hk
  have h2 := wireKey_f 258 (by omega) k (by omega)
  rw [nb300] at h1
  rw [key258] at h2
  rw [show (300 : Int) = ((300 : Nat) : Int) from rfl, h1]
  simp only [Option.bind_some]
  have e1 : (strOfNums [172, 2]).toList = ([172, 2] : List UInt8) := toList_is.2 (by rw [of_str (nb300 ▸ nb_ab 300)]; rfl)
  have e2 : (strOfNums [2, 1, 2]).toList = ([2, 1, 2] : List UInt8) := toList_is.2 (by rw [of_str (key258 ▸ key_ab 258 (by omega))]; rfl)
  rw [if_pos e1, show (258 : Int) = ((258 : Nat) : Int) from rfl, h2]
  simp only [Option.bind_some]
  rw [e2]
  rfl
/-! ### wire.Reader -/
theorem rnum_loop (s : ByteArray) (most : Int) (_hs : s.size < 9223372036854775808) (m : Nat) : ∀ (k i n : Nat), m + i = 10 → 2 * m + 2 ≤ k → n < 128 ^ i → i ≤ s.size →
    wire_Reader_Num.l0 k most (n : Int) (i : Int) s 0 = some (tell s most (dec m i n ((bytesOf s).drop i))) := by
  have hsz := bytesOf_length s
  induction m with
  | zero =>
    intro k i n hm hk hn hi
    obtain ⟨k, rfl⟩ : ∃ q, k = q + 1 := ⟨k - 1, by omega⟩
    simp only [wire_Reader_Num.l0]
    rw [if_neg (by omega)]
    rfl
  | succ m ih =>
    intro k i n hm hk hn hi
    obtain ⟨k, rfl⟩ : ∃ q, k = q + 2 := ⟨k - 2, by omega⟩
    have h1 : i ≤ 9 := by clear hn; omega
    have HN : ∀ _ : Unit, n < 128 ^ i := fun _ => hn
    clear hn
    simp only [wire_Reader_Num.l0]
    rw [if_pos (by omega)]
    by_cases he : i = s.size
    · rw [if_pos (by omega), List.drop_of_length_le (by omega)]
      rfl
    · have hb := (bytesOf_ab s).rd_ (i : Int)
      obtain ⟨c, hc⟩ : ∃ c : Nat, rd (bytesOf s) (i : Int) = (c : Int) := Int.eq_ofNat_of_zero_le hb.1
      rw [hc] at hb
      have hd : (bytesOf s).drop i = (c : Int) :: (bytesOf s).drop (i + 1) := by rw [drop_cons_rd _ _ (by omega), hc]
      rw [if_neg (by omega), if_pos (by omega), if_pos (by omega), bt_of, hc, hd]
      simp only [dec]
      have hi7 : wrap64 (7 * (i : Int)) = ((7 * i : Nat) : Int) := by rw [wrap64_of (by omega) (by omega)]; omega
      have hi1 : wrap64 ((i : Int) + 1) = ((i + 1 : Nat) : Int) := by rw [wrap64_of (by omega) (by omega)]; omega
      have hjT : wire_Reader_Num.j1 (k + 1) most (n : Int) (i : Int) (c : Int) (i : Int) true s 0 = some (0, s, 3) := by
        simp only [wire_Reader_Num.j1]
        rw [if_pos trivial]
        rfl
      have hjF : (i = 9 → c ≤ 1) → wire_Reader_Num.j1 (k + 1) most (n : Int) (i : Int) (c : Int) (i : Int) false s 0 =
          some (tell s most (if (c : Int) < 128 then .ok (n + ((c : Int)).toNat * 128 ^ i) (i + 1) else dec m (i + 1) (n + (((c : Int)).toNat - 128) * 128 ^ i) ((bytesOf s).drop (i + 1)))) := by
        intro h9
        simp only [wire_Reader_Num.j1]
        rw [if_neg (by simp), hi7, if_pos (by omega), and128 _ (by omega) (by omega), and127 _ (by omega) (by omega)]
        have hcm : (c : Int) % 128 = ((c % 128 : Nat) : Int) := by omega
        rw [hcm, IntWalk.u64_in _ ⟨by omega, by omega⟩, or_digit i n (c % 128) h1 (HN ()) (by omega) (by omega), hi1]
        by_cases hlt : (c : Int) < 128
        · have e1 : ((c : Int)).toNat = c % 128 := by omega
          rw [if_pos hlt, if_pos rfl, if_pos hlt, e1]
          simp only [tell]
          by_cases ho : ((n + c % 128 * 128 ^ i : Nat) : Int) > most
          · rw [if_pos ho, if_pos ho]; rfl
          · rw [if_neg ho, if_neg ho, if_pos (by omega), if_pos (by omega), Int.toNat_natCast]
        · have e1 : ((c : Int)).toNat - 128 = c % 128 := by omega
          rw [if_neg hlt, if_neg (by omega), if_neg hlt, e1]
          exact ih k (i + 1) (n + c % 128 * 128 ^ i) (by omega) (by omega) (next_digit i n _ (HN ()) (by omega)) (by omega)
      by_cases hi9 : (i : Int) = 9
      · rw [if_pos hi9]
        by_cases hc1 : (c : Int) > 1
        · rw [if_pos hc1, hjT, if_pos (show (m = 0 ∧ 1 < (c : Int)) ∨ (0 < i ∧ (c : Int) = 0) by omega)]; rfl
        · rw [if_neg hc1, if_pos (show (i : Int) > 0 by omega)]
          by_cases hc0 : (c : Int) = 0
          · rw [show ((c : Int) == 0) = true from by rw [beq_iff_eq]; exact hc0, hjT, if_pos (show (m = 0 ∧ 1 < (c : Int)) ∨ (0 < i ∧ (c : Int) = 0) by omega)]; rfl
          · rw [show ((c : Int) == 0) = false from by rw [beq_eq_false_iff_ne]; exact hc0, hjF (by omega), if_neg (show ¬ ((m = 0 ∧ 1 < (c : Int)) ∨ (0 < i ∧ (c : Int) = 0)) by omega)]
      · rw [if_neg hi9]
        by_cases hi0 : (i : Int) > 0
        · rw [if_pos hi0]
          by_cases hc0 : (c : Int) = 0
          · rw [show ((c : Int) == 0) = true from by rw [beq_iff_eq]; exact hc0, hjT, if_pos (show (m = 0 ∧ 1 < (c : Int)) ∨ (0 < i ∧ (c : Int) = 0) by omega)]; rfl
          · rw [show ((c : Int) == 0) = false from by rw [beq_eq_false_iff_ne]; exact hc0, hjF (by omega), if_neg (show ¬ ((m = 0 ∧ 1 < (c : Int)) ∨ (0 < i ∧ (c : Int) = 0)) by omega)]
        · rw [if_neg hi0, hjF (by omega), if_neg (show ¬ ((m = 0 ∧ 1 < (c : Int)) ∨ (0 < i ∧ (c : Int) = 0)) by omega)]
theorem rnum_f (s : ByteArray) (most : Int) (hs : s.size < 9223372036854775808) (k : Nat) (hk : 22 ≤ k) : wire_Reader_Num.f k s 0 most = some (numR s most) := by
  unfold wire_Reader_Num.f wire_Reader_Err.f
  simp only [Option.bind_some]
  rw [if_pos trivial]
  exact rnum_loop s most hs 10 k 0 0 (by omega) (by omega) (by omega) (by omega)
theorem rnum_err (s : ByteArray) (e most : Int) (he : ¬ e = 0) (k : Nat) : wire_Reader_Num.f k s e most = some (0, s, e) := by
  unfold wire_Reader_Num.f wire_Reader_Err.f
  simp only [Option.bind_some]
  rw [if_neg he]
theorem rnumE_f (s : ByteArray) (e most : Int) (hs : s.size < 9223372036854775808) (k : Nat) (hk : 22 ≤ k) : wire_Reader_Num.f k s e most = some (numE s e most) := by
  unfold numE
  by_cases h : e = 0
  · subst h; rw [if_pos rfl]; exact rnum_f s most hs k hk
  · rw [if_neg h]; exact rnum_err s e most h k
theorem rend_f (s : ByteArray) (e : Int) (k : Nat) (hk : 0 < k) : wire_Reader_End.f k s e = some (if e = 0 then (if (s.size : Int) > 0 then (5, s, 5) else (0, s, 0)) else (e, s, e)) := by
  obtain ⟨k, rfl⟩ : ∃ q, k = q + 1 := ⟨k - 1, by omega⟩
  unfold wire_Reader_End.f wire_Reader_Err.f
  simp only [Option.bind_some, wire_Reader_End.j0]
  by_cases he : e = 0
  · subst he
    rw [if_pos rfl, if_pos rfl]
    by_cases hz : (s.size : Int) > 0
    · rw [if_pos (decide_eq_true hz), if_pos hz]; rfl
    · rw [if_neg (by rw [decide_eq_false hz]; simp), if_neg hz]; rfl
  · rw [if_neg he, if_neg he]
    rw [if_neg (by simp)]; rfl
theorem refNum_f (n : Nat) : ∀ (k : Nat), n < 18446744073709551616 → (nb n).length ≤ k → keywayref03_Num.f k (n : Int) = some (strOfNums (nb n)) := by
  induction n using Nat.strongRecOn with
  | ind n ih =>
    intro k hn hk
    have hp := nb_pos n
    have h10 := nb_len10 n hn
    obtain ⟨k, rfl⟩ : ∃ q, k = q + 1 := ⟨k - 1, by omega⟩
    simp only [keywayref03_Num.f]
    by_cases h : n < 128
    · rw [if_pos (by omega), nb_low h]
      have e : (n : Int) % 256 = (n : Int) := by omega
      rw [e]
    · have el := nb_high h
      have e1 : IntKind.u64.wrap (Int.tdiv (n : Int) 128) = ((n / 128 : Nat) : Int) := by
        rw [Int.tdiv_eq_ediv_of_nonneg (by omega), IntWalk.u64_in _ ⟨by omega, by omega⟩]; omega
      have e2 : IntKind.u64.wrap (128 + Int.tmod (n : Int) 128) % 256 = ((128 + n % 128 : Nat) : Int) := by
        rw [Int.tmod_eq_emod_of_nonneg (by omega), IntWalk.u64_in _ ⟨by omega, by omega⟩]; omega
      rw [el, List.length_cons] at hk h10
      rw [if_neg (by omega)]
      simp only [Option.bind_some]
      rw [e1, e2, ih (n / 128) (by omega) k (by omega) (by omega)]
      simp only [Option.bind_some]
      rw [if_pos (by rw [strOfNums_size, strOfNums_size]; simp; omega), ← str_app, el]
      rfl
theorem WireNums : keywaylaw03_WireNums.Pure := by
  intro a0 a1 w0 w1
  have b0 := wf_u64 w0
  obtain ⟨a, rfl⟩ := Int.eq_ofNat_of_zero_le b0.1
  have ha : a < 18446744073709551616 := by omega
  have h10 := nb_len10 a ha
  refine ⟨40, ?_⟩
  unfold keywaylaw03_WireNums.f wire_New.f
  have hab := nb_ab a
  rw [wireNum_f a ha 40 (by omega)]
  simp only [Option.bind_some]
  rw [rnum_f _ _ (by rw [strOfNums_size]; omega) 40 (by omega), numR_nb _ a [] ha (by rw [of_str hab, List.append_nil])]
  by_cases h : (a : Int) > a1
  · rw [if_pos h]
    simp only [Option.bind_some]
    rw [if_pos h, awake03 40 (by omega)]
    simp [wire_Reader_Err.f, wire_Reader_Left.f]
  · rw [if_neg h]
    simp only [Option.bind_some]
    rw [if_neg h, awake03 40 (by omega)]
    simp only [Option.bind_some, if_true]
    rw [refNum_f a 40 ha (by omega)]
    simp only [Option.bind_some]
    simp only [↓reduceIte]
    rw [rend_f _ _ 40 (by omega), if_pos rfl]
    have hz : ((strOfNums (nb a)).extract (nb a).length (strOfNums (nb a)).size).size = 0 := by
      rw [size_of, bytes_rest _ (nb a) [] (by rw [of_str hab, List.append_nil])]; rfl
    rw [if_neg (by omega)]
    simp
end Go.Proofs.Ytnejefipkmnioaa.Pure

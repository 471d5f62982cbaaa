/- Texts and numbers of so many bytes are the document's, and are read again: for every text, every number, every count of bytes. -/
import Derived.Test.YtnejefipkmnioaaQWireTextsx3
import Derived.Test.YtnejefipkmnioaaLibR
namespace Go.Proofs.Ytnejefipkmnioaa.Pure
open Go.RowKit Go.Proofs.Ytnejefipkmnioaa.QWireTexts Go.Proofs.YtnejefipkmnioaaW.PrintWords Go.Proofs.YtnejefipkmnioaaW.PrintLast Go.Proofs.YtnejefipkmnioaaW.PrintMore Go.Proofs.Ytnejefipkmnioaa.Lib
/-! ### wire.Key, and the document's -/
theorem wireKey_loop (n : Nat) : ∀ (k : Nat) (acc : List Int), (kb n).length < k → (kb n).length + acc.length < 1000 →
    wire_Key.l0 k (n : Int) acc = some (strOfNums ((((((kb n).length + acc.length : Nat) : Int) % 256)) :: (kb n ++ acc))) := by
  induction n using Nat.strongRecOn with
  | ind n ih =>
    intro k acc hk hl
    obtain ⟨k, rfl⟩ : ∃ m, k = m + 1 := ⟨k - 1, by omega⟩
    by_cases h : n = 0
    · subst h
      simp only [wire_Key.l0]
      rw [if_neg (by omega)]
      simp only [Option.bind_some]
      rw [if_pos (by simp; omega)]
      simp [kb_zero]
    · have e := kb_pos (show 0 < n by omega)
      have el : (kb n).length = (kb (n / 256)).length + 1 := by rw [e]; simp
      simp only [wire_Key.l0]
      rw [if_pos (by omega)]
      simp only [Option.bind_some]
      rw [if_pos (by simp; omega)]
      have e1 : (n : Int) / 256 = ((n / 256 : Nat) : Int) := by omega
      have e2 : (n : Int) % 256 = ((n % 256 : Nat) : Int) := by omega
      rw [e1, e2, ih (n / 256) (by omega) k _ (by omega) (by simp; omega)]
      have e3 : (kb (n / 256)).length + ([((n % 256 : Nat) : Int)] ++ acc).length = (kb n).length + acc.length := by rw [el]; simp; omega
      rw [e3, e, List.append_assoc]
theorem wireKey_f (a : Nat) (h : a < 18446744073709551616) (k : Nat) (hk : 8 < k) : wire_Key.f k (a : Int) = some (strOfNums (key a)) := by
  have h8 := kb_len8 a h
  unfold wire_Key.f
  rw [wireKey_loop a k [] (by omega) (by simp; omega)]
  have e : (((kb a).length + ([] : List Int).length : Nat) : Int) % 256 = ((kb a).length : Int) := by simp; omega
  rw [e, List.append_nil]
  rfl
/-! ### wire.Num -/
theorem wireNum_loop (n : Nat) : ∀ (k : Nat) (acc : List Int), (nb n).length ≤ k → (nb n).length + acc.length < 1000 →
    wire_Num.l0 k (n : Int) acc = some (strOfNums (acc ++ nb n)) := by
  induction n using Nat.strongRecOn with
  | ind n ih =>
    intro k acc hk hl
    have hp := nb_pos n
    obtain ⟨k, rfl⟩ : ∃ m, k = m + 1 := ⟨k - 1, by omega⟩
    by_cases h : n < 128
    · simp only [wire_Num.l0]
      rw [if_neg (by omega), if_pos (by omega), nb_low h]
      have e2 : (n : Int) % 256 = (n : Int) := by omega
      rw [e2]
    · have e := nb_high h
      have el : (nb n).length = (nb (n / 128)).length + 1 := by rw [e]; simp
      simp only [wire_Num.l0]
      rw [if_pos (by omega), if_pos (by omega), or128 _ (by omega) (by omega)]
      have e1 : (n : Int) / 128 = ((n / 128 : Nat) : Int) := by omega
      have e2 : 128 + (n : Int) % 256 % 128 = ((128 + n % 128 : Nat) : Int) := by omega
      rw [e1, e2, ih (n / 128) (by omega) k _ (by omega) (by simp; omega), e, List.append_assoc]
      rfl
theorem wireNum_f (a : Nat) (h : a < 18446744073709551616) (k : Nat) (hk : 10 ≤ k) : wire_Num.f k (a : Int) = some (strOfNums (nb a)) := by
  have h8 := nb_len10 a h
  unfold wire_Num.f
  rw [wireNum_loop a k [] (by omega) (by simp; omega)]
  rfl
theorem key258 : key 258 = [2, 1, 2] := by
  unfold key
  rw [kb_pos (by omega), kb_pos (by omega), kb_zero]
  rfl
theorem nb300 : nb 300 = [172, 2] := by
  rw [nb_high (by omega), nb_low (by omega)]
  rfl
theorem awake03 (k : Nat) (hk : 10 ≤ k) : keywaylaw03_awake.f k = some true := by
  unfold keywaylaw03_awake.f
  have h1 := wireNum_f 300 (by omega) k hk
  have h2 := wireKey_f 258 (by omega) k (by omega)
  rw [nb300] at h1
  rw [key258] at h2
  rw [show (300 : Int) = ((300 : Nat) : Int) from rfl, h1]
  simp only [Option.bind_some]
  have e1 : (strOfNums [172, 2]).toList = ([172, 2] : List UInt8) := toList_is.2 (by rw [of_str (nb300 ▸ nb_ab 300)]; rfl)
  have e2 : (strOfNums [2, 1, 2]).toList = ([2, 1, 2] : List UInt8) := toList_is.2 (by rw [of_str (key258 ▸ key_ab 258 (by omega))]; rfl)
  rw [if_pos e1, show (258 : Int) = ((258 : Nat) : Int) from rfl, h2]
  simp only [Option.bind_some]
  rw [e2]
  rfl
/-! ### wire.Reader -/
theorem rnum_loop (s : ByteArray) (most : Int) (_hs : s.size < 9223372036854775808) (m : Nat) : ∀ (k i n : Nat), m + i = 10 → 2 * m + 2 ≤ k → n < 128 ^ i → i ≤ s.size →
    wire_Reader_Num.l0 k most (n : Int) (i : Int) s 0 = some (tell s most (dec m i n ((bytesOf s).drop i))) := by
  have hsz := bytesOf_length s
  induction m with
  | zero =>
    intro k i n hm hk hn hi
    obtain ⟨k, rfl⟩ : ∃ q, k = q + 1 := ⟨k - 1, by omega⟩
    simp only [wire_Reader_Num.l0]
    rw [if_neg (by omega)]
    rfl
  | succ m ih =>
    intro k i n hm hk hn hi
    obtain ⟨k, rfl⟩ : ∃ q, k = q + 2 := ⟨k - 2, by omega⟩
    have h1 : i ≤ 9 := by clear hn; omega
    have HN : ∀ _ : Unit, n < 128 ^ i := fun _ => hn
    clear hn
    simp only [wire_Reader_Num.l0]
    rw [if_pos (by omega)]
    by_cases he : i = s.size
    · rw [if_pos (by omega), List.drop_of_length_le (by omega)]
      rfl
    · have hb := (bytesOf_ab s).rd_ (i : Int)
      obtain ⟨c, hc⟩ : ∃ c : Nat, rd (bytesOf s) (i : Int) = (c : Int) := Int.eq_ofNat_of_zero_le hb.1
      rw [hc] at hb
      have hd : (bytesOf s).drop i = (c : Int) :: (bytesOf s).drop (i + 1) := by rw [drop_cons_rd _ _ (by omega), hc]
      rw [if_neg (by omega), if_pos (by omega), if_pos (by omega), bt_of, hc, hd]
      simp only [dec]
      have hi7 : wrap64 (7 * (i : Int)) = ((7 * i : Nat) : Int) := by rw [wrap64_of (by omega) (by omega)]; omega
      have hi1 : wrap64 ((i : Int) + 1) = ((i + 1 : Nat) : Int) := by rw [wrap64_of (by omega) (by omega)]; omega
      have hjT : wire_Reader_Num.j1 (k + 1) most (n : Int) (i : Int) (c : Int) (i : Int) true s 0 = some (0, s, 3) := by
        simp only [wire_Reader_Num.j1]
        rw [if_pos trivial]
        rfl
      have hjF : (i = 9 → c ≤ 1) → wire_Reader_Num.j1 (k + 1) most (n : Int) (i : Int) (c : Int) (i : Int) false s 0 =
          some (tell s most (if (c : Int) < 128 then .ok (n + ((c : Int)).toNat * 128 ^ i) (i + 1) else dec m (i + 1) (n + (((c : Int)).toNat - 128) * 128 ^ i) ((bytesOf s).drop (i + 1)))) := by
        intro h9
        simp only [wire_Reader_Num.j1]
        rw [if_neg (by simp), hi7, if_pos (by omega), and128 _ (by omega) (by omega), and127 _ (by omega) (by omega)]
        have hcm : (c : Int) % 128 = ((c % 128 : Nat) : Int) := by omega
        rw [hcm, IntWalk.u64_in _ ⟨by omega, by omega⟩, or_digit i n (c % 128) h1 (HN ()) (by omega) (by omega), hi1]
        by_cases hlt : (c : Int) < 128
        · have e1 : ((c : Int)).toNat = c % 128 := by omega
          rw [if_pos hlt, if_pos rfl, if_pos hlt, e1]
          simp only [tell]
          by_cases ho : ((n + c % 128 * 128 ^ i : Nat) : Int) > most
          · rw [if_pos ho, if_pos ho]; rfl
          · rw [if_neg ho, if_neg ho, if_pos (by omega), if_pos (by omega), Int.toNat_natCast]
        · have e1 : ((c : Int)).toNat - 128 = c % 128 := by omega
          rw [if_neg hlt, if_neg (by omega), if_neg hlt, e1]
          exact ih k (i + 1) (n + c % 128 * 128 ^ i) (by omega) (by omega) (next_digit i n _ (HN ()) (by omega)) (by omega)
      by_cases hi9 : (i : Int) = 9
      · rw [if_pos hi9]
        by_cases hc1 : (c : Int) > 1
        · rw [if_pos hc1, hjT, if_pos (show (m = 0 ∧ 1 < (c : Int)) ∨ (0 < i ∧ (c : Int) = 0) by omega)]; rfl
        · rw [if_neg hc1, if_pos (show (i : Int) > 0 by omega)]
          by_cases hc0 : (c : Int) = 0
          · rw [show ((c : Int) == 0) = true from by rw [beq_iff_eq]; exact hc0, hjT, if_pos (show (m = 0 ∧ 1 < (c : Int)) ∨ (0 < i ∧ (c : Int) = 0) by omega)]; rfl
          · rw [show ((c : Int) == 0) = false from by rw [beq_eq_false_iff_ne]; exact hc0, hjF (by omega), if_neg (show ¬ ((m = 0 ∧ 1 < (c : Int)) ∨ (0 < i ∧ (c : Int) = 0)) by omega)]
      · rw [if_neg hi9]
        by_cases hi0 : (i : Int) > 0
        · rw [if_pos hi0]
          by_cases hc0 : (c : Int) = 0
          · rw [show ((c : Int) == 0) = true from by rw [beq_iff_eq]; exact hc0, hjT, if_pos (show (m = 0 ∧ 1 < (c : Int)) ∨ (0 < i ∧ (c : Int) = 0) by omega)]; rfl
          · rw [show ((c : Int) == 0) = false from by rw [beq_eq_false_iff_ne]; exact hc0, hjF (by omega), if_neg (show ¬ ((m = 0 ∧ 1 < (c : Int)) ∨ (0 < i ∧ (c : Int) = 0)) by omega)]
        · rw [if_neg hi0, hjF (by omega), if_neg (show ¬ ((m = 0 ∧ 1 < (c : Int)) ∨ (0 < i ∧ (c : Int) = 0)) by omega)]
theorem rnum_f (s : ByteArray) (most : Int) (hs : s.size < 9223372036854775808) (k : Nat) (hk : 22 ≤ k) : wire_Reader_Num.f k s 0 most = some (numR s most) := by
  unfold wire_Reader_Num.f wire_Reader_Err.f
  simp only [Option.bind_some]
  rw [if_pos trivial]
  exact rnum_loop s most hs 10 k 0 0 (by omega) (by omega) (by omega) (by omega)
theorem rnum_err (s : ByteArray) (e most : Int) (he : ¬ e = 0) (k : Nat) : wire_Reader_Num.f k s e most = some (0, s, e) := by
  unfold wire_Reader_Num.f wire_Reader_Err.f
  simp only [Option.bind_some]
  rw [if_neg he]
theorem rnumE_f (s : ByteArray) (e most : Int) (hs : s.size < 9223372036854775808) (k : Nat) (hk : 22 ≤ k) : wire_Reader_Num.f k s e most = some (numE s e most) := by
  unfold numE
  by_cases h : e = 0
  · subst h; rw [if_pos rfl]; exact rnum_f s most hs k hk
  · rw [if_neg h]; exact rnum_err s e most h k
theorem rend_f (s : ByteArray) (e : Int) (k : Nat) (hk : 0 < k) : wire_Reader_End.f k s e = some (if e = 0 then (if (s.size : Int) > 0 then (5, s, 5) else (0, s, 0)) else (e, s, e)) := by
  obtain ⟨k, rfl⟩ : ∃ q, k = q + 1 := ⟨k - 1, by omega⟩
  unfold wire_Reader_End.f wire_Reader_Err.f
  simp only [Option.bind_some, wire_Reader_End.j0]
  by_cases he : e = 0
  · subst he
    rw [if_pos rfl, if_pos rfl]
    by_cases hz : (s.size : Int) > 0
    · rw [if_pos (decide_eq_true hz), if_pos hz]; rfl
    · rw [if_neg (by rw [decide_eq_false hz]; simp), if_neg hz]; rfl
  · rw [if_neg he, if_neg he]
    rw [if_neg (by simp)]; rfl
theorem refNum_f (n : Nat) : ∀ (k : Nat), n < 18446744073709551616 → (nb n).length ≤ k → keywayref03_Num.f k (n : Int) = some (strOfNums (nb n)) := by
  induction n using Nat.strongRecOn with
  | ind n ih =>
    intro k hn hk
    have hp := nb_pos n
    have h10 := nb_len10 n hn
    obtain ⟨k, rfl⟩ : ∃ q, k = q + 1 := ⟨k - 1, by omega⟩
    simp only [keywayref03_Num.f]
    by_cases h : n < 128
    · rw [if_pos (by omega), nb_low h]
      have e : (n : Int) % 256 = (n : Int) := by omega
      rw [e]
    · have el := nb_high h
      have e1 : IntKind.u64.wrap (Int.tdiv (n : Int) 128) = ((n / 128 : Nat) : Int) := by
        rw [Int.tdiv_eq_ediv_of_nonneg (by omega), IntWalk.u64_in _ ⟨by omega, by omega⟩]; omega
      have e2 : IntKind.u64.wrap (128 + Int.tmod (n : Int) 128) % 256 = ((128 + n % 128 : Nat) : Int) := by
        rw [Int.tmod_eq_emod_of_nonneg (by omega), IntWalk.u64_in _ ⟨by omega, by omega⟩]; omega
      rw [el, List.length_cons] at hk h10
      rw [if_neg (by omega)]
      simp only [Option.bind_some]
      rw [e1, e2, ih (n / 128) (by omega) k (by omega) (by omega)]
      simp only [Option.bind_some]
      rw [if_pos (by rw [strOfNums_size, strOfNums_size]; simp; omega), ← str_app, el]
      rfl
theorem rtake_f (s : ByteArray) (n : Nat) (h : n ≤ s.size) : wire_Reader_Take.f s 0 (n : Int) = some (s.extract 0 n, s.extract n s.size, 0) := by
  unfold wire_Reader_Take.f wire_Reader_Err.f
  simp only [Option.bind_some]
  rw [if_pos trivial, if_neg (by omega), if_neg (by omega), if_pos (by omega), if_pos (by omega), Int.toNat_natCast]
theorem wFixed_loop (K : Nat) (hK : K ≤ 8) (d : Nat) : ∀ (k i n : Nat) (acc : List Int), K - i = d → i ≤ K → acc.length = i → d < k →
    wire_Fixed.l0 k (n : Int) acc (K : Int) (i : Int) = some (strOfNums (acc ++ fb d n)) := by
  induction d with
  | zero =>
    intro k i n acc hd hi hl hk
    obtain ⟨k, rfl⟩ : ∃ q, k = q + 1 := ⟨k - 1, by omega⟩
    simp only [wire_Fixed.l0]
    rw [if_neg (by omega)]
    simp [fb]
  | succ d ih =>
    intro k i n acc hd hi hl hk
    obtain ⟨k, rfl⟩ : ∃ q, k = q + 1 := ⟨k - 1, by omega⟩
    simp only [wire_Fixed.l0]
    rw [if_pos (by omega), if_pos (by omega)]
    have e1 : (n : Int) / 256 = ((n / 256 : Nat) : Int) := by omega
    have e2 : (n : Int) % 256 = ((n % 256 : Nat) : Int) := by omega
    have e3 : wrap64 ((i : Int) + 1) = ((i + 1 : Nat) : Int) := by rw [wrap64_of (by omega) (by omega)]; omega
    rw [e1, e2, e3, ih k (i + 1) (n / 256) _ (by omega) (by omega) (by simp; omega) (by omega), List.append_assoc]
    rfl
theorem wFixed_f (n K : Nat) (b : Int) (hb : mn (mx b 0) 8 = (K : Int)) (hK : K ≤ 8) (k : Nat) (hk : 8 < k) : wire_Fixed.f k (n : Int) b = some (strOfNums (fb K n)) := by
  unfold wire_Fixed.f
  rw [hb]
  have h := wFixed_loop K hK K k 0 n [] (by omega) (by omega) rfl (by omega)
  rw [List.nil_append] at h
  exact h
theorem refFixed_loop (K : Nat) (hK : K ≤ 8) (d : Nat) : ∀ (k i n : Nat) (acc : List Int), n < 18446744073709551616 → K - i = d → i ≤ K → acc.length = i → d < k →
    keywayref03_Fixed.l0 k (n : Int) (K : Int) (strOfNums acc) (i : Int) = some (strOfNums (acc ++ fb d n)) := by
  induction d with
  | zero =>
    intro k i n acc hn hd hi hl hk
    obtain ⟨k, rfl⟩ : ∃ q, k = q + 1 := ⟨k - 1, by omega⟩
    simp only [keywayref03_Fixed.l0]
    rw [if_neg (by omega)]
    simp [fb]
  | succ d ih =>
    intro k i n acc hn hd hi hl hk
    obtain ⟨k, rfl⟩ : ∃ q, k = q + 1 := ⟨k - 1, by omega⟩
    simp only [keywayref03_Fixed.l0]
    rw [if_pos (by omega), if_pos (by omega)]
    simp only [Option.bind_some]
    rw [if_pos (by rw [strOfNums_size, strOfNums_size]; simp; omega)]
    have hih := ih k (i + 1) (n / 256) (acc ++ [((n % 256 : Nat) : Int)]) (by omega) (by omega) (by omega) (by simp; omega) (by omega)
    have e1 : IntKind.u64.wrap (Int.tdiv (n : Int) 256) = ((n / 256 : Nat) : Int) := by
      rw [Int.tdiv_eq_ediv_of_nonneg (by omega), IntWalk.u64_in _ ⟨by omega, by omega⟩]; omega
    have e2 : Int.tmod (n : Int) 256 % 256 = ((n % 256 : Nat) : Int) := by
      rw [Int.tmod_eq_emod_of_nonneg (by omega)]; omega
    have e3 : wrap64 ((i : Int) + 1) = ((i + 1 : Nat) : Int) := by rw [wrap64_of (by omega) (by omega)]; omega
    rw [e1, e2, e3, ← str_app, hih, List.append_assoc]
    rfl
theorem refFixed_f (n K : Nat) (hn : n < 18446744073709551616) (hK : K ≤ 8) (k : Nat) (hk : 8 < k) : keywayref03_Fixed.f k (n : Int) (K : Int) = some (strOfNums (fb K n)) := by
  unfold keywayref03_Fixed.f
  have h := refFixed_loop K hK K k 0 n [] hn (by omega) (by omega) rfl (by omega)
  rw [List.nil_append] at h
  exact h
theorem rFixed_loop (t s : ByteArray) (e : Int) (ht : t.size ≤ 8) (d : Nat) : ∀ (k : Nat), d ≤ t.size → d < k →
    wire_Reader_Fixed.l0 k t (lv ((bytesOf t).drop d) : Int) ((d : Int) - 1) s e = some ((lv (bytesOf t) : Int), s, e) := by
  have hsz := bytesOf_length t
  induction d with
  | zero =>
    intro k hd hk
    obtain ⟨k, rfl⟩ : ∃ q, k = q + 1 := ⟨k - 1, by omega⟩
    simp only [wire_Reader_Fixed.l0]
    rw [if_neg (by omega), List.drop_zero]
  | succ d ih =>
    intro k hd hk
    obtain ⟨k, rfl⟩ : ∃ q, k = q + 1 := ⟨k - 1, by omega⟩
    have hb := (bytesOf_ab t).rd_ (d : Int)
    have hdr := drop_cons_rd (bytesOf t) d (by omega)
    obtain ⟨c, hc⟩ : ∃ c : Nat, rd (bytesOf t) (d : Int) = (c : Int) := Int.eq_ofNat_of_zero_le hb.1
    rw [hc] at hb hdr
    have hlt := lv_lt ((bytesOf t).drop (d + 1)) ((bytesOf_ab t).drop _)
    have h7 : 256 ^ ((bytesOf t).drop (d + 1)).length ≤ 256 ^ 7 := Nat.pow_le_pow_right (by omega) (by rw [List.length_drop]; omega)
    have e0 : (((d + 1 : Nat) : Int)) - 1 = (d : Int) := by omega
    simp only [wire_Reader_Fixed.l0]
    rw [e0, if_pos (by omega), if_pos (by omega), if_pos (by omega), bt_of, hc, or_byte _ _ (by omega) (by omega) (by omega) (by omega), wrap64_of (by omega) (by omega)]
    have e1 : (lv ((bytesOf t).drop (d + 1)) : Int) * 256 + (c : Int) = (lv ((bytesOf t).drop d) : Int) := by
      rw [hdr]; simp only [lv]; omega
    rw [e1]
    exact ih k (by omega) (by omega)
theorem rFixed_f (s : ByteArray) (K : Nat) (b : Int) (hb : mn (mx b 0) 8 = (K : Int)) (hK : K ≤ 8) (hs : K ≤ s.size) (k : Nat) (hk : 8 < k) :
    wire_Reader_Fixed.f k s 0 b = some ((lv (bytesOf (s.extract 0 K)) : Int), s.extract K s.size, 0) := by
  unfold wire_Reader_Fixed.f
  rw [hb, rtake_f s K hs]
  simp only [Option.bind_some]
  have hz : (s.extract 0 K).size = K := by rw [size_of, bytesOf_extract, List.drop_zero, List.length_take, bytesOf_length]; omega
  have h := rFixed_loop (s.extract 0 K) (s.extract K s.size) 0 (by omega) K k (by omega) (by omega)
  rw [List.drop_of_length_le (by rw [bytesOf_length]; omega)] at h
  rw [hz, wrap64_of (by omega) (by omega)]
  exact h
theorem wText_f (t : ByteArray) (ht : t.size ≤ 140737488351232) (k : Nat) (hk : 10 ≤ k) : wire_Text.f k t = some (strOfNums (nb t.size) ++ t) := by
  have h10 := nb_len10 t.size (by omega)
  unfold wire_Text.f
  rw [IntWalk.u64_in _ ⟨by omega, by omega⟩, wireNum_f _ (by omega) k hk]
  simp only [Option.bind_some]
  rw [if_pos (by rw [strOfNums_size]; omega)]
theorem rText_f (s t : ByteArray) (r : List Int) (h : bytesOf s = nb t.size ++ (bytesOf t ++ r)) (hs : s.size < 9223372036854775808) (most : Int) (hm : (t.size : Int) ≤ mn (mx most 0) 65536) (k : Nat) (hk : 22 ≤ k) :
    ∃ q, wire_Reader_Text.f k s 0 most = some (t, q, 0) ∧ bytesOf q = r := by
  have hm2 : mn (mx most 0) 65536 ≤ 65536 := by unfold mn; split <;> omega
  have htl : (bytesOf t).length = t.size := bytesOf_length t
  have hr := bytes_rest s _ _ h
  have hn := numR_nb s t.size _ (by omega) h (mn (mx most 0) 65536)
  rw [if_neg (by omega)] at hn
  unfold wire_Reader_Text.f
  rw [rnum_f s _ hs k hk, hn, Option.bind_some]
  dsimp only
  generalize s.extract (nb t.size).length s.size = R at hr ⊢
  have hRz : t.size ≤ R.size := by rw [size_of R, hr, List.length_append, htl]; omega
  rw [wrap64_of (by omega) (by omega), rtake_f R t.size hRz, Option.bind_some]
  dsimp only
  have e : R.extract 0 t.size = t := by
    have h := bytes_front R _ _ hr
    rw [htl] at h
    exact bytesOf_inj h
  have e2 := bytes_rest R _ _ hr
  rw [htl] at e2
  exact ⟨_, congrArg (fun x => some (x, R.extract t.size R.size, (0 : Int))) e, e2⟩
theorem refText_f (t : ByteArray) (ht : t.size ≤ 140737488351232) (k : Nat) (hk : 10 ≤ k) : keywayref03_Text.f k t = some (strOfNums (nb t.size) ++ t) := by
  have h10 := nb_len10 t.size (by omega)
  unfold keywayref03_Text.f
  rw [IntWalk.u64_in _ ⟨by omega, by omega⟩, refNum_f _ k (by omega) (by omega)]
  simp only [Option.bind_some]
  rw [if_pos (by rw [strOfNums_size]; omega)]
theorem texts_rest (t : ByteArray) (a K : Nat) (a2 : Int) (ha : a < 18446744073709551616) (hts : t.size ≤ 300) (hb : mn (mx a2 0) 8 = (K : Int)) (hK : K ≤ 8) (Q : ByteArray) (hQ : bytesOf Q = []) (v want : Int) (hw : v = want) (q : Nat) (hq : 50 ≤ q) :
    keywaylaw03_WireTexts.j0 (q + 1) (a : Int) a2 t (K : Int) t v want Q 0 = some true := by
  simp only [keywaylaw03_WireTexts.j0]
  have hend : wire_Reader_End.f q Q 0 = some (0, Q, 0) := by
    rw [rend_f _ _ q (by omega), if_pos rfl, if_neg (by rw [size_of, hQ]; simp)]
  rw [awake03 q (by omega), wText_f t (by omega) q (by omega), refText_f t (by omega) q (by omega), wFixed_f a K a2 hb hK q (by omega), refFixed_f a K ha hK q (by omega), hend]
  simp only [Option.bind_some, ↓reduceIte, if_pos hw]
  rfl
theorem WireTexts : keywaylaw03_WireTexts.Pure := by
  intro s a1 a2 hs w1 w2
  have b1 := wf_u64 w1
  obtain ⟨a, rfl⟩ := Int.eq_ofNat_of_zero_le b1.1
  have ha : a < 18446744073709551616 := by omega
  obtain ⟨q, hq⟩ : ∃ q : Nat, 50 ≤ q := ⟨50, Nat.le_refl _⟩
  refine ⟨q + 1, ?_⟩
  unfold keywaylaw03_WireTexts.f
  have hm : 0 ≤ mn (s.size : Int) 300 ∧ mn (s.size : Int) 300 ≤ (s.size : Int) ∧ mn (s.size : Int) 300 ≤ 300 := by unfold mn; omega
  rw [if_pos hm.1, if_pos hm.2.1]
  generalize hT : s.extract 0 (mn (s.size : Int) 300).toNat = t
  have hts : t.size ≤ 300 := by
    rw [← hT, size_of, bytesOf_extract, List.drop_zero, List.length_take]
    omega
  clear hT hm
  obtain ⟨K, hb⟩ : ∃ K : Nat, mn (mx a2 0) 8 = (K : Int) := Int.eq_ofNat_of_zero_le (by unfold mn mx; split <;> split <;> omega)
  have hK : K ≤ 8 := by
    have : mn (mx a2 0) 8 ≤ 8 := by unfold mn; split <;> omega
    omega
  have h10 := nb_len10 t.size (by omega)
  have hfl := fb_len K a
  have hfa := fb_ab K a
  have hSb : bytesOf (strOfNums (nb t.size) ++ t ++ strOfNums (fb K a)) = nb t.size ++ (bytesOf t ++ fb K a) := by
    rw [bytesOf_append, bytesOf_append, of_str (nb_ab _), of_str hfa, List.append_assoc]
  have hSz : (strOfNums (nb t.size) ++ t ++ strOfNums (fb K a)).size = (nb t.size).length + (t.size + K) := by rw [size_of, hSb, List.length_append, List.length_append, bytesOf_length, hfl]
  rw [wText_f t (by omega) (q + 1) (by omega), Option.bind_some, wFixed_f a K a2 hb hK (q + 1) (by omega), Option.bind_some]
  rw [if_pos (by rw [← ByteArray.size_append]; omega)]
  unfold wire_New.f
  rw [Option.bind_some]
  dsimp only
  generalize strOfNums (nb t.size) ++ t ++ strOfNums (fb K a) = S at hSb hSz
  obtain ⟨Q, hQ, hQb⟩ := rText_f S t _ hSb (by omega) 300 (by rw [show mn (mx 300 0) 65536 = 300 by decide]; omega) (q + 1) (by omega)
  rw [hQ, Option.bind_some]
  dsimp only
  have hQz : Q.size = K := by rw [size_of, hQb, hfl]
  rw [rFixed_f Q K a2 hb hK (by omega) (q + 1) (by omega), Option.bind_some]
  dsimp only
  have hfr := bytes_front Q (fb K a) [] (by rw [hQb, List.append_nil])
  have hre := bytes_rest Q (fb K a) [] (by rw [hQb, List.append_nil])
  rw [hfl] at hfr hre
  rw [hfr, lv_fb, hb]
  by_cases hk8 : (K : Int) < 8
  · rw [if_pos hk8]
    refine texts_rest t a K a2 ha hts hb hK _ hre _ _ ?_ q hq
    have e : (8 * (K : Int)).toNat = 8 * K := by omega
    rw [e]
    exact (mask_u64 a K ha (by omega)).symm
  · rw [if_neg hk8]
    refine texts_rest t a K a2 ha hts hb hK _ hre _ _ ?_ q hq
    have e : K = 8 := by omega
    subst e
    rw [Nat.mod_eq_of_lt (by omega)]
end Go.Proofs.Ytnejefipkmnioaa.Pure

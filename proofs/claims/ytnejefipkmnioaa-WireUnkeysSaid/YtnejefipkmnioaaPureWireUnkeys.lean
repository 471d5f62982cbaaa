/- Whatever bytes come, a key is read, or there is none: for every text. -/
import Derived.Test.YtnejefipkmnioaaQWireUnkeysx2
import Derived.Test.YtnejefipkmnioaaLib
namespace Go.Proofs.Ytnejefipkmnioaa.Pure
open Go.RowKit Go.Proofs.Ytnejefipkmnioaa.QWireUnkeys Go.Proofs.YtnejefipkmnioaaW.PrintWords Go.Proofs.YtnejefipkmnioaaW.PrintLast Go.Proofs.Ytnejefipkmnioaa.Lib
/-! ### wire.Key, and the document's -/
theorem wireKey_loop (n : Nat) : ∀ (k : Nat) (acc : List Int), (kb n).length < k → (kb n).length + acc.length < 1000 →
    wire_Key.l0 k (n : Int) acc = some (strOfNums ((((((kb n).length + acc.length : Nat) : Int) % 256)) :: (kb n ++ acc))) := by
  induction n using Nat.strongRecOn with
  | ind n ih =>
    intro k acc hk hl
    obtain ⟨k, rfl⟩ : ∃ m, k = m + 1 := ⟨k - 1, by omega⟩
    by_cases h : n = 0
    · subst h
      simp only [wire_Key.l0]
      rw [if_neg (by omega)]
      simp only [Option.bind_some]
      rw [if_pos (by simp; omega)]
      simp [kb_zero]
    · have e := kb_pos (show 0 < n by omega)
      have el : (kb n).length = (kb (n / 256)).length + 1 := by rw [e]; simp
      simp only [wire_Key.l0]
      rw [if_pos (by omega)]
      simp only [Option.bind_some]
      rw [if_pos (by simp; omega)]
      have e1 : (n : Int) / 256 = ((n / 256 : Nat) : Int) := by omega
      have e2 : (n : Int) % 256 = ((n % 256 : Nat) : Int) := by omega
      rw [e1, e2, ih (n / 256) (by omega) k _ (by omega) (by simp; omega)]
      have e3 : (kb (n / 256)).length + ([((n % 256 : Nat) : Int)] ++ acc).length = (kb n).length + acc.length := by rw [el]; simp; omega
      rw [e3, e, List.append_assoc]
theorem wireKey_f (a : Nat) (h : a < 18446744073709551616) (k : Nat) (hk : 8 < k) : wire_Key.f k (a : Int) = some (strOfNums (key a)) := by
  have h8 := kb_len8 a h
  unfold wire_Key.f
  rw [wireKey_loop a k [] (by omega) (by simp; omega)]
  have e : (((kb a).length + ([] : List Int).length : Nat) : Int) % 256 = ((kb a).length : Int) := by simp; omega
  rw [e, List.append_nil]
  rfl
theorem refKey_loop (n : Nat) : ∀ (k : Nat) (acc : List Int), n < 18446744073709551616 → (kb n).length < k → (kb n).length + acc.length < 1000 →
    keywayref03_Key.l0 k (n : Int) (strOfNums acc) = some (strOfNums ((((((kb n).length + acc.length : Nat) : Int) % 256)) :: (kb n ++ acc))) := by
  induction n using Nat.strongRecOn with
  | ind n ih =>
    intro k acc hn hk hl
    obtain ⟨k, rfl⟩ : ∃ m, k = m + 1 := ⟨k - 1, by omega⟩
    by_cases h : n = 0
    · subst h
      simp only [keywayref03_Key.l0]
      rw [if_neg (by omega)]
      simp only [Option.bind_some]
      rw [if_pos (by rw [strOfNums_size, strOfNums_size]; simp; omega), ← str_app, strOfNums_size]
      simp [kb_zero]
    · have e := kb_pos (show 0 < n by omega)
      have el : (kb n).length = (kb (n / 256)).length + 1 := by rw [e]; simp
      simp only [keywayref03_Key.l0]
      rw [if_pos (by omega)]
      simp only [Option.bind_some]
      rw [if_pos (by rw [strOfNums_size, strOfNums_size]; simp; omega)]
      have e1 : IntKind.u64.wrap (Int.tdiv (n : Int) 256) = ((n / 256 : Nat) : Int) := by
        rw [Int.tdiv_eq_ediv_of_nonneg (by omega), IntWalk.u64_in _ ⟨by omega, by omega⟩]; omega
      have e2 : Int.tmod (n : Int) 256 % 256 = ((n % 256 : Nat) : Int) := by
        rw [Int.tmod_eq_emod_of_nonneg (by omega)]; omega
      rw [e1, e2, ← str_app, ih (n / 256) (by omega) k _ (by omega) (by omega) (by simp; omega)]
      have e3 : (kb (n / 256)).length + ([((n % 256 : Nat) : Int)] ++ acc).length = (kb n).length + acc.length := by rw [el]; simp; omega
      rw [e3, e, List.append_assoc]
theorem refKey_f (a : Nat) (h : a < 18446744073709551616) (k : Nat) (hk : 8 < k) : keywayref03_Key.f k (a : Int) = some (strOfNums (key a)) := by
  have h8 := kb_len8 a h
  unfold keywayref03_Key.f
  have h0 := refKey_loop a k [] h (by omega) (by simp; omega)
  have e : (((kb a).length + ([] : List Int).length : Nat) : Int) % 256 = ((kb a).length : Int) := by simp; omega
  rw [e, List.append_nil] at h0
  exact h0
/-! ### wire.Num -/
theorem wireNum_loop (n : Nat) : ∀ (k : Nat) (acc : List Int), (nb n).length ≤ k → (nb n).length + acc.length < 1000 →
    wire_Num.l0 k (n : Int) acc = some (strOfNums (acc ++ nb n)) := by
  induction n using Nat.strongRecOn with
  | ind n ih =>
    intro k acc hk hl
    have hp := nb_pos n
    obtain ⟨k, rfl⟩ : ∃ m, k = m + 1 := ⟨k - 1, by omega⟩
    by_cases h : n < 128
    · simp only [wire_Num.l0]
      rw [if_neg (by omega), if_pos (by omega), nb_low h]
      have e2 : (n : Int) % 256 = (n : Int) := by omega
      rw [e2]
    · have e := nb_high h
      have el : (nb n).length = (nb (n / 128)).length + 1 := by rw [e]; simp
      simp only [wire_Num.l0]
      rw [if_pos (by omega), if_pos (by omega), or128 _ (by omega) (by omega)]
      have e1 : (n : Int) / 128 = ((n / 128 : Nat) : Int) := by omega
      have e2 : 128 + (n : Int) % 256 % 128 = ((128 + n % 128 : Nat) : Int) := by omega
      rw [e1, e2, ih (n / 128) (by omega) k _ (by omega) (by simp; omega), e, List.append_assoc]
      rfl
theorem wireNum_f (a : Nat) (h : a < 18446744073709551616) (k : Nat) (hk : 10 ≤ k) : wire_Num.f k (a : Int) = some (strOfNums (nb a)) := by
  have h8 := nb_len10 a h
  unfold wire_Num.f
  rw [wireNum_loop a k [] (by omega) (by simp; omega)]
  rfl
theorem key258 : key 258 = [2, 1, 2] := by
  unfold key
  rw [kb_pos (by omega), kb_pos (by omega), kb_zero]
  rfl
theorem nb300 : nb 300 = [172, 2] := by
  rw [nb_high (by omega), nb_low (by omega)]
  rfl
theorem awake03 (k : Nat) (hk : 10 ≤ k) : keywaylaw03_awake.f k = some true := by
  unfold keywaylaw03_awake.f
  have h1 := wireNum_f 300 (by omega) k hk
  have h2 := wireKey_f 258 (by omega) k (by omega)
  rw [nb300] at h1
  rw [key258] at h2
  rw [show (300 : Int) = ((300 : Nat) : Int) from rfl, h1]
  simp only [Option.bind_some]
  have e1 : (strOfNums [172, 2]).toList = ([172, 2] : List UInt8) := toList_is.2 (by rw [of_str (nb300 ▸ nb_ab 300)]; rfl)
  have e2 : (strOfNums [2, 1, 2]).toList = ([2, 1, 2] : List UInt8) := toList_is.2 (by rw [of_str (key258 ▸ key_ab 258 (by omega))]; rfl)
  rw [if_pos e1, show (258 : Int) = ((258 : Nat) : Int) from rfl, h2]
  simp only [Option.bind_some]
  rw [e2]
  rfl
/-! ### wire.Unkey -/
theorem unkey_loop (s : ByteArray) (K : Nat) (hK : K ≤ s.size) (hK9 : K ≤ 9) (d : Nat) : ∀ (k i a : Nat), i ≤ K → K - i = d → d < k → 1 ≤ i → (a + 1) * 256 ^ d ≤ 256 ^ 8 →
    wire_Unkey.l0 k s (K : Int) (a : Int) (i : Int) = some (val (a : Int) (((bytesOf s).take K).drop i), s.extract K s.size, true) := by
  have hsz := bytesOf_length s
  induction d with
  | zero =>
    intro k i a hi hd hk h1 ha
    obtain ⟨k, rfl⟩ : ∃ m, k = m + 1 := ⟨k - 1, by omega⟩
    obtain rfl : i = K := by omega
    simp only [wire_Unkey.l0]
    rw [if_neg (by omega), if_pos (by omega), if_pos (by omega)]
    rw [List.drop_of_length_le (by simp; omega)]
    rfl
  | succ d ih =>
    intro k i a hi hd hk h1 ha
    obtain ⟨k, rfl⟩ : ∃ m, k = m + 1 := ⟨k - 1, by omega⟩
    have hb := (bytesOf_ab s).rd_ (i : Int)
    obtain ⟨c, hc⟩ : ∃ c : Nat, rd (bytesOf s) (i : Int) = (c : Int) := Int.eq_ofNat_of_zero_le hb.1
    have hc' : c < 256 := by rw [hc] at hb; omega
    have hp : 0 < 256 ^ d := Nat.two_pow_pos (8 * d) |> fun h => by rw [Nat.pow_mul] at h; exact h
    have ha2 : (a + 1) * 256 ≤ 256 ^ 8 := by
      have e : (a + 1) * 256 ^ (d + 1) = (a + 1) * 256 * 256 ^ d := by rw [Nat.pow_succ, Nat.mul_assoc, Nat.mul_comm 256]
      rw [e] at ha
      exact Nat.le_trans (Nat.le_mul_of_pos_right _ hp) ha
    have ha3 : (a * 256 + c + 1) * 256 ^ d ≤ 256 ^ 8 := by
      have e : (a + 1) * 256 ^ (d + 1) = (a + 1) * 256 * 256 ^ d := by rw [Nat.pow_succ, Nat.mul_assoc, Nat.mul_comm 256]
      rw [e] at ha
      exact Nat.le_trans (Nat.mul_le_mul_right _ (by omega)) ha
    simp only [wire_Unkey.l0]
    rw [if_pos (by omega), if_pos (by omega), if_pos (by omega), bt_of, hc, or_byte _ _ (by omega) (by omega) (by omega) (by omega), wrap64_of (by omega) (by omega)]
    have e1 : (a : Int) * 256 + (c : Int) = ((a * 256 + c : Nat) : Int) := by omega
    have e2 : (i : Int) + 1 = ((i + 1 : Nat) : Int) := by omega
    rw [e1, e2, ih k (i + 1) (a * 256 + c) (by omega) (by omega) (by omega) (by omega) ha3]
    have e3 : ((bytesOf s).take K).drop i = (c : Int) :: ((bytesOf s).take K).drop (i + 1) := by
      rw [drop_cons_rd _ _ (by simp; omega), rd_take _ _ _ (by omega) (by omega), hc]
    rw [e3, val_cons, e1]
theorem unkey_ok (s : ByteArray) (c : Nat) (t : List Int) (hs : bytesOf s = (c : Int) :: t) (hc : c ≤ 8) (ht : c ≤ t.length) (h0 : 0 < c → rd t 0 ≠ 0) (k : Nat) (hk : 10 < k) :
    wire_Unkey.f k s = some (val 0 (t.take c), s.extract (c + 1) s.size, true) := by
  have hsz := bytesOf_length s
  rw [hs, List.length_cons] at hsz
  have hb0 : bt s 0 = (c : Int) := by rw [bt_of, hs]; rfl
  have hb1 : bt s 1 = rd t 0 := by rw [bt_of, hs, rd_cons_succ _ _ _ (by omega)]; rfl
  have hj : wire_Unkey.j0 k s false = some (val 0 (t.take c), s.extract (c + 1) s.size, true) := by
    obtain ⟨k, rfl⟩ : ∃ m, k = m + 1 := ⟨k - 1, by omega⟩
    simp only [wire_Unkey.j0]
    rw [if_neg (by simp), if_pos (by omega), hb0, wrap64_of (n := (c : Int)) (by omega) (by omega), wrap64_of (by omega) (by omega)]
    have e1 : (c : Int) + 1 = ((c + 1 : Nat) : Int) := by omega
    have h := unkey_loop s (c + 1) (by omega) (by omega) c k 1 0 (by omega) (by omega) (by omega) (by omega) (by
      rw [Nat.zero_add, Nat.one_mul]; exact Nat.pow_le_pow_right (by omega) hc)
    rw [hs, List.take_succ_cons, List.drop_succ_cons, List.drop_zero] at h
    rw [e1]
    exact h
  unfold wire_Unkey.f
  rw [if_neg (by rw [toList_is, hs]; simp), if_pos (by omega), hb0, if_neg (by omega), wrap64_of (by omega) (by omega), if_neg (by omega)]
  by_cases hp : 0 < c
  · rw [if_pos (by omega), if_pos (by omega), hb1, show (rd t 0 == 0) = false from by rw [beq_eq_false_iff_ne]; exact h0 hp]
    exact hj
  · rw [if_neg (by omega)]
    exact hj
theorem unkey_bad (s : ByteArray) (h : bytesOf s = [] ∨ 8 < rd (bytesOf s) 0 ∨ ((bytesOf s).length : Int) ≤ rd (bytesOf s) 0 ∨ (0 < rd (bytesOf s) 0 ∧ rd (bytesOf s) 1 = 0)) (hs : s.size ≤ 140737488351232) (k : Nat) (hk : 10 < k) :
    wire_Unkey.f k s = some (0, (⟨#[]⟩ : ByteArray), false) := by
  have hsz := bytesOf_length s
  have hj : wire_Unkey.j0 k s true = some (0, (⟨#[]⟩ : ByteArray), false) := by
    obtain ⟨k, rfl⟩ : ∃ m, k = m + 1 := ⟨k - 1, by omega⟩
    simp only [wire_Unkey.j0]
    rw [if_pos trivial]
  have hb := (bytesOf_ab s).rd_ 0
  unfold wire_Unkey.f
  by_cases h0 : bytesOf s = []
  · rw [if_pos (by rw [toList_is, h0]; rfl)]; exact hj
  · have hl : 0 < (bytesOf s).length := List.length_pos_iff.2 h0
    rw [if_neg (by rw [toList_is]; exact h0), if_pos (by omega), bt_of, bt_of, wrap64_of (by omega) (by omega)]
    by_cases h1 : rd (bytesOf s) 0 > 8
    · rw [if_pos h1]; exact hj
    · rw [if_neg h1]
      by_cases h2 : (s.size : Int) ≤ rd (bytesOf s) 0
      · rw [if_pos h2]; exact hj
      · rw [if_neg h2]
        rcases h with h | h | h | ⟨h, h'⟩
        · exact absurd h h0
        · omega
        · omega
        · rw [if_pos h, if_pos (by omega), h']; exact hj
theorem none_loop (t : ByteArray) (hs : t.size ≤ 20) (hbad : ∀ c r, bytesOf t = c :: r → 0 ≤ c ∧ c < 256 ∧ (c ≤ 8 → c ≤ (r.length : Int) → 0 < c ∧ rd r 0 = 0)) (d : Nat) :
    ∀ (k i : Nat), t.size + 1 - i = d → d + 15 < k → keywaylaw03_WireUnkeys.l0 k t 0 (⟨#[]⟩ : ByteArray) (i : Int) = some true := by
  have hsz := bytesOf_length t
  induction d with
  | zero =>
    intro k i hd hk
    obtain ⟨k, rfl⟩ : ∃ m, k = m + 1 := ⟨k - 1, by omega⟩
    simp only [keywaylaw03_WireUnkeys.l0]
    rw [if_neg (by omega), awake03 k (by omega)]
    simp only [Option.bind_some, if_true]
    rw [toList_beq_lit]
    rfl
  | succ d ih =>
    intro k i hd hk
    obtain ⟨k, rfl⟩ : ∃ m, k = m + 1 := ⟨k - 1, by omega⟩
    have hn := ih k (i + 1) (by omega) (by omega)
    have e2 : wrap64 ((i : Int) + 1) = ((i + 1 : Nat) : Int) := by rw [wrap64_of (by omega) (by omega)]; omega
    simp only [keywaylaw03_WireUnkeys.l0]
    rw [if_pos (by omega), e2]
    by_cases h0 : (i : Int) > 0
    · rw [if_pos h0]
      by_cases h9 : (i : Int) ≤ 9
      · rw [if_pos h9, if_pos (by omega), bt_of, bt_of]
        cases hT : bytesOf t with
        | nil => rw [hT] at hsz; simp at hsz; omega
        | cons c r =>
          obtain ⟨hc0, hc1, hc⟩ := hbad c r hT
          rw [hT, List.length_cons] at hsz
          rw [rd_cons_zero, rd_cons_succ _ _ _ (by omega), wrap64_of (by omega) (by omega), wrap64_of (by omega) (by omega)]
          by_cases hq : c = (i : Int) - 1
          · rw [if_pos hq]
            have hbc := hc (by omega) (by omega)
            rw [if_neg (by omega), if_pos (by omega), if_pos (by exact hbc.2)]
            exact hn
          · rw [if_neg hq]; exact hn
      · rw [if_neg h9]; exact hn
    · rw [if_neg h0]; exact hn
theorem WireUnkeys : keywaylaw03_WireUnkeys.Pure := by
  intro s hs
  refine ⟨60, ?_⟩
  unfold keywaylaw03_WireUnkeys.f
  have hm : 0 ≤ mn (s.size : Int) 20 ∧ mn (s.size : Int) 20 ≤ (s.size : Int) ∧ mn (s.size : Int) 20 ≤ 20 := by unfold mn; omega
  rw [if_pos hm.1, if_pos hm.2.1]
  generalize hT : s.extract 0 (mn (s.size : Int) 20).toNat = t
  have hts : t.size ≤ 20 := by
    rw [← hT, size_of, bytesOf_extract, List.drop_zero, List.length_take]
    omega
  have hsz := bytesOf_length t
  have hab := bytesOf_ab t
  by_cases hg : ∃ (c : Nat) (r : List Int), bytesOf t = (c : Int) :: r ∧ c ≤ 8 ∧ c ≤ r.length ∧ (0 < c → rd r 0 ≠ 0)
  · obtain ⟨c, r, hb, hc8, hcr, h0⟩ := hg
    rw [unkey_ok t c r hb hc8 hcr h0 60 (by omega)]
    simp only [Option.bind_some, if_true]
    rw [awake03 60 (by omega)]
    simp only [Option.bind_some, if_true]
    rw [hb] at hab
    have hrt := hab.tail.take c
    have hv := val_nonneg (r.take c) hrt 0 (by omega)
    have hl : (r.take c).length = c := by rw [List.length_take]; omega
    have hk : kb (val 0 (r.take c)).toNat = r.take c := kb_val c _ hl hrt (by
      intro x y e
      have hx := (hrt x (by rw [e]; exact List.mem_cons_self)).1
      have hcp : 0 < c := by rw [e] at hl; simp at hl; omega
      have h1 := h0 hcp
      rw [← rd_take r c 0 (by omega) (by omega), e, rd_cons_zero] at h1
      omega)
    obtain ⟨n, hn⟩ := Int.eq_ofNat_of_zero_le hv
    rw [hn, Int.toNat_natCast] at hk
    have hn64 : n < 18446744073709551616 := by
      have hlt : ∀ (l : List Int) (m : Nat), AB l → l.length = m → ∀ a : Nat, val (a : Int) l < ((a + 1) * 256 ^ m : Nat) := by
        intro l
        induction l with
        | nil => intro m _ hm a; subst hm; rw [val_nil]; simp; omega
        | cons x l ih =>
          intro m hl hm a
          subst hm
          have hx := hl.head
          obtain ⟨x', rfl⟩ := Int.eq_ofNat_of_zero_le hx.1
          rw [val_cons]
          have h1 := ih l.length hl.tail rfl (a * 256 + x')
          have h2 : (a * 256 + x' + 1) * 256 ^ l.length ≤ (a + 1) * 256 ^ (l.length + 1) := by
            rw [Nat.pow_succ, Nat.mul_comm (256 ^ l.length) 256, ← Nat.mul_assoc]
            exact Nat.mul_le_mul_right _ (by omega)
          have e1 : (a : Int) * 256 + (x' : Int) = ((a * 256 + x' : Nat) : Int) := by omega
          rw [e1, List.length_cons]
          omega
      have h1 := hlt (r.take c) c hrt hl 0
      have h2 : 256 ^ c ≤ 256 ^ 8 := Nat.pow_le_pow_right (by omega) hc8
      have e0 : ((0 : Nat) : Int) = 0 := rfl
      rw [e0, hn] at h1
      omega
    rw [hn, refKey_f n hn64 60 (by omega)]
    simp only [Option.bind_some]
    have hkey : key n = (c : Int) :: r.take c := by unfold key; rw [hk, hl]
    have hxl : (t.extract (c + 1) t.size).size ≤ 20 := by
      rw [size_of, bytesOf_extract, List.length_drop, List.length_take]; omega
    rw [if_pos (by rw [strOfNums_size, hkey, List.length_cons, hl]; omega)]
    have hka := key_ab n hn64
    have e4 : bytesOf (strOfNums (key n) ++ t.extract (c + 1) t.size) = bytesOf t := by
      have ht2 : List.take t.size ((c : Int) :: r) = (c : Int) :: r := List.take_of_length_le (by rw [← hsz, hb]; exact Nat.le_refl _)
      rw [bytesOf_append, of_str hka, hkey, bytesOf_extract, hb, ht2, List.drop_succ_cons, List.cons_append, List.take_append_drop]
    rw [toList_beq, e4]
    simp
  · have hbad : bytesOf t = [] ∨ 8 < rd (bytesOf t) 0 ∨ ((bytesOf t).length : Int) ≤ rd (bytesOf t) 0 ∨ (0 < rd (bytesOf t) 0 ∧ rd (bytesOf t) 1 = 0) := by
      cases hb : bytesOf t with
      | nil => exact .inl rfl
      | cons c r =>
        right
        rw [hb] at hab
        have hc := hab.head
        obtain ⟨n, rfl⟩ := Int.eq_ofNat_of_zero_le hc.1
        rw [rd_cons_zero, rd_cons_succ _ _ _ (by omega), List.length_cons]
        by_cases h1 : 8 < (n : Int)
        · exact .inl h1
        · right
          by_cases h2 : ((r.length + 1 : Nat) : Int) ≤ (n : Int)
          · exact .inl h2
          · right
            by_cases h3 : 0 < (n : Int) ∧ rd r 0 = 0
            · exact h3
            · exact absurd ⟨n, r, hb, by omega, by omega, fun hp hz => h3 ⟨by omega, hz⟩⟩ hg
    rw [unkey_bad t hbad (by omega) 60 (by omega)]
    simp only [Option.bind_some]
    rw [if_neg (by simp)]
    refine none_loop t hts ?_ (t.size + 1) 60 0 (by omega) (by omega)
    intro c r hb
    rw [hb] at hab
    have hc := hab.head
    refine ⟨hc.1, hc.2, fun h8 hl => ?_⟩
    obtain ⟨n, rfl⟩ := Int.eq_ofNat_of_zero_le hc.1
    by_cases h3 : 0 < n ∧ rd r 0 = 0
    · exact ⟨by omega, h3.2⟩
    · exact absurd ⟨n, r, hb, by omega, by omega, fun hp hz => h3 ⟨by omega, hz⟩⟩ hg
end Go.Proofs.Ytnejefipkmnioaa.Pure

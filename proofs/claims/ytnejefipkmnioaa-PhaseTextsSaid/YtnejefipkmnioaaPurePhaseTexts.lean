/- A record has the document's bytes, and is read again; one that may not be has none: for every record. -/
import Derived.Test.YtnejefipkmnioaaQPhaseTextsx4
import Derived.Test.YtnejefipkmnioaaLibR
namespace Go.Proofs.Ytnejefipkmnioaa.Pure
open Go.RowKit Go.Proofs.Ytnejefipkmnioaa.QPhaseTexts Go.Proofs.YtnejefipkmnioaaW.PrintWords Go.Proofs.YtnejefipkmnioaaW.PrintLast Go.Proofs.YtnejefipkmnioaaW.PrintMore Go.Proofs.Ytnejefipkmnioaa.Lib
/-! ### wire.Num -/
theorem wireNum_loop (n : Nat) : ∀ (k : Nat) (acc : List Int), (nb n).length ≤ k → (nb n).length + acc.length < 1000 →
    wire_Num.l0 k (n : Int) acc = some (strOfNums (acc ++ nb n)) := by
  induction n using Nat.strongRecOn with
  | ind n ih =>
    intro k acc hk hl
    have hp := nb_pos n
    obtain ⟨k, rfl⟩ : ∃ m, k = m + 1 := ⟨k - 1, by omega⟩
    by_cases h : n < 128
    · simp only [wire_Num.l0]
      rw [if_neg (by omega), if_pos (by omega), nb_low h]
      have e2 : (n : Int) % 256 = (n : Int) := by omega
      rw [e2]
    · have e := nb_high h
      have el : (nb n).length = (nb (n / 128)).length + 1 := by rw [e]; simp
      simp only [wire_Num.l0]
      rw [if_pos (by omega), if_pos (by omega), or128 _ (by omega) (by omega)]
      have e1 : (n : Int) / 128 = ((n / 128 : Nat) : Int) := by omega
      have e2 : 128 + (n : Int) % 256 % 128 = ((128 + n % 128 : Nat) : Int) := by omega
      rw [e1, e2, ih (n / 128) (by omega) k _ (by omega) (by simp; omega), e, List.append_assoc]
      rfl
theorem wireNum_f (a : Nat) (h : a < 18446744073709551616) (k : Nat) (hk : 10 ≤ k) : wire_Num.f k (a : Int) = some (strOfNums (nb a)) := by
  have h8 := nb_len10 a h
  unfold wire_Num.f
  rw [wireNum_loop a k [] (by omega) (by simp; omega)]
  rfl
/-! ### wire.Reader -/
theorem rnum_loop (s : ByteArray) (most : Int) (_hs : s.size < 9223372036854775808) (m : Nat) : ∀ (k i n : Nat), m + i = 10 → 2 * m + 2 ≤ k → n < 128 ^ i → i ≤ s.size →
    wire_Reader_Num.l0 k most (n : Int) (i : Int) s 0 = some (tell s most (dec m i n ((bytesOf s).drop i))) := by
  have hsz := bytesOf_length s
  induction m with
  | zero =>
    intro k i n hm hk hn hi
    obtain ⟨k, rfl⟩ : ∃ q, k = q + 1 := ⟨k - 1, by omega⟩
    simp only [wire_Reader_Num.l0]
    rw [if_neg (by omega)]
    rfl
  | succ m ih =>
    intro k i n hm hk hn hi
    obtain ⟨k, rfl⟩ : ∃ q, k = q + 2 := ⟨k - 2, by omega⟩
    have h1 : i ≤ 9 := by clear hn; omega
    have HN : ∀ _ : Unit, n < 128 ^ i := fun _ => hn
    clear hn
    simp only [wire_Reader_Num.l0]
    rw [if_pos (by omega)]
    by_cases he : i = s.size
    · rw [if_pos (by omega), List.drop_of_length_le (by omega)]
      rfl
    · have hb := (bytesOf_ab s).rd_ (i : Int)
      obtain ⟨c, hc⟩ : ∃ c : Nat, rd (bytesOf s) (i : Int) = (c : Int) := Int.eq_ofNat_of_zero_le hb.1
      rw [hc] at hb
      have hd : (bytesOf s).drop i = (c : Int) :: (bytesOf s).drop (i + 1) := by rw [drop_cons_rd _ _ (by omega), hc]
      rw [if_neg (by omega), if_pos (by omega), if_pos (by omega), bt_of, hc, hd]
      simp only [dec]
      have hi7 : wrap64 (7 * (i : Int)) = ((7 * i : Nat) : Int) := by rw [wrap64_of (by omega) (by omega)]; omega
      have hi1 : wrap64 ((i : Int) + 1) = ((i + 1 : Nat) : Int) := by rw [wrap64_of (by omega) (by omega)]; omega
      have hjT : wire_Reader_Num.j1 (k + 1) most (n : Int) (i : Int) (c : Int) (i : Int) true s 0 = some (0, s, 3) := by
        simp only [wire_Reader_Num.j1]
        rw [if_pos trivial]
        rfl
      have hjF : (i = 9 → c ≤ 1) → wire_Reader_Num.j1 (k + 1) most (n : Int) (i : Int) (c : Int) (i : Int) false s 0 =
          some (tell s most (if (c : Int) < 128 then .ok (n + ((c : Int)).toNat * 128 ^ i) (i + 1) else dec m (i + 1) (n + (((c : Int)).toNat - 128) * 128 ^ i) ((bytesOf s).drop (i + 1)))) := by
        intro h9
        simp only [wire_Reader_Num.j1]
        rw [if_neg (by simp), hi7, if_pos (by omega), and128 _ (by omega) (by omega), and127 _ (by omega) (by omega)]
        have hcm : (c : Int) % 128 = ((c % 128 : Nat) : Int) := by omega
        rw [hcm, IntWalk.u64_in _ ⟨by omega, by omega⟩, or_digit i n (c % 128) h1 (HN ()) (by omega) (by omega), hi1]
        by_cases hlt : (c : Int) < 128
        · have e1 : ((c : Int)).toNat = c % 128 := by omega
          rw [if_pos hlt, if_pos rfl, if_pos hlt, e1]
          simp only [tell]
          by_cases ho : ((n + c % 128 * 128 ^ i : Nat) : Int) > most
          · rw [if_pos ho, if_pos ho]; rfl
          · rw [if_neg ho, if_neg ho, if_pos (by omega), if_pos (by omega), Int.toNat_natCast]
        · have e1 : ((c : Int)).toNat - 128 = c % 128 := by omega
          rw [if_neg hlt, if_neg (by omega), if_neg hlt, e1]
          exact ih k (i + 1) (n + c % 128 * 128 ^ i) (by omega) (by omega) (next_digit i n _ (HN ()) (by omega)) (by omega)
      by_cases hi9 : (i : Int) = 9
      · rw [if_pos hi9]
        by_cases hc1 : (c : Int) > 1
        · rw [if_pos hc1, hjT, if_pos (show (m = 0 ∧ 1 < (c : Int)) ∨ (0 < i ∧ (c : Int) = 0) by omega)]; rfl
        · rw [if_neg hc1, if_pos (show (i : Int) > 0 by omega)]
          by_cases hc0 : (c : Int) = 0
          · rw [show ((c : Int) == 0) = true from by rw [beq_iff_eq]; exact hc0, hjT, if_pos (show (m = 0 ∧ 1 < (c : Int)) ∨ (0 < i ∧ (c : Int) = 0) by omega)]; rfl
          · rw [show ((c : Int) == 0) = false from by rw [beq_eq_false_iff_ne]; exact hc0, hjF (by omega), if_neg (show ¬ ((m = 0 ∧ 1 < (c : Int)) ∨ (0 < i ∧ (c : Int) = 0)) by omega)]
      · rw [if_neg hi9]
        by_cases hi0 : (i : Int) > 0
        · rw [if_pos hi0]
          by_cases hc0 : (c : Int) = 0
          · rw [show ((c : Int) == 0) = true from by rw [beq_iff_eq]; exact hc0, hjT, if_pos (show (m = 0 ∧ 1 < (c : Int)) ∨ (0 < i ∧ (c : Int) = 0) by omega)]; rfl
          · rw [show ((c : Int) == 0) = false from by rw [beq_eq_false_iff_ne]; exact hc0, hjF (by omega), if_neg (show ¬ ((m = 0 ∧ 1 < (c : Int)) ∨ (0 < i ∧ (c : Int) = 0)) by omega)]
        · rw [if_neg hi0, hjF (by omega), if_neg (show ¬ ((m = 0 ∧ 1 < (c : Int)) ∨ (0 < i ∧ (c : Int) = 0)) by omega)]
theorem rnum_f (s : ByteArray) (most : Int) (hs : s.size < 9223372036854775808) (k : Nat) (hk : 22 ≤ k) : wire_Reader_Num.f k s 0 most = some (numR s most) := by
  unfold wire_Reader_Num.f wire_Reader_Err.f
  simp only [Option.bind_some]
  rw [if_pos trivial]
  exact rnum_loop s most hs 10 k 0 0 (by omega) (by omega) (by omega) (by omega)
theorem rnum_err (s : ByteArray) (e most : Int) (he : ¬ e = 0) (k : Nat) : wire_Reader_Num.f k s e most = some (0, s, e) := by
  unfold wire_Reader_Num.f wire_Reader_Err.f
  simp only [Option.bind_some]
  rw [if_neg he]
theorem rnumE_f (s : ByteArray) (e most : Int) (hs : s.size < 9223372036854775808) (k : Nat) (hk : 22 ≤ k) : wire_Reader_Num.f k s e most = some (numE s e most) := by
  unfold numE
  by_cases h : e = 0
  · subst h; rw [if_pos rfl]; exact rnum_f s most hs k hk
  · rw [if_neg h]; exact rnum_err s e most h k
theorem rend_f (s : ByteArray) (e : Int) (k : Nat) (hk : 0 < k) : wire_Reader_End.f k s e = some (if e = 0 then (if (s.size : Int) > 0 then (5, s, 5) else (0, s, 0)) else (e, s, e)) := by
  obtain ⟨k, rfl⟩ : ∃ q, k = q + 1 := ⟨k - 1, by omega⟩
  unfold wire_Reader_End.f wire_Reader_Err.f
  simp only [Option.bind_some, wire_Reader_End.j0]
  by_cases he : e = 0
  · subst he
    rw [if_pos rfl, if_pos rfl]
    by_cases hz : (s.size : Int) > 0
    · rw [if_pos (decide_eq_true hz), if_pos hz]; rfl
    · rw [if_neg (by rw [decide_eq_false hz]; simp), if_neg hz]; rfl
  · rw [if_neg he, if_neg he]
    rw [if_neg (by simp)]; rfl
/-! ### phase -/
theorem phaseText_f (p a b : Nat) (hp : p ≤ 7) (ha : a < 4611686018427387904) (hb : b < 4611686018427387904) (k : Nat) (hk : 10 ≤ k) :
    phase_Text.f k (p : Int) (a : Int) (b : Int) = some (strOfNums (nb p) ++ strOfNums (nb a) ++ strOfNums (nb b)) := by
  have l1 := nb_len10 p (by omega)
  have l2 := nb_len10 a (by omega)
  have l3 := nb_len10 b (by omega)
  unfold phase_Text.f phase_May.f
  have c1 : (p : Int) ≥ 0 := by omega
  have c2 : (p : Int) ≤ 7 := by omega
  have c3 : (a : Int) < 4611686018427387904 := by omega
  have c4 : (b : Int) < 4611686018427387904 := by omega
  simp only [if_pos c1, if_pos c2, if_pos c3, Option.bind_some, decide_eq_true c4, ↓reduceIte]
  rw [IntWalk.u64_in _ ⟨by omega, by omega⟩, wireNum_f p (by omega) k hk, wireNum_f a (by omega) k hk, wireNum_f b (by omega) k hk]
  simp only [Option.bind_some]
  rw [if_pos (by rw [strOfNums_size, strOfNums_size]; omega), if_pos (by rw [ByteArray.size_append, strOfNums_size, strOfNums_size, strOfNums_size]; omega)]
theorem phaseOf_f (s : ByteArray) (hs : s.size < 9223372036854775808) (k : Nat) (hk : 22 ≤ k) :
    phase_Of.f k s = some (let x := numE s 0 7; let y := numE x.2.1 x.2.2 4611686018427387903; let z := numE y.2.1 y.2.2 4611686018427387903;
      let e := if z.2.2 = 0 then (if (z.2.1.size : Int) > 0 then 5 else 0) else z.2.2; if e = 0 then (wrap64 x.1, y.1, z.1, 0) else (0, 0, 0, e)) := by
  unfold phase_Of.f wire_New.f
  simp only [Option.bind_some]
  have h1 := numE_size s 0 7
  have h2 := numE_size (numE s 0 7).2.1 (numE s 0 7).2.2 4611686018427387903
  rw [rnumE_f _ _ _ hs k hk]
  simp only [Option.bind_some]
  rw [rnumE_f _ _ _ (by omega) k hk]
  simp only [Option.bind_some]
  rw [rnumE_f _ _ _ (by omega) k hk]
  simp only [Option.bind_some]
  rw [rend_f _ _ k (by omega)]
  simp only [Option.bind_some]
  generalize numE (numE (numE s 0 7).2.1 (numE s 0 7).2.2 4611686018427387903).2.1 (numE (numE s 0 7).2.1 (numE s 0 7).2.2 4611686018427387903).2.2 4611686018427387903 = z
  by_cases h : z.2.2 = 0
  · rw [if_pos h, if_pos h]
    by_cases h5 : (z.2.1.size : Int) > 0
    · rw [if_pos h5, if_pos h5]; rfl
    · rw [if_neg h5, if_neg h5]; rfl
  · rw [if_neg h, if_neg h, if_neg h, if_neg h]
theorem phase_back (s : ByteArray) (p a b : Nat) (hp : p ≤ 7) (ha : a < 4611686018427387904) (hb : b < 4611686018427387904) (hs : bytesOf s = nb p ++ (nb a ++ nb b)) (k : Nat) (hk : 22 ≤ k) :
    phase_Of.f k s = some ((p : Int), (a : Int), (b : Int), 0) := by
  have l1 := nb_len10 p (by omega)
  have l2 := nb_len10 a (by omega)
  have l3 := nb_len10 b (by omega)
  have hz : s.size < 9223372036854775808 := by rw [size_of, hs, List.length_append, List.length_append]; omega
  rw [phaseOf_f s hz k hk]
  have e1 : numE s 0 7 = ((p : Int), s.extract (nb p).length s.size, 0) := by
    unfold numE; rw [if_pos rfl, numR_nb s p _ (by omega) hs, if_neg (by omega)]
  have r1 := bytes_rest s _ _ hs
  simp only [e1]
  generalize s.extract (nb p).length s.size = t at r1
  have e2 : numE t 0 4611686018427387903 = ((a : Int), t.extract (nb a).length t.size, 0) := by
    unfold numE; rw [if_pos rfl, numR_nb t a _ (by omega) r1, if_neg (by omega)]
  have r2 := bytes_rest t _ _ r1
  simp only [e2]
  generalize t.extract (nb a).length t.size = u at r2
  have e3 : numE u 0 4611686018427387903 = ((b : Int), u.extract (nb b).length u.size, 0) := by
    unfold numE; rw [if_pos rfl, numR_nb u b [] (by omega) (by rw [r2, List.append_nil]), if_neg (by omega)]
  have r3 := bytes_rest u (nb b) [] (by rw [r2, List.append_nil])
  simp only [e3]
  have h0 : (u.extract (nb b).length u.size).size = 0 := by rw [size_of, r3]; rfl
  have h1 : ¬ (((u.extract (nb b).length u.size).size : Int) > 0) := by omega
  simp only [↓reduceIte, if_neg h1]
  rw [wrap64_of (by omega) (by omega)]
theorem awake17 (k : Nat) (hk : 22 ≤ k) : keywaylaw17_awake.f k = some true := by
  unfold keywaylaw17_awake.f
  have h := phaseText_f 1 5 2 (by omega) (by omega) (by omega) k (by omega)
  rw [show (1 : Int) = ((1 : Nat) : Int) from rfl, show (5 : Int) = ((5 : Nat) : Int) from rfl, show (2 : Int) = ((2 : Nat) : Int) from rfl, h]
  simp only [Option.bind_some]
  rw [phase_back _ 1 5 2 (by omega) (by omega) (by omega) (by rw [bytesOf_append, bytesOf_append, of_str (nb_ab _), of_str (nb_ab _), of_str (nb_ab _), List.append_assoc]) k hk]
  rfl
theorem refNum_f (n : Nat) : ∀ (k : Nat), n < 18446744073709551616 → (nb n).length ≤ k → keywayref03_Num.f k (n : Int) = some (strOfNums (nb n)) := by
  induction n using Nat.strongRecOn with
  | ind n ih =>
    intro k hn hk
    have hp := nb_pos n
    have h10 := nb_len10 n hn
    obtain ⟨k, rfl⟩ : ∃ q, k = q + 1 := ⟨k - 1, by omega⟩
    simp only [keywayref03_Num.f]
    by_cases h : n < 128
    · rw [if_pos (by omega), nb_low h]
      have e : (n : Int) % 256 = (n : Int) := by omega
      rw [e]
    · have el := nb_high h
      have e1 : IntKind.u64.wrap (Int.tdiv (n : Int) 128) = ((n / 128 : Nat) : Int) := by
        rw [Int.tdiv_eq_ediv_of_nonneg (by omega), IntWalk.u64_in _ ⟨by omega, by omega⟩]; omega
      have e2 : IntKind.u64.wrap (128 + Int.tmod (n : Int) 128) % 256 = ((128 + n % 128 : Nat) : Int) := by
        rw [Int.tmod_eq_emod_of_nonneg (by omega), IntWalk.u64_in _ ⟨by omega, by omega⟩]; omega
      rw [el, List.length_cons] at hk h10
      rw [if_neg (by omega)]
      simp only [Option.bind_some]
      rw [e1, e2, ih (n / 128) (by omega) k (by omega) (by omega)]
      simp only [Option.bind_some]
      rw [if_pos (by rw [strOfNums_size, strOfNums_size]; simp; omega), ← str_app, el]
      rfl
theorem texts_no (p a b : Int) (h : ¬ (0 ≤ p ∧ p ≤ 7 ∧ a < 4611686018427387904 ∧ b < 4611686018427387904)) (k : Nat) (hk : 50 ≤ k) : keywaylaw17_PhaseTexts.j0 (k + 1) false p a b = some true := by
  have hm : phase_May.f p a b = some false := by
    unfold phase_May.f
    by_cases h1 : p ≥ 0
    · rw [if_pos h1]
      by_cases h2 : p ≤ 7
      · rw [if_pos h2]
        by_cases h3 : a < 4611686018427387904
        · rw [if_pos h3, decide_eq_false (fun h4 => h ⟨h1, h2, h3, h4⟩)]
        · rw [if_neg h3]
      · rw [if_neg h2]
    · rw [if_neg h1]
  have ht : phase_Text.f k p a b = some (⟨#[]⟩ : ByteArray) := by
    unfold phase_Text.f
    rw [hm, Option.bind_some, if_neg (by simp)]
  have ho : phase_Of.f k (⟨#[]⟩ : ByteArray) = some (0, 0, 0, 2) := by
    have e : numE (⟨#[]⟩ : ByteArray) 0 7 = (0, (⟨#[]⟩ : ByteArray), 2) := rfl
    have e2 : numE (⟨#[]⟩ : ByteArray) 2 4611686018427387903 = (0, (⟨#[]⟩ : ByteArray), 2) := rfl
    rw [phaseOf_f _ (by decide) k (by omega)]
    simp only [e, e2]
    rfl
  simp only [keywaylaw17_PhaseTexts.j0]
  rw [ht, Option.bind_some, ho, Option.bind_some, if_neg (by simp), awake17 k (by omega), Option.bind_some, if_pos rfl, hm, Option.bind_some, if_neg (by simp), if_pos (by rw [ByteArray.toList_eq])]
  rfl
theorem texts_yes (p a b : Nat) (hp : p ≤ 7) (ha : a < 4611686018427387904) (hb : b < 4611686018427387904) (k : Nat) (hk : 50 ≤ k) : keywaylaw17_PhaseTexts.j0 (k + 1) true (p : Int) (a : Int) (b : Int) = some true := by
  have l1 := nb_len10 p (by omega)
  have l2 := nb_len10 a (by omega)
  have l3 := nb_len10 b (by omega)
  have hm : phase_May.f (p : Int) (a : Int) (b : Int) = some true := by
    unfold phase_May.f
    rw [if_pos (show (p : Int) ≥ 0 by omega), if_pos (show (p : Int) ≤ 7 by omega), if_pos (show (a : Int) < 4611686018427387904 by omega), decide_eq_true (show (b : Int) < 4611686018427387904 by omega)]
  have ho := phase_back (strOfNums (nb p) ++ strOfNums (nb a) ++ strOfNums (nb b)) p a b hp ha hb (by rw [bytesOf_append, bytesOf_append, of_str (nb_ab _), of_str (nb_ab _), of_str (nb_ab _), List.append_assoc]) k (by omega)
  simp only [keywaylaw17_PhaseTexts.j0]
  rw [phaseText_f p a b hp ha hb k (by omega), Option.bind_some, ho, Option.bind_some, if_pos trivial, awake17 k (by omega), Option.bind_some, if_pos rfl, hm, Option.bind_some, if_pos rfl, IntWalk.u64_in (p : Int) ⟨by omega, by omega⟩, refNum_f p k (by omega) (by omega), Option.bind_some, refNum_f a k (by omega) (by omega), Option.bind_some,
    if_pos (by rw [strOfNums_size, strOfNums_size]; omega), refNum_f b k (by omega) (by omega), Option.bind_some, if_pos (by rw [ByteArray.size_append, strOfNums_size, strOfNums_size, strOfNums_size]; omega), if_pos rfl, if_pos rfl]
  simp
def PhaseTextsPure : Prop := ∀ (a0 a1 a2 : Int), (Lit.int .i64 a0).wf = true → (Lit.int .u64 a1).wf = true → (Lit.int .u64 a2).wf = true → ∃ k, keywaylaw17_PhaseTexts.f k a0 a1 a2 = some true
theorem PhaseTexts : PhaseTextsPure := by
  intro p a1 a2 _ w1 w2
  have b1 := wf_u64 w1
  have b2 := wf_u64 w2
  obtain ⟨k, hk⟩ : ∃ k : Nat, 50 ≤ k := ⟨50, Nat.le_refl _⟩
  refine ⟨k + 1, ?_⟩
  unfold keywaylaw17_PhaseTexts.f
  by_cases h1 : p ≥ 0
  · rw [if_pos h1]
    by_cases h2 : p ≤ 7
    · rw [if_pos h2]
      by_cases h3 : a1 < 4611686018427387904
      · rw [if_pos h3]
        by_cases h4 : a2 < 4611686018427387904
        · rw [decide_eq_true h4]
          obtain ⟨p, rfl⟩ := Int.eq_ofNat_of_zero_le h1
          obtain ⟨a, rfl⟩ := Int.eq_ofNat_of_zero_le b1.1
          obtain ⟨b, rfl⟩ := Int.eq_ofNat_of_zero_le b2.1
          exact texts_yes p a b (by omega) (by omega) (by omega) k hk
        · rw [decide_eq_false h4]
          exact texts_no p a1 a2 (fun h => h4 h.2.2.2) k hk
      · rw [if_neg h3]
        exact texts_no p a1 a2 (fun h => h3 h.2.2.1) k hk
    · rw [if_neg h2]
      exact texts_no p a1 a2 (fun h => h2 h.2.1) k hk
  · rw [if_neg h1]
    exact texts_no p a1 a2 (fun h => h1 h.1) k hk
end Go.Proofs.Ytnejefipkmnioaa.Pure

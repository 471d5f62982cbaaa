/- Words with tabs between them are the same words, and stand in the text where they say: for every text. -/
import Derived.Test.YtgdnomnealjdlaaQLJx4
import Derived.Test.YtgdnomnealjdlaaLib
namespace Go.Proofs.Ytgdnomnealjdlaa.Pure
open Go.RowKit Go.Proofs.Ytgdnomnealjdlaa.QLJ Go.Proofs.YtgdnomnealjdlaaW.PrintWords Go.Proofs.YtgdnomnealjdlaaW.PrintLast Go.Proofs.YtgdnomnealjdlaaW.PrintMore Go.Proofs.Ytgdnomnealjdlaa.Lib
/-! ### bytes: what they are -/
def cls (c : Int) : Int :=
  if (97 ≤ c ∧ c ≤ 122) ∨ (65 ≤ c ∧ c ≤ 90) ∨ c = 95 then 1 else if 48 ≤ c ∧ c ≤ 57 then 2 else if c = 32 ∨ c = 9 ∨ c = 10 ∨ c = 13 then 3
  else if c = 123 ∨ c = 125 ∨ c = 40 ∨ c = 41 ∨ c = 59 ∨ c = 58 ∨ c = 44 ∨ c = 61 ∨ c = 46 ∨ c = 64 ∨ c = 38 ∨ c = 42 ∨ c = 60 ∨ c = 43 ∨ c = 45 then 4 else 0
theorem class_all : ∀ c : Nat, c < 256 → lex_class.f 6 (c : Int) = some (cls (c : Int)) := by decide +kernel
theorem class_f (c : Int) (h0 : 0 ≤ c) (h1 : c < 256) (k : Nat) (hk : 6 ≤ k) : lex_class.f k c = some (cls c) := by
  obtain ⟨n, rfl⟩ := Int.eq_ofNat_of_zero_le h0
  exact at_rounds (lex_class.mono _) hk (class_all n (by omega))
theorem class_bt (s : ByteArray) (i : Int) (k : Nat) (hk : 6 ≤ k) : lex_class.f k (bt s i) = some (cls (rd (bytesOf s) i)) := by
  have h := (bytesOf_ab s).rd_ i
  rw [bt_of]
  exact class_f _ h.1 h.2 k hk
/-- The kept names. -/
def kept (l : List UInt8) : Bool := [[103, 108, 111, 98, 97, 108], [102, 105, 101, 108, 100], [102, 110], [118, 97, 114], [105, 110, 116], [114, 101, 102], [102, 117, 110], [105, 102], [101, 108, 115, 101], [119, 104, 105, 108, 101], [108, 111, 99, 107], [117, 110, 108, 111, 99, 107], [115, 112, 97, 119, 110], [114, 101, 116, 117, 114, 110], [115, 107, 105, 112], [110, 101, 119], [110, 117, 108, 108]].any fun w => w == l
theorem kept_f (s : ByteArray) (k : Nat) (hk : 1 ≤ k) : lex_Kept.f k s = some (kept s.toList) := by
  obtain ⟨k, rfl⟩ : ∃ m, k = m + 1 := ⟨k - 1, by omega⟩
  unfold lex_Kept.f kept
  simp only [lex_Kept.j0]
  generalize s.toList = l
  by_cases h1 : l = [103, 108, 111, 98, 97, 108]
  · subst h1; rfl
  rw [if_neg h1]
  by_cases h2 : l = [102, 105, 101, 108, 100]
  · subst h2; rfl
  rw [if_neg h2]
  by_cases h3 : l = [102, 110]
  · subst h3; rfl
  rw [if_neg h3]
  by_cases h4 : l = [118, 97, 114]
  · subst h4; rfl
  rw [if_neg h4]
  by_cases h5 : l = [105, 110, 116]
  · subst h5; rfl
  rw [if_neg h5]
  by_cases h6 : l = [114, 101, 102]
  · subst h6; rfl
  rw [if_neg h6]
  by_cases h7 : l = [102, 117, 110]
  · subst h7; rfl
  rw [if_neg (by rw [beq_iff_eq]; exact h7)]
  by_cases h8 : l = [105, 102]
  · subst h8; rfl
  rw [if_neg h8]
  by_cases h9 : l = [101, 108, 115, 101]
  · subst h9; rfl
  rw [if_neg h9]
  by_cases h10 : l = [119, 104, 105, 108, 101]
  · subst h10; rfl
  rw [if_neg h10]
  by_cases h11 : l = [108, 111, 99, 107]
  · subst h11; rfl
  rw [if_neg h11]
  by_cases h12 : l = [117, 110, 108, 111, 99, 107]
  · subst h12; rfl
  rw [if_neg h12]
  by_cases h13 : l = [115, 112, 97, 119, 110]
  · subst h13; rfl
  rw [if_neg h13]
  by_cases h14 : l = [114, 101, 116, 117, 114, 110]
  · subst h14; rfl
  rw [if_neg h14]
  by_cases h15 : l = [115, 107, 105, 112]
  · subst h15; rfl
  rw [if_neg h15]
  by_cases h16 : l = [110, 101, 119]
  · subst h16; rfl
  rw [if_neg h16]
  by_cases h17 : l = [110, 117, 108, 108]
  · subst h17; rfl
  rw [if_neg h17]
  have q : ∀ a : List UInt8, l ≠ a → (a == l) = false := fun a h => by rw [beq_eq_false_iff_ne]; exact fun e => h e.symm
  simp only [List.any_cons, List.any_nil, q _ h1, q _ h2, q _ h3, q _ h4, q _ h5, q _ h6, q _ h7, q _ h8, q _ h9, q _ h10, q _ h11, q _ h12, q _ h13, q _ h14, q _ h15, q _ h16, q _ h17, Bool.or_false]
/-! ### words: plainly -/
def sk : Bool → List Int → Nat
  | _, [] => 0
  | nt, c :: t => if c = 10 then 1 + sk false t else if nt = true ∨ c = 32 ∨ c = 9 ∨ c = 13 then 1 + sk nt t else if c = 35 then 1 + sk true t else 0
theorem sk_le : ∀ (nt : Bool) (l : List Int), sk nt l ≤ l.length
  | _, [] => by simp [sk]
  | nt, c :: t => by
    have h1 := sk_le false t
    have h2 := sk_le nt t
    have h3 := sk_le true t
    rw [sk, List.length_cons]
    repeat' split
    all_goals omega
def run (p : Int → Bool) : List Int → Nat
  | [] => 0
  | c :: t => if p c then 1 + run p t else 0
theorem run_le (p : Int → Bool) : ∀ l : List Int, run p l ≤ l.length
  | [] => by simp [run]
  | c :: t => by
    have h := run_le p t
    rw [run, List.length_cons]
    split <;> omega
def isW (c : Int) : Bool := cls c == 1 || cls c == 2
def isD (c : Int) : Bool := cls c == 2
def num : Int → List Int → Option Int
  | n, [] => some n
  | n, c :: t => if n * 10 + (c - 48) > 2147483648 then none else num (n * 10 + (c - 48)) t
def word (s : ByteArray) (i : Nat) : Option (Int × Nat × Int) :=
  if cls (rd (bytesOf s) i) = 1 then some (if kept (s.extract i (i + 1 + run isW ((bytesOf s).drop (i + 1)))).toList then 3 else 1, i + 1 + run isW ((bytesOf s).drop (i + 1)), 0)
  else if cls (rd (bytesOf s) i) = 2 then (num 0 (((bytesOf s).take (i + 1 + run isD ((bytesOf s).drop (i + 1)))).drop i)).map fun n => (2, i + 1 + run isD ((bytesOf s).drop (i + 1)), n)
  else if cls (rd (bytesOf s) i) = 4 then some (4, if rd (bytesOf s) i = 61 ∧ i + 1 < s.size ∧ rd (bytesOf s) (i + 1 : Nat) = 61 then i + 2 else i + 1, 0)
  else none
def lx (s : ByteArray) : Nat → List S53 → Nat → List S53 × Int × Int
  | 0, _, _ => ([], 0, 0)
  | f + 1, acc, i => if i < s.size then (match word s i with
      | none => ([], 180, (i : Int))
      | some w => lx s f (acc ++ [(⟨w.1, (i : Int), w.2.2, s.extract i w.2.1⟩ : S53)]) (w.2.1 + sk false ((bytesOf s).drop w.2.1)))
    else (acc ++ [(⟨0, (s.size : Int), 0, (⟨#[]⟩ : ByteArray)⟩ : S53)], 0, 0)
theorem drop_bt (s : ByteArray) (i : Nat) (h : i < s.size) : (bytesOf s).drop i = rd (bytesOf s) i :: (bytesOf s).drop (i + 1) := drop_cons_rd _ _ (by rw [bytesOf_length]; exact h)
theorem wrap_next (i : Nat) (h : i < 1000000) : wrap64 ((i : Int) + 1) = ((i + 1 : Nat) : Int) := by rw [wrap64_of (by omega) (by omega)]; omega
theorem cls3 (c : Int) (h : cls c = 3) : c = 32 ∨ c = 9 ∨ c = 10 ∨ c = 13 := by
  unfold cls at h
  repeat' split at h
  all_goals first | assumption | omega
theorem cls_sp {c : Int} (h : c = 32 ∨ c = 9 ∨ c = 10 ∨ c = 13) : cls c = 3 := by rcases h with rfl | rfl | rfl | rfl <;> rfl
theorem skip_loop (s : ByteArray) (hs : s.size < 100000) (d : Nat) : ∀ (i : Nat), s.size - i = d → i ≤ s.size →
    (∀ k, 4 * d + 10 < k → lex_skip.l0 k s (i : Int) = some ((i + sk false ((bytesOf s).drop i) : Nat) : Int)) ∧ (∀ k, 4 * d + 12 < k → lex_skip.l1 k s (i : Int) = some ((i + sk true ((bytesOf s).drop i) : Nat) : Int)) := by
  have hsz := bytesOf_length s
  induction d with
  | zero =>
    intro i hd hi
    have h0 : ∀ k, 4 * 0 + 10 < k → lex_skip.l0 k s (i : Int) = some ((i + sk false ((bytesOf s).drop i) : Nat) : Int) := by
      intro k hk
      obtain ⟨k, rfl⟩ : ∃ m, k = m + 1 := ⟨k - 1, by omega⟩
      simp only [lex_skip.l0]
      rw [if_neg (by omega), List.drop_of_length_le (by omega)]
      rfl
    refine ⟨h0, fun k hk => ?_⟩
    obtain ⟨k, rfl⟩ : ∃ m, k = m + 1 := ⟨k - 1, by omega⟩
    simp only [lex_skip.l1]
    rw [if_neg (by omega), h0 k (by omega), List.drop_of_length_le (by omega)]
    rfl
  | succ d ih =>
    intro i hd hi
    obtain ⟨ih0, ih1⟩ := ih (i + 1) (by omega) (by omega)
    have hdr := drop_bt s i (by omega)
    have e := wrap_next i (by omega)
    have h0 : ∀ k, 4 * (d + 1) + 10 < k → lex_skip.l0 k s (i : Int) = some ((i + sk false ((bytesOf s).drop i) : Nat) : Int) := by
      intro k hk
      obtain ⟨k, rfl⟩ : ∃ m, k = m + 1 := ⟨k - 1, by omega⟩
      simp only [lex_skip.l0]
      rw [if_pos (by omega), if_pos (by omega), class_bt s _ k (by omega), Option.bind_some, hdr, sk, e, bt_of]
      by_cases h3 : cls (rd (bytesOf s) i) = 3
      · rw [if_pos h3, ih0 k (by omega)]
        rcases cls3 _ h3 with h | h | h | h <;> rw [h] <;> simp <;> omega
      · rw [if_neg h3]
        by_cases h35 : rd (bytesOf s) i = 35
        · obtain ⟨k, rfl⟩ : ∃ m, k = m + 1 := ⟨k - 1, by omega⟩
          rw [if_pos h35]
          simp only [lex_skip.l1]
          rw [if_pos (by omega), if_pos (by omega), bt_of, h35, if_neg (by omega), e, ih1 k (by omega)]
          simp
          omega
        · have hn : ¬ (rd (bytesOf s) i = 32 ∨ rd (bytesOf s) i = 9 ∨ rd (bytesOf s) i = 10 ∨ rd (bytesOf s) i = 13) := fun h => h3 (cls_sp h)
          rw [if_neg h35, if_neg (fun h => hn (.inr (.inr (.inl h)))), if_neg (by
            rintro (h | h | h | h)
            · cases h
            · exact hn (.inl h)
            · exact hn (.inr (.inl h))
            · exact hn (.inr (.inr (.inr h)))), if_neg h35]
          rfl
    refine ⟨h0, fun k hk => ?_⟩
    obtain ⟨k, rfl⟩ : ∃ m, k = m + 1 := ⟨k - 1, by omega⟩
    simp only [lex_skip.l1]
    rw [if_pos (by omega), if_pos (by omega), bt_of, e]
    by_cases h10 : rd (bytesOf s) i = 10
    · rw [if_pos h10, h0 k (by omega), hdr, sk, sk, if_pos h10, if_pos h10]
    · rw [if_neg h10, ih1 k (by omega), hdr, sk, if_neg h10, if_pos (.inl rfl)]
      congr 1
      omega
theorem skip_f (s : ByteArray) (hs : s.size < 100000) (i : Nat) (hi : i ≤ s.size) (k : Nat) (hk : 4 * s.size + 10 < k) : lex_skip.f k s (i : Int) = some ((i + sk false ((bytesOf s).drop i) : Nat) : Int) := by
  unfold lex_skip.f
  exact (skip_loop s hs (s.size - i) i rfl hi).1 k (by omega)
theorem end_loop1 (s : ByteArray) (hs : s.size < 100000) (d : Nat) : ∀ (k i : Nat), s.size - i = d → i ≤ s.size → d + 10 < k →
    lex_end.l0 k s (i : Int) = some (((i + run isW ((bytesOf s).drop i) : Nat) : Int), 1) := by
  have hsz := bytesOf_length s
  induction d with
  | zero =>
    intro k i hd hi hk
    obtain ⟨k, rfl⟩ : ∃ m, k = m + 1 := ⟨k - 1, by omega⟩
    simp only [lex_end.l0]
    rw [if_neg (by omega), List.drop_of_length_le (by omega)]
    rfl
  | succ d ih =>
    intro k i hd hi hk
    obtain ⟨k, rfl⟩ : ∃ m, k = m + 1 := ⟨k - 1, by omega⟩
    have hn := ih k (i + 1) (by omega) (by omega) (by omega)
    simp only [lex_end.l0]
    rw [if_pos (by omega), if_pos (by omega), class_bt s _ k (by omega), Option.bind_some, wrap_next i (by omega), drop_bt s i (by omega), run, hn]
    unfold isW
    by_cases h1 : cls (rd (bytesOf s) i) = 1
    · rw [if_pos h1, h1]
      simp
      omega
    · rw [if_neg h1]
      by_cases h2 : cls (rd (bytesOf s) i) = 2
      · rw [if_pos h2, h2]
        simp
        omega
      · rw [if_neg h2, if_neg (by simp [h1, h2])]
        rfl
theorem end_loop2 (s : ByteArray) (hs : s.size < 100000) (d : Nat) : ∀ (k i : Nat), s.size - i = d → i ≤ s.size → d + 10 < k →
    lex_end.l1 k s (i : Int) = some (((i + run isD ((bytesOf s).drop i) : Nat) : Int), 2) := by
  have hsz := bytesOf_length s
  induction d with
  | zero =>
    intro k i hd hi hk
    obtain ⟨k, rfl⟩ : ∃ m, k = m + 1 := ⟨k - 1, by omega⟩
    simp only [lex_end.l1]
    rw [if_neg (by omega), List.drop_of_length_le (by omega)]
    rfl
  | succ d ih =>
    intro k i hd hi hk
    obtain ⟨k, rfl⟩ : ∃ m, k = m + 1 := ⟨k - 1, by omega⟩
    have hn := ih k (i + 1) (by omega) (by omega) (by omega)
    simp only [lex_end.l1]
    rw [if_pos (by omega), if_pos (by omega), class_bt s _ k (by omega), Option.bind_some, wrap_next i (by omega), drop_bt s i (by omega), run, hn]
    unfold isD
    by_cases h2 : cls (rd (bytesOf s) i) = 2
    · rw [if_pos h2, h2]
      simp
      omega
    · rw [if_neg h2, if_neg (by simp [h2])]
      rfl
theorem run_all (p : Int → Bool) : ∀ l : List Int, ∀ x ∈ l.take (run p l), p x = true
  | [], x, h => by simp at h
  | c :: t, x, h => by
    rw [run] at h
    by_cases hc : p c = true
    · rw [if_pos hc, Nat.add_comm, List.take_succ_cons] at h
      rcases List.mem_cons.1 h with rfl | h
      · exact hc
      · exact run_all p t x h
    · rw [if_neg hc, List.take_zero] at h
      cases h
theorem cls2 (c : Int) (h : cls c = 2) : 48 ≤ c ∧ c ≤ 57 := by
  unfold cls at h
  repeat' split at h
  all_goals first | assumption | omega
theorem isD_range (c : Int) (h : isD c = true) : 48 ≤ c ∧ c ≤ 57 := cls2 c (by unfold isD at h; exact beq_iff_eq.1 h)
/-- What number a text of digits says. -/
def numV : Option Int → Int × Bool
  | none => (0, false)
  | some m => (m, true)
theorem number_loop (t : ByteArray) (ht : t.size < 100000) (hd : ∀ x ∈ bytesOf t, 48 ≤ x ∧ x ≤ 57) (d : Nat) : ∀ (k i : Nat) (n : Int), t.size - i = d → i ≤ t.size → d < k → 0 ≤ n → n ≤ 2147483648 →
    lex_number.l0 k t n (t.size : Int) (i : Int) = some (numV (num n ((bytesOf t).drop i))) := by
  have hsz := bytesOf_length t
  induction d with
  | zero =>
    intro k i n hdd hi hk h0 h1
    obtain ⟨k, rfl⟩ : ∃ m, k = m + 1 := ⟨k - 1, by omega⟩
    simp only [lex_number.l0]
    rw [if_neg (by omega), List.drop_of_length_le (by omega)]
    rfl
  | succ d ih =>
    intro k i n hdd hi hk h0 h1
    obtain ⟨k, rfl⟩ : ∃ m, k = m + 1 := ⟨k - 1, by omega⟩
    have hdr := drop_bt t i (by omega)
    have hc : 48 ≤ rd (bytesOf t) i ∧ rd (bytesOf t) i ≤ 57 := hd _ (List.mem_of_mem_drop (i := i) (by rw [hdr]; exact List.mem_cons_self))
    have hm : (rd (bytesOf t) i - 48) % 256 = rd (bytesOf t) i - 48 := by omega
    simp only [lex_number.l0]
    rw [if_pos (by omega), if_pos (by omega), if_pos (by omega), bt_of, hm, hdr, num]
    by_cases hg : n * 10 + (rd (bytesOf t) i - 48) > 2147483648
    · rw [if_pos (by omega), if_pos hg]
      rfl
    · have e : wrap64 (wrap64 (n * 10) + (rd (bytesOf t) i - 48)) = n * 10 + (rd (bytesOf t) i - 48) := by
        rw [wrap64_of (n := n * 10) (by omega) (by omega), wrap64_of (by omega) (by omega)]
      rw [if_neg (by omega), if_neg hg, e, wrap_next i (by omega)]
      exact ih k (i + 1) _ (by omega) (by omega) (by omega) (by omega) (by omega)
theorem number_f (t : ByteArray) (ht : t.size < 100000) (hd : ∀ x ∈ bytesOf t, 48 ≤ x ∧ x ≤ 57) (k : Nat) (hk : t.size < k) : lex_number.f k t = some (numV (num 0 (bytesOf t))) := by
  unfold lex_number.f
  have h := number_loop t ht hd t.size k 0 0 (by omega) (by omega) hk (by omega) (by omega)
  rw [List.drop_zero] at h
  exact h
theorem end_1 (s : ByteArray) (hs : s.size < 100000) (i : Nat) (hi : i < s.size) (k : Nat) (hk : s.size + 10 < k) (h : cls (rd (bytesOf s) i) = 1) : lex_end.f k s (i : Int) = some (((i + 1 + run isW ((bytesOf s).drop (i + 1)) : Nat) : Int), 1) := by
  unfold lex_end.f
  rw [if_pos (by omega), if_pos (by omega), class_bt s _ k (by omega), Option.bind_some, if_pos h, wrap_next i (by omega)]
  exact end_loop1 s hs _ k (i + 1) rfl (by omega) (by omega)
theorem end_2 (s : ByteArray) (hs : s.size < 100000) (i : Nat) (hi : i < s.size) (k : Nat) (hk : s.size + 10 < k) (h : cls (rd (bytesOf s) i) = 2) : lex_end.f k s (i : Int) = some (((i + 1 + run isD ((bytesOf s).drop (i + 1)) : Nat) : Int), 2) := by
  unfold lex_end.f
  rw [if_pos (by omega), if_pos (by omega), class_bt s _ k (by omega), Option.bind_some, if_neg (by omega), if_pos h, wrap_next i (by omega)]
  exact end_loop2 s hs _ k (i + 1) rfl (by omega) (by omega)
theorem end_4 (s : ByteArray) (hs : s.size < 100000) (i : Nat) (hi : i < s.size) (k : Nat) (hk : s.size + 10 < k) (h : cls (rd (bytesOf s) i) = 4) :
    lex_end.f k s (i : Int) = some (((if rd (bytesOf s) i = 61 ∧ i + 1 < s.size ∧ rd (bytesOf s) (i + 1 : Nat) = 61 then i + 2 else i + 1 : Nat) : Int), 4) := by
  unfold lex_end.f
  rw [if_pos (by omega), if_pos (by omega), class_bt s _ k (by omega), Option.bind_some, if_neg (by omega), if_neg (by omega), if_pos h, wrap_next i (by omega), bt_of, bt_of]
  by_cases h1 : rd (bytesOf s) i = 61
  · rw [if_pos h1]
    by_cases h2 : i + 1 < s.size
    · rw [if_pos (by omega), if_pos (by omega)]
      by_cases h3 : rd (bytesOf s) (i + 1 : Nat) = 61
      · rw [if_pos h3, if_pos ⟨h1, h2, h3⟩, wrap_next (i + 1) (by omega)]
      · rw [if_neg h3, if_neg (fun h => h3 h.2.2)]
    · rw [if_neg (by omega), if_neg (fun h => h2 h.2.1)]
  · rw [if_neg h1, if_neg (fun h => h1 h.1)]
theorem end_0 (s : ByteArray) (i : Nat) (hi : i < s.size) (k : Nat) (hk : 10 < k) (h1 : cls (rd (bytesOf s) i) ≠ 1) (h2 : cls (rd (bytesOf s) i) ≠ 2) (h4 : cls (rd (bytesOf s) i) ≠ 4) :
    lex_end.f k s (i : Int) = some ((i : Int), 0) := by
  unfold lex_end.f
  rw [if_pos (by omega), if_pos (by omega), class_bt s _ k (by omega), Option.bind_some, if_neg h1, if_neg h2, if_neg h4]
theorem cut_digits (s : ByteArray) (i : Nat) (hi : i < s.size) (h : cls (rd (bytesOf s) i) = 2) : ∀ x ∈ ((bytesOf s).take (i + 1 + run isD ((bytesOf s).drop (i + 1)))).drop i, 48 ≤ x ∧ x ≤ 57 := by
  intro x hx
  rw [List.drop_take, drop_bt s i hi, show i + 1 + run isD ((bytesOf s).drop (i + 1)) - i = run isD ((bytesOf s).drop (i + 1)) + 1 by omega, List.take_succ_cons] at hx
  rcases List.mem_cons.1 hx with rfl | hx
  · exact cls2 _ h
  · exact isD_range x (run_all isD _ x hx)
theorem word_to (s : ByteArray) (i : Nat) (hi : i < s.size) (w : Int × Nat × Int) (h : word s i = some w) : i < w.2.1 ∧ w.2.1 ≤ s.size := by
  have h1 := run_le isW ((bytesOf s).drop (i + 1))
  have h2 := run_le isD ((bytesOf s).drop (i + 1))
  rw [List.length_drop, bytesOf_length] at h1 h2
  unfold word at h
  split at h
  · obtain rfl := Option.some.inj h
    exact ⟨by show i < i + 1 + _; omega, by show i + 1 + _ ≤ _; omega⟩
  · split at h
    · obtain ⟨n, _, rfl⟩ := Option.map_eq_some_iff.1 h
      exact ⟨by show i < i + 1 + _; omega, by show i + 1 + _ ≤ _; omega⟩
    · split at h
      · obtain rfl := Option.some.inj h
        by_cases hc : rd (bytesOf s) i = 61 ∧ i + 1 < s.size ∧ rd (bytesOf s) (i + 1 : Nat) = 61
        · simp only [if_pos hc]
          exact ⟨by omega, by omega⟩
        · simp only [if_neg hc]
          exact ⟨by omega, by omega⟩
      · cases h
theorem lx_end (s : ByteArray) (f : Nat) (acc : List S53) (i : Nat) (h : ¬ i < s.size) : lx s (f + 1) acc i = (acc ++ [(⟨0, (s.size : Int), 0, (⟨#[]⟩ : ByteArray)⟩ : S53)], 0, 0) := by rw [lx, if_neg h]
theorem lx_bad (s : ByteArray) (f : Nat) (acc : List S53) (i : Nat) (h : i < s.size) (hw : word s i = none) : lx s (f + 1) acc i = ([], 180, (i : Int)) := by rw [lx, if_pos h, hw]
theorem lx_go (s : ByteArray) (f : Nat) (acc : List S53) (i : Nat) (h : i < s.size) (w : Int × Nat × Int) (hw : word s i = some w) :
    lx s (f + 1) acc i = lx s f (acc ++ [(⟨w.1, (i : Int), w.2.2, s.extract i w.2.1⟩ : S53)]) (w.2.1 + sk false ((bytesOf s).drop w.2.1)) := by rw [lx, if_pos h, hw]
theorem sk_next (s : ByteArray) (i : Nat) (h : i ≤ s.size) : i + sk false ((bytesOf s).drop i) ≤ s.size := by
  have := sk_le false ((bytesOf s).drop i)
  rw [List.length_drop, bytesOf_length] at this
  omega
theorem Lex_loop (s : ByteArray) (hs : s.size ≤ 32768) (f : Nat) : ∀ (k : Nat) (acc : List S53) (i : Nat), i ≤ s.size → s.size - i < f → acc.length ≤ i → 4 * s.size + 100 + f ≤ k →
    lex_Lex.l0 k s acc (i : Int) = some (lx s f acc i) := by
  induction f with
  | zero => intro k acc i hi hf; omega
  | succ f ih =>
    intro k acc i hi hf ha hk
    obtain ⟨k, rfl⟩ : ∃ m, k = m + 1 := ⟨k - 1, by omega⟩
    simp only [lex_Lex.l0]
    by_cases hlt : i < s.size
    · rw [if_pos (by omega)]
      have hgo : ∀ w, word s i = some w → lex_Lex.l0 k s (acc ++ [(⟨w.1, (i : Int), w.2.2, s.extract i w.2.1⟩ : S53)]) ((w.2.1 + sk false ((bytesOf s).drop w.2.1) : Nat) : Int) = some (lx s (f + 1) acc i) := by
        intro w hw
        have ht := word_to s i hlt w hw
        have hn := sk_next s w.2.1 ht.2
        rw [lx_go s f acc i hlt w hw]
        exact ih k _ _ hn (by omega) (by rw [List.length_append]; simp; omega) (by omega)
      have hskip : ∀ j : Nat, j ≤ s.size → lex_skip.f k s (j : Int) = some ((j + sk false ((bytesOf s).drop j) : Nat) : Int) := fun j hj => skip_f s (by omega) j hj k (by omega)
      by_cases h1 : cls (rd (bytesOf s) i) = 1
      · have hw : word s i = some (if kept (s.extract i (i + 1 + run isW ((bytesOf s).drop (i + 1)))).toList then 3 else 1, i + 1 + run isW ((bytesOf s).drop (i + 1)), 0) := by unfold word; rw [if_pos h1]
        have ht := word_to s i hlt _ hw
        have hg := hgo _ hw
        dsimp only at ht hg
        rw [end_1 s (by omega) i hlt k (by omega) h1, Option.bind_some]
        dsimp only
        generalize i + 1 + run isW ((bytesOf s).drop (i + 1)) = z at ht hg ⊢
        rw [if_pos (by omega), if_pos (by omega), if_pos (by omega), if_pos rfl, Int.toNat_natCast, Int.toNat_natCast, kept_f _ k (by omega), Option.bind_some, hskip z ht.2, Option.bind_some]
        by_cases hk1 : kept (s.extract i z).toList = true
        · rw [if_pos hk1] at hg ⊢
          rw [if_neg (by omega), if_pos (by omega)]
          exact hg
        · rw [if_neg hk1] at hg ⊢
          rw [if_neg (by omega), if_pos (by omega)]
          exact hg
      · by_cases h2 : cls (rd (bytesOf s) i) = 2
        · have hr := run_le isD ((bytesOf s).drop (i + 1))
          rw [List.length_drop, bytesOf_length] at hr
          have hcd := cut_digits s i hlt h2
          have hwd : word s i = (num 0 (((bytesOf s).take (i + 1 + run isD ((bytesOf s).drop (i + 1)))).drop i)).map fun n => (2, i + 1 + run isD ((bytesOf s).drop (i + 1)), n) := by unfold word; rw [if_neg h1, if_pos h2]
          rw [end_2 s (by omega) i hlt k (by omega) h2, Option.bind_some]
          dsimp only
          have hz1 : i < i + 1 + run isD ((bytesOf s).drop (i + 1)) := by omega
          have hz2 : i + 1 + run isD ((bytesOf s).drop (i + 1)) ≤ s.size := by omega
          generalize i + 1 + run isD ((bytesOf s).drop (i + 1)) = z at hwd hcd hz1 hz2 ⊢
          have hxb : bytesOf (s.extract i z) = ((bytesOf s).take z).drop i := bytesOf_extract s i z
          have hxz : (s.extract i z).size ≤ s.size := by rw [size_of, hxb, List.length_drop, List.length_take, bytesOf_length]; omega
          have hnum := number_f (s.extract i z) (by omega) (by rw [hxb]; exact hcd) k (by omega)
          rw [if_pos (by omega), if_pos (by omega), if_pos (by omega), if_neg (by omega), if_pos rfl, Int.toNat_natCast, Int.toNat_natCast, hnum, Option.bind_some, hxb]
          cases hn : num 0 (((bytesOf s).take z).drop i) with
          | none =>
            rw [hn] at hwd
            rw [lx_bad s f acc i hlt hwd]
            rfl
          | some m =>
            rw [hn] at hwd
            have hg := hgo _ hwd
            simp only [numV]
            dsimp only at hg
            rw [if_pos trivial, if_pos (by omega), hskip z hz2, Option.bind_some]
            exact hg
        · by_cases h4 : cls (rd (bytesOf s) i) = 4
          · have hw : word s i = some (4, if rd (bytesOf s) i = 61 ∧ i + 1 < s.size ∧ rd (bytesOf s) (i + 1 : Nat) = 61 then i + 2 else i + 1, 0) := by unfold word; rw [if_neg h1, if_neg h2, if_pos h4]
            have ht := word_to s i hlt _ hw
            have hg := hgo _ hw
            rw [end_4 s (by omega) i hlt k (by omega) h4, Option.bind_some]
            dsimp only at ht hg ⊢
            generalize (if rd (bytesOf s) i = 61 ∧ i + 1 < s.size ∧ rd (bytesOf s) (i + 1 : Nat) = 61 then i + 2 else i + 1) = z at ht hg ⊢
            rw [if_pos (by omega), if_pos (by omega), if_pos (by omega), if_neg (by omega), if_neg (by omega), if_neg (by omega), if_pos (by omega), hskip z ht.2, Option.bind_some, Int.toNat_natCast, Int.toNat_natCast]
            exact hg
          · have hw : word s i = none := by unfold word; rw [if_neg h1, if_neg h2, if_neg h4]
            rw [end_0 s i hlt k (by omega) h1 h2 h4, Option.bind_some, lx_bad s f acc i hlt hw]
            dsimp only
            rw [if_pos (by omega), if_pos (by omega), if_pos (by omega), if_neg (by omega), if_neg (by omega), if_pos rfl]
    · rw [if_neg (by omega), lx_end s f acc i hlt, if_pos (by omega)]
theorem Lex_f (s : ByteArray) (hs : s.size ≤ 32768) (k : Nat) (hk : 5 * s.size + 200 ≤ k) : lex_Lex.f k s = some (lx s (s.size + 1) [] (sk false (bytesOf s))) := by
  unfold lex_Lex.f
  have h := skip_f s (by omega) 0 (by omega) k (by omega)
  have hn := sk_next s 0 (by omega)
  rw [Nat.zero_add, List.drop_zero, show ((0 : Nat) : Int) = 0 from rfl] at h
  rw [Nat.zero_add, List.drop_zero] at hn
  rw [if_neg (by omega), h, Option.bind_some]
  exact Lex_loop s hs (s.size + 1) k [] _ hn (by omega) (by simp) (by omega)
/-! ### words with tabs between them -/
theorem run_app (p : Int → Bool) (c : Int) (hc : p c = false) (r : List Int) : ∀ l : List Int, (∀ x ∈ l, p x = true) → run p (l ++ c :: r) = l.length
  | [], _ => by rw [List.nil_append, run, hc]; rfl
  | x :: l, h => by
    rw [List.cons_append, run, if_pos (h x List.mem_cons_self), run_app p c hc r l (fun y hy => h y (List.mem_cons_of_mem _ hy)), List.length_cons]
    omega
theorem run_len (p : Int → Bool) (l : List Int) : (l.take (run p l)).length = run p l := by
  rw [List.length_take]
  have := run_le p l
  omega
/-- What a word's bytes are. -/
theorem ext_bytes (s : ByteArray) (i n : Nat) : bytesOf (s.extract i (i + n)) = ((bytesOf s).drop i).take n := by
  rw [bytesOf_extract, List.drop_take, Nat.add_sub_cancel_left]
theorem rd_drop0 (l : List Int) (i : Nat) (c : Int) (t : List Int) (h : l.drop i = c :: t) : rd l i = c := by
  rw [rd_nat, List.getD_eq_getElem?_getD]
  have := congrArg (·[0]?) h
  rw [List.getElem?_drop] at this
  simp only [Nat.add_zero] at this
  rw [this]
  rfl
theorem drop_succ (l : List Int) (i : Nat) (c : Int) (t : List Int) (h : l.drop i = c :: t) : l.drop (i + 1) = t := by
  rw [← List.drop_drop, h]
  rfl
/-- A word, of what stands from a place on. -/
theorem word_same (s : ByteArray) (i : Nat) (hi : i < s.size) (w : Int × Nat × Int) (hw : word s i = some w) (u : ByteArray) (p : Nat) (r : List Int)
    (hu : (bytesOf u).drop p = bytesOf (s.extract i w.2.1) ++ 9 :: r) :
    (∃ n, w.2.1 = i + n ∧ 0 < n ∧ (s.extract i w.2.1).size = n ∧ word u p = some (w.1, p + n, w.2.2) ∧ u.extract p (p + n) = s.extract i w.2.1) ∧
      ∃ c t, bytesOf (s.extract i w.2.1) = c :: t ∧ (cls c = 1 ∨ cls c = 2 ∨ cls c = 4) := by
  have hd := drop_bt s i hi
  generalize hC : rd (bytesOf s) i = C at hd
  generalize hT : (bytesOf s).drop (i + 1) = T at hd
  have n9W : isW 9 = false := rfl
  have n9D : isD 9 = false := rfl
  -- all three kinds: a word of n + 1 bytes
  have fin : ∀ n : Nat, n ≤ T.length → w.2.1 = i + (1 + n) → bytesOf (s.extract i w.2.1) = C :: T.take n ∧ (s.extract i w.2.1).size = 1 + n := by
    intro n hn h
    have e : bytesOf (s.extract i w.2.1) = C :: T.take n := by rw [h, ext_bytes, hd, Nat.add_comm, List.take_succ_cons]
    refine ⟨e, ?_⟩
    rw [size_of, e, List.length_cons, List.length_take]
    omega
  have out : ∀ n : Nat, n ≤ T.length → w.2.1 = i + (1 + n) → word u p = some (w.1, p + (1 + n), w.2.2) → cls C = 1 ∨ cls C = 2 ∨ cls C = 4 →
      (∃ n, w.2.1 = i + n ∧ 0 < n ∧ (s.extract i w.2.1).size = n ∧ word u p = some (w.1, p + n, w.2.2) ∧ u.extract p (p + n) = s.extract i w.2.1) ∧
      ∃ c t, bytesOf (s.extract i w.2.1) = c :: t ∧ (cls c = 1 ∨ cls c = 2 ∨ cls c = 4) := by
    intro n hn h hwu hc
    obtain ⟨e, hz⟩ := fin n hn h
    refine ⟨⟨1 + n, h, by omega, hz, hwu, bytesOf_inj ?_⟩, C, T.take n, e, hc⟩
    rw [ext_bytes, hu, List.take_left' (by rw [← size_of, hz])]
  unfold word at hw
  rw [hC, hT] at hw
  by_cases h1 : cls C = 1
  · rw [if_pos h1] at hw
    have hr := run_le isW T
    have hto : w.2.1 = i + (1 + run isW T) := by rw [← Option.some.inj hw]; show i + 1 + run isW T = _; omega
    obtain ⟨e, hz⟩ := fin _ hr hto
    have hu' : (bytesOf u).drop p = C :: (T.take (run isW T) ++ 9 :: r) := by rw [hu, e]; rfl
    refine out _ hr hto ?_ (.inl h1)
    have hrun : run isW ((bytesOf u).drop (p + 1)) = run isW T := by rw [drop_succ _ _ _ _ hu', run_app isW 9 n9W r _ (run_all isW T), run_len]
    unfold word
    rw [rd_drop0 _ _ _ _ hu', if_pos h1, hrun]
    have ex : u.extract p (p + 1 + run isW T) = s.extract i (i + 1 + run isW T) := by
      apply bytesOf_inj
      rw [show p + 1 + run isW T = p + (1 + run isW T) by omega, ext_bytes, hu, List.take_left' (by rw [← size_of, hz]), hto]
      rw [show i + (1 + run isW T) = i + 1 + run isW T by omega]
    rw [ex, ← Option.some.inj hw]
    simp only [Option.some.injEq, Prod.mk.injEq, and_true, true_and]
    omega
  · rw [if_neg h1] at hw
    by_cases h2 : cls C = 2
    · rw [if_pos h2] at hw
      have hr := run_le isD T
      obtain ⟨v, hv, hwv⟩ := Option.map_eq_some_iff.1 hw
      have hto : w.2.1 = i + (1 + run isD T) := by rw [← hwv]; show i + 1 + run isD T = _; omega
      obtain ⟨e, hz⟩ := fin _ hr hto
      have hu' : (bytesOf u).drop p = C :: (T.take (run isD T) ++ 9 :: r) := by rw [hu, e]; rfl
      refine out _ hr hto ?_ (.inr (.inl h2))
      have hrun : run isD ((bytesOf u).drop (p + 1)) = run isD T := by rw [drop_succ _ _ _ _ hu', run_app isD 9 n9D r _ (run_all isD T), run_len]
      unfold word
      rw [rd_drop0 _ _ _ _ hu', if_neg h1, if_pos h2, hrun]
      have ex : ((bytesOf u).take (p + 1 + run isD T)).drop p = ((bytesOf s).take (i + 1 + run isD T)).drop i := by
        rw [List.drop_take, List.drop_take, hu', hd, show p + 1 + run isD T - p = run isD T + 1 by omega, show i + 1 + run isD T - i = run isD T + 1 by omega, List.take_succ_cons, List.take_succ_cons,
          List.take_left' (run_len isD T)]
      rw [ex, hv, ← hwv]
      simp only [Option.map_some, Option.some.injEq, Prod.mk.injEq, and_true, true_and]
      omega
    · rw [if_neg h2] at hw
      by_cases h4 : cls C = 4
      · rw [if_pos h4] at hw
        by_cases hee : C = 61 ∧ i + 1 < s.size ∧ rd (bytesOf s) (i + 1 : Nat) = 61
        · rw [if_pos hee] at hw
          have hT1 : T = 61 :: (bytesOf s).drop (i + 2) := by rw [← hT, drop_bt s (i + 1) hee.2.1, hee.2.2]
          have hto : w.2.1 = i + (1 + 1) := by rw [← Option.some.inj hw]
          have hl : 1 ≤ T.length := by rw [hT1, List.length_cons]; omega
          obtain ⟨e, hz⟩ := fin 1 hl hto
          refine out 1 hl hto ?_ (.inr (.inr h4))
          have hu' : (bytesOf u).drop p = C :: 61 :: 9 :: r := by rw [hu, e, hT1]; rfl
          have hd1 := drop_succ _ _ _ _ hu'
          have hl2 : p + 1 < u.size := by
            have := congrArg List.length hu'
            rw [List.length_drop, bytesOf_length] at this
            simp only [List.length_cons] at this
            omega
          unfold word
          rw [rd_drop0 _ _ _ _ hu', if_neg h1, if_neg h2, if_pos h4, rd_drop0 _ _ _ _ hd1, if_pos ⟨hee.1, hl2, rfl⟩, ← Option.some.inj hw]
        · rw [if_neg hee] at hw
          have hto : w.2.1 = i + (1 + 0) := by rw [← Option.some.inj hw]
          obtain ⟨e, hz⟩ := fin 0 (Nat.zero_le _) hto
          refine out 0 (Nat.zero_le _) hto ?_ (.inr (.inr h4))
          have hu' : (bytesOf u).drop p = C :: 9 :: r := by rw [hu, e]; rfl
          have hd1 := drop_succ _ _ _ _ hu'
          unfold word
          rw [rd_drop0 _ _ _ _ hu', if_neg h1, if_neg h2, if_pos h4, rd_drop0 _ _ _ _ hd1, if_neg (fun h => by have := h.2.2; omega), ← Option.some.inj hw]
      · rw [if_neg h4] at hw
        cases hw
/-- The words from a place on, TokEnd the last one. -/
def Toks (s : ByteArray) : Nat → List S53 → Prop
  | _, [] => False
  | i, [t] => ¬ i < s.size ∧ t = ⟨0, (s.size : Int), 0, (⟨#[]⟩ : ByteArray)⟩
  | i, t :: u :: l => i < s.size ∧ ∃ w, word s i = some w ∧ t = ⟨w.1, (i : Int), w.2.2, s.extract i w.2.1⟩ ∧ Toks s (w.2.1 + sk false ((bytesOf s).drop w.2.1)) (u :: l)
theorem Toks.ne {s : ByteArray} {i : Nat} {l : List S53} (h : Toks s i l) : l ≠ [] := by rintro rfl; exact h
theorem Toks.cons {s : ByteArray} {i : Nat} {l : List S53} (hi : i < s.size) (w : Int × Nat × Int) (hw : word s i = some w) (h : Toks s (w.2.1 + sk false ((bytesOf s).drop w.2.1)) l) :
    Toks s i ((⟨w.1, (i : Int), w.2.2, s.extract i w.2.1⟩ : S53) :: l) := by
  cases l with
  | nil => exact h.elim
  | cons u l => exact ⟨hi, w, hw, rfl, h⟩
theorem lx_toks (s : ByteArray) (f : Nat) : ∀ (acc : List S53) (i : Nat), i ≤ s.size → s.size - i < f →
    ((lx s f acc i).1 = [] ∧ (lx s f acc i).2.1 = 180) ∨ ∃ l, lx s f acc i = (acc ++ l, 0, 0) ∧ Toks s i l := by
  induction f with
  | zero => intro acc i hi hf; omega
  | succ f ih =>
    intro acc i hi hf
    by_cases h : i < s.size
    · cases hw : word s i with
      | none => rw [lx_bad s f acc i h hw]; exact .inl ⟨rfl, rfl⟩
      | some w =>
        have ht := word_to s i h w hw
        have hn := sk_next s w.2.1 ht.2
        rw [lx_go s f acc i h w hw]
        rcases ih (acc ++ [(⟨w.1, (i : Int), w.2.2, s.extract i w.2.1⟩ : S53)]) _ hn (by omega) with hb | ⟨l, hl, hT⟩
        · exact .inl hb
        · exact .inr ⟨_ :: l, by rw [hl, List.append_assoc]; rfl, Toks.cons h w hw hT⟩
    · rw [lx_end s f acc i h]
      exact .inr ⟨_, rfl, h, rfl⟩
theorem toks_lx (s : ByteArray) (f : Nat) : ∀ (acc : List S53) (i : Nat) (l : List S53), i ≤ s.size → s.size - i < f → Toks s i l → lx s f acc i = (acc ++ l, 0, 0) := by
  induction f with
  | zero => intro acc i l hi hf; omega
  | succ f ih =>
    intro acc i l hi hf hT
    match l, hT with
    | [t], ⟨h, ht⟩ => rw [lx_end s f acc i h, ht]
    | t :: u :: l, ⟨h, w, hw, ht, hT⟩ =>
      have hto := word_to s i h w hw
      have hn := sk_next s w.2.1 hto.2
      rw [lx_go s f acc i h w hw, ih _ _ _ hn (by omega) hT, ht, List.append_assoc]
      rfl
/-- Texts with tabs between them. -/
def joinT : List S53 → List Int
  | [] => []
  | t :: l => bytesOf t.f3 ++ 9 :: joinT l
theorem joinT_len : ∀ (s : ByteArray) (l : List S53) (i : Nat), i ≤ s.size → Toks s i l → (joinT l).length ≤ 2 * (s.size - i) + 1 ∧ l.length ≤ s.size - i + 1
  | _, [], _, _, h => h.elim
  | s, [t], i, hi, ⟨h, ht⟩ => by
    subst ht
    rw [joinT, joinT]
    show 0 + 1 ≤ _ ∧ _
    constructor
    · omega
    · show 1 ≤ _
      omega
  | s, t :: u :: l, i, hi, ⟨h, w, hw, ht, hT⟩ => by
    have hto := word_to s i h w hw
    have hn := sk_next s w.2.1 hto.2
    have h2 := joinT_len s (u :: l) _ hn hT
    have hz : (bytesOf t.f3).length = w.2.1 - i := by
      rw [ht, ← size_of, ByteArray.size_extract]
      omega
    rw [joinT, List.length_append, List.length_cons, hz, List.length_cons]
    constructor <;> omega
/-- The same words but for their places. -/
def Alike : List S53 → List S53 → Prop
  | [], [] => True
  | a :: l, b :: m => a.f0 = b.f0 ∧ a.f3 = b.f3 ∧ a.f2 = b.f2 ∧ Alike l m
  | _, _ => False
theorem sk_first (c : Int) (t : List Int) (h : cls c = 1 ∨ cls c = 2 ∨ cls c = 4) : sk false (c :: t) = 0 := by
  have h10 : c ≠ 10 := by rintro rfl; revert h; decide
  have h32 : c ≠ 32 := by rintro rfl; revert h; decide
  have h9 : c ≠ 9 := by rintro rfl; revert h; decide
  have h13 : c ≠ 13 := by rintro rfl; revert h; decide
  have h35 : c ≠ 35 := by rintro rfl; revert h; decide
  rw [sk, if_neg h10, if_neg (by rintro (h | h | h | h); cases h; exact h32 h; exact h9 h; exact h13 h), if_neg h35]
theorem sk_tab (l : List Int) : sk false (9 :: l) = 1 + sk false l := by
  rw [sk, if_neg (by decide), if_pos (.inr (.inr (.inl rfl)))]
theorem toks_join : ∀ (s : ByteArray) (l : List S53) (i : Nat), i ≤ s.size → Toks s i l → ∀ (u : ByteArray) (p : Nat), (bytesOf u).drop p = joinT l → p ≤ u.size →
    ∃ m, Toks u (p + sk false ((bytesOf u).drop p)) m ∧ Alike l m
  | _, [], _, _, h => h.elim
  | s, [t], i, hi, ⟨h, ht⟩ => by
    intro u p hu hp
    subst ht
    have hl := congrArg List.length hu
    rw [List.length_drop, bytesOf_length] at hl
    have hl : u.size - p = 1 := hl
    refine ⟨[⟨0, (u.size : Int), 0, (⟨#[]⟩ : ByteArray)⟩], ⟨?_, rfl⟩, rfl, rfl, rfl, trivial⟩
    rw [hu]
    show ¬ p + sk false (9 :: []) < u.size
    rw [sk_tab]
    simp only [sk]
    omega
  | s, t :: v :: l, i, hi, ⟨h, w, hw, ht, hT⟩ => by
    intro u p hu hp
    have hto := word_to s i h w hw
    have hn := sk_next s w.2.1 hto.2
    rw [joinT] at hu
    have hf3 : t.f3 = s.extract i w.2.1 := by rw [ht]
    rw [hf3] at hu
    obtain ⟨⟨n, hn1, hn0, hnz, hwu, hex⟩, c, x, hc, hcl⟩ := word_same s i h w hw u p _ hu
    have hlen : (bytesOf (s.extract i w.2.1)).length = n := by rw [← size_of, hnz]
    have hul := congrArg List.length hu
    rw [List.length_drop, bytesOf_length, List.length_append, List.length_cons, hlen] at hul
    have hd2 : (bytesOf u).drop (p + n) = 9 :: joinT (v :: l) := by rw [← List.drop_drop, hu, List.drop_left' hlen]
    have hd3 := drop_succ _ _ _ _ hd2
    obtain ⟨m, hm, hA⟩ := toks_join s (v :: l) _ hn hT u (p + n + 1) hd3 (by omega)
    rw [hd3] at hm
    have hp0 : p < u.size := by omega
    rw [hu, hc, List.cons_append, sk_first c _ hcl]
    refine ⟨_ :: m, Toks.cons hp0 _ hwu ?_, ?_⟩
    · show Toks u (p + n + sk false ((bytesOf u).drop (p + n))) m
      rw [hd2, sk_tab]
      rw [show p + n + (1 + sk false (joinT (v :: l))) = p + n + 1 + sk false (joinT (v :: l)) by omega]
      exact hm
    · refine ⟨?_, ?_, ?_, hA⟩
      · rw [ht]
      · rw [ht]; exact hex.symm
      · rw [ht]
theorem awake18 : keywaylaw18_awake.f 60 = some true := by decide +kernel
theorem few_f (s : ByteArray) : ∃ t, keywaylaw18_few.f s = some t ∧ t.size ≤ 2000 := by
  have hm : 0 ≤ mn (s.size : Int) 2000 ∧ mn (s.size : Int) 2000 ≤ (s.size : Int) ∧ mn (s.size : Int) 2000 ≤ 2000 := by unfold mn; omega
  refine ⟨s.extract 0 (mn (s.size : Int) 2000).toNat, ?_, ?_⟩
  · unfold keywaylaw18_few.f
    rw [if_pos hm.1, if_pos hm.2.1]
  · rw [size_of, bytesOf_extract, List.drop_zero, List.length_take]
    omega
theorem joinT_ab : ∀ l : List S53, AB (joinT l)
  | [] => AB.nil
  | t :: l => AB.app (bytesOf_ab _) (AB.cons (by omega) (by omega) (joinT_ab l))
theorem rd_el (l : List S53) (i : Nat) (x : S53) (r : List S53) (h : l.drop i = x :: r) : rd_T53 l (i : Int) = x ∧ i < l.length ∧ l.drop (i + 1) = r := by
  have hi : i < l.length := by
    rcases Nat.lt_or_ge i l.length with h' | h'
    · exact h'
    · rw [List.drop_of_length_le h'] at h
      cases h
  refine ⟨?_, hi, ?_⟩
  · unfold rd_T53
    rw [Int.toNat_natCast, List.getD_eq_getElem?_getD]
    have := congrArg (·[0]?) h
    rw [List.getElem?_drop] at this
    simp only [Nat.add_zero] at this
    rw [this]
    rfl
  · rw [← List.drop_drop, h]
    rfl
theorem loop0 (t : ByteArray) (x4 : List S53) (h1 : x4.length ≤ 3000) (h2 : (joinT x4).length ≤ 6000) (d : Nat) : ∀ (k i : Nat) (x6 : ByteArray), x4.length - i = d → i ≤ x4.length →
    bytesOf x6 ++ joinT (x4.drop i) = joinT x4 → d < k → keywaylaw18_LexJoins.l0 k t x4 x6 (i : Int) = keywaylaw18_LexJoins.l0 (k - d) t x4 (strOfNums (joinT x4)) (x4.length : Int) := by
  induction d with
  | zero =>
    intro k i x6 hd hi hb hk
    have hil : i = x4.length := by omega
    rw [hil, List.drop_of_length_le (Nat.le_refl _), joinT, List.append_nil] at hb
    have hx : x6 = strOfNums (joinT x4) := bytesOf_inj (by rw [hb, of_str (joinT_ab x4)])
    rw [hil, hx, Nat.sub_zero]
  | succ d ih =>
    intro k i x6 hd hi hb hk
    obtain ⟨k, rfl⟩ : ∃ m, k = m + 1 := ⟨k - 1, by omega⟩
    obtain ⟨x, r, hxr⟩ : ∃ x r, x4.drop i = x :: r := by
      cases h : x4.drop i with
      | nil =>
        have := congrArg List.length h
        rw [List.length_drop] at this
        simp at this
        omega
      | cons x r => exact ⟨x, r, rfl⟩
    obtain ⟨e1, e2, e3⟩ := rd_el _ _ _ _ hxr
    have hl := congrArg List.length hb
    rw [hxr, joinT, List.length_append, List.length_append, List.length_cons, ← size_of, ← size_of] at hl
    have h9 : (⟨#[9]⟩ : ByteArray).size = 1 := rfl
    have b9 : bytesOf (⟨#[9]⟩ : ByteArray) = [9] := rfl
    conv => lhs; rw [keywaylaw18_LexJoins.l0.eq_def]
    dsimp only
    rw [e1, if_pos (by omega), if_pos (by omega), if_pos (by omega), if_pos (by rw [ByteArray.size_append, h9]; omega), wrap_next i (by omega)]
    rw [ih k (i + 1) _ (by omega) (by omega) ?_ (by omega), show k + 1 - (d + 1) = k - d by omega]
    rw [bytesOf_append, bytesOf_append, b9, e3, ← hb, hxr, joinT]
    simp
def TokOK (t : ByteArray) (x : S53) : Prop := ∃ a b : Nat, a ≤ b ∧ b ≤ t.size ∧ x.f1 = (a : Int) ∧ x.f3 = t.extract a b
theorem toks_ok : ∀ (s : ByteArray) (l : List S53) (i : Nat), i ≤ s.size → Toks s i l → ∀ x ∈ l, TokOK s x
  | _, [], _, _, h => h.elim
  | s, [t], i, hi, ⟨h, ht⟩ => by
    intro x hx
    obtain rfl := List.mem_singleton.1 hx
    refine ⟨s.size, s.size, Nat.le_refl _, Nat.le_refl _, by rw [ht], ?_⟩
    rw [ht]
    apply bytesOf_inj
    rw [bytesOf_extract, List.drop_of_length_le (by rw [List.length_take, bytesOf_length]; omega)]
    rfl
  | s, t :: u :: l, i, hi, ⟨h, w, hw, ht, hT⟩ => by
    intro x hx
    have hto := word_to s i h w hw
    have hn := sk_next s w.2.1 hto.2
    rcases List.mem_cons.1 hx with rfl | hx
    · exact ⟨i, w.2.1, by omega, hto.2, by rw [ht], by rw [ht]⟩
    · exact toks_ok s (u :: l) _ hn hT x hx
theorem alike_len : ∀ l m : List S53, Alike l m → l.length = m.length
  | [], [], _ => rfl
  | a :: l, b :: m, h => by rw [List.length_cons, List.length_cons, alike_len l m h.2.2.2]
  | [], _ :: _, h => h.elim
  | _ :: _, [], h => h.elim
theorem loop1 (t : ByteArray) (ht : t.size ≤ 2000) (x4 m : List S53) (h1 : x4.length ≤ 3000) (hm : x4.length = m.length) (hok : ∀ x ∈ x4, TokOK t x) (d : Nat) : ∀ (k i : Nat), x4.length - i = d → i ≤ x4.length →
    Alike (x4.drop i) (m.drop i) → d < k → keywaylaw18_LexJoins.l1 k t x4 m (i : Int) = some true := by
  induction d with
  | zero =>
    intro k i hd hi hA hk
    obtain ⟨k, rfl⟩ : ∃ m, k = m + 1 := ⟨k - 1, by omega⟩
    rw [keywaylaw18_LexJoins.l1.eq_def]
    dsimp only
    rw [if_neg (by omega)]
  | succ d ih =>
    intro k i hd hi hA hk
    obtain ⟨k, rfl⟩ : ∃ m, k = m + 1 := ⟨k - 1, by omega⟩
    obtain ⟨x, r, hxr⟩ : ∃ x r, x4.drop i = x :: r := by
      cases h : x4.drop i with
      | nil =>
        have := congrArg List.length h
        rw [List.length_drop] at this
        simp at this
        omega
      | cons x r => exact ⟨x, r, rfl⟩
    obtain ⟨y, q, hyq⟩ : ∃ x r, m.drop i = x :: r := by
      cases h : m.drop i with
      | nil =>
        have := congrArg List.length h
        rw [List.length_drop] at this
        simp at this
        omega
      | cons x r => exact ⟨x, r, rfl⟩
    rw [hxr, hyq] at hA
    obtain ⟨e1, e2, e3⟩ := rd_el _ _ _ _ hxr
    obtain ⟨g1, g2, g3⟩ := rd_el _ _ _ _ hyq
    obtain ⟨a0, a3, a2, hA⟩ := hA
    obtain ⟨a, b, hab, hbt, hf1, hf3⟩ := hok x (List.mem_of_mem_drop (i := i) (by rw [hxr]; exact List.mem_cons_self))
    have hz : x.f3.size = b - a := by rw [hf3, ByteArray.size_extract]; omega
    have hw : wrap64 (x.f1 + (x.f3.size : Int)) = (b : Int) := by rw [wrap64_of (by omega) (by omega)]; omega
    conv => lhs; rw [keywaylaw18_LexJoins.l1.eq_def]
    dsimp only
    rw [e1, g1, hw, if_pos (by omega), if_pos (by omega), if_pos (by omega), if_pos a0, if_pos (by rw [a3]), if_pos a2, if_pos (by omega), if_pos (by omega), if_pos (by omega), if_pos ?_, wrap_next i (by omega)]
    · exact ih k (i + 1) (by omega) (by omega) (by rw [e3, g3]; exact hA) (by omega)
    · rw [hf1, hf3, Int.toNat_natCast, Int.toNat_natCast]
theorem LexJoins : keywaylaw18_LexJoins.Pure := by
  intro s hs
  obtain ⟨t, ht, hz⟩ := few_f s
  obtain ⟨K, hK⟩ : ∃ K : Nat, 200000 ≤ K := ⟨200000, Nat.le_refl _⟩
  refine ⟨K + 1, ?_⟩
  have haw : ∀ k : Nat, 60 ≤ k → keywaylaw18_awake.f k = some true := fun k hk => at_rounds keywaylaw18_awake.mono hk awake18
  unfold keywaylaw18_LexJoins.f
  rw [ht, Option.bind_some, Lex_f t (by omega) (K + 1) (by omega), Option.bind_some, haw (K + 1) (by omega), Option.bind_some, if_pos rfl]
  have h0 := sk_next t 0 (by omega)
  rw [Nat.zero_add, List.drop_zero] at h0
  rcases lx_toks t (t.size + 1) [] (sk false (bytesOf t)) h0 (by omega) with ⟨hb1, hb2⟩ | ⟨l, hl, hT⟩
  · rw [hb1, hb2, keywaylaw18_LexJoins.j0.eq_def]
    dsimp only
    rw [if_pos (by decide), haw K (by omega), Option.bind_some, if_pos rfl]
    rfl
  · rw [hl, List.nil_append, keywaylaw18_LexJoins.j0.eq_def]
    dsimp only
    rw [if_neg (by decide)]
    obtain ⟨hj1, hj2⟩ := joinT_len t l _ h0 hT
    have hu0 : (bytesOf (strOfNums (joinT l))).drop 0 = joinT l := by rw [List.drop_zero, of_str (joinT_ab l)]
    have huz : (strOfNums (joinT l)).size = (joinT l).length := by rw [strOfNums_size]
    have hq := loop0 t l (by omega) (by omega) l.length K 0 (⟨#[]⟩ : ByteArray) (by omega) (by omega) (by rw [List.drop_zero]; rfl) (by omega)
    rw [show ((0 : Nat) : Int) = 0 from rfl] at hq
    rw [hq]
    obtain ⟨k, hk⟩ : ∃ m, K - l.length = m + 1 := ⟨K - l.length - 1, by omega⟩
    rw [hk]
    obtain ⟨m, hm, hA⟩ := toks_join t l _ h0 hT (strOfNums (joinT l)) 0 hu0 (Nat.zero_le _)
    generalize hU : strOfNums (joinT l) = u at hu0 huz hm ⊢
    have hn := sk_next u 0 (by omega)
    rw [Nat.zero_add, List.drop_zero] at hn hm
    have hL := Lex_f u (by omega) k (by omega)
    rw [toks_lx u (u.size + 1) [] _ m hn (by omega) hm, List.nil_append] at hL
    have hlen := alike_len l m hA
    conv => lhs; rw [keywaylaw18_LexJoins.l0.eq_def]
    dsimp only
    rw [if_neg (by omega), hL, Option.bind_some]
    dsimp only
    rw [if_pos rfl]
    obtain ⟨k, rfl⟩ : ∃ m, k = m + 1 := ⟨k - 1, by omega⟩
    rw [keywaylaw18_LexJoins.j2.eq_def]
    dsimp only
    rw [if_neg (by rw [hlen]; simp)]
    exact loop1 t hz l m (by omega) hlen (toks_ok t l _ h0 hT) l.length k 0 (by omega) (by omega) (by rw [List.drop_zero, List.drop_zero]; exact hA) (by omega)
end Go.Proofs.Ytgdnomnealjdlaa.Pure

/- A text with more bytes than there may be has too much: for every count. -/
import Derived.Test.YtlcklkjnanhnmaaQLEXx9
import Derived.Test.YtlcklkjnanhnmaaLib
namespace Go.Proofs.Ytlcklkjnanhnmaa.Pure
open Go.RowKit Go.Proofs.Ytlcklkjnanhnmaa.QLEX Go.Proofs.YtlcklkjnanhnmaaW.PrintWords Go.Proofs.YtlcklkjnanhnmaaW.PrintLast Go.Proofs.YtlcklkjnanhnmaaW.PrintMore Go.Proofs.Ytlcklkjnanhnmaa.Lib
/-! ### bytes: what they are -/
def cls (c : Int) : Int :=
  if (97 ≤ c ∧ c ≤ 122) ∨ (65 ≤ c ∧ c ≤ 90) ∨ c = 95 then 1 else if 48 ≤ c ∧ c ≤ 57 then 2 else if c = 32 ∨ c = 9 ∨ c = 10 ∨ c = 13 then 3
  else if c = 123 ∨ c = 125 ∨ c = 40 ∨ c = 41 ∨ c = 59 ∨ c = 58 ∨ c = 44 ∨ c = 61 ∨ c = 46 ∨ c = 64 ∨ c = 38 ∨ c = 42 ∨ c = 60 ∨ c = 43 ∨ c = 45 then 4 else 0
theorem class_all : ∀ c : Nat, c < 256 → lex_class.f 6 (c : Int) = some (cls (c : Int)) := by decide +kernel
theorem class_f (c : Int) (h0 : 0 ≤ c) (h1 : c < 256) (k : Nat) (hk : 6 ≤ k) : lex_class.f k c = some (cls c) := by
  obtain ⟨n, rfl⟩ := Int.eq_ofNat_of_zero_le h0
  exact at_rounds (lex_class.mono _) hk (class_all n (by omega))
theorem class_bt (s : ByteArray) (i : Int) (k : Nat) (hk : 6 ≤ k) : lex_class.f k (bt s i) = some (cls (rd (bytesOf s) i)) := by
  have h := (bytesOf_ab s).rd_ i
  rw [bt_of]
  exact class_f _ h.1 h.2 k hk
/-- The kept names. -/
def kept (l : List UInt8) : Bool := [[103, 108, 111, 98, 97, 108], [102, 105, 101, 108, 100], [102, 110], [118, 97, 114], [105, 110, 116], [114, 101, 102], [102, 117, 110], [105, 102], [101, 108, 115, 101], [119, 104, 105, 108, 101], [108, 111, 99, 107], [117, 110, 108, 111, 99, 107], [115, 112, 97, 119, 110], [114, 101, 116, 117, 114, 110], [115, 107, 105, 112], [110, 101, 119], [110, 117, 108, 108]].any fun w => w == l
theorem kept_f (s : ByteArray) (k : Nat) (hk : 1 ≤ k) : lex_Kept.f k s = some (kept s.toList) := by
  obtain ⟨k, rfl⟩ : ∃ m, k = m + 1 := ⟨k - 1, by omega⟩
  unfold lex_Kept.f kept
  simp only [lex_Kept.j0]
  generalize s.toList = l
  by_cases h1 : l = [103, 108, 111, 98, 97, 108]
  · subst h1; rfl
  rw [if_neg h1]
  by_cases h2 : l = [102, 105, 101, 108, 100]
  · subst h2; rfl
  rw [if_neg h2]
  by_cases h3 : l = [102, 110]
  · subst h3; rfl
  rw [if_neg h3]
  by_cases h4 : l = [118, 97, 114]
  · subst h4; rfl
  rw [if_neg h4]
  by_cases h5 : l = [105, 110, 116]
  · subst h5; rfl
  rw [if_neg h5]
  by_cases h6 : l = [114, 101, 102]
  · subst h6; rfl
  rw [if_neg h6]
  by_cases h7 : l = [102, 117, 110]
  · subst h7; rfl
  rw [if_neg (by rw [beq_iff_eq]; exact h7)]
  by_cases h8 : l = [105, 102]
  · subst h8; rfl
  rw [if_neg h8]
  by_cases h9 : l = [101, 108, 115, 101]
  · subst h9; rfl
  rw [if_neg h9]
  by_cases h10 : l = [119, 104, 105, 108, 101]
  · subst h10; rfl
  rw [if_neg h10]
  by_cases h11 : l = [108, 111, 99, 107]
  · subst h11; rfl
  rw [if_neg h11]
  by_cases h12 : l = [117, 110, 108, 111, 99, 107]
  · subst h12; rfl
  rw [if_neg h12]
  by_cases h13 : l = [115, 112, 97, 119, 110]
  · subst h13; rfl
  rw [if_neg h13]
  by_cases h14 : l = [114, 101, 116, 117, 114, 110]
  · subst h14; rfl
  rw [if_neg h14]
  by_cases h15 : l = [115, 107, 105, 112]
  · subst h15; rfl
  rw [if_neg h15]
  by_cases h16 : l = [110, 101, 119]
  · subst h16; rfl
  rw [if_neg h16]
  by_cases h17 : l = [110, 117, 108, 108]
  · subst h17; rfl
  rw [if_neg h17]
  have q : ∀ a : List UInt8, l ≠ a → (a == l) = false := fun a h => by rw [beq_eq_false_iff_ne]; exact fun e => h e.symm
  simp only [List.any_cons, List.any_nil, q _ h1, q _ h2, q _ h3, q _ h4, q _ h5, q _ h6, q _ h7, q _ h8, q _ h9, q _ h10, q _ h11, q _ h12, q _ h13, q _ h14, q _ h15, q _ h16, q _ h17, Bool.or_false]
/-! ### words: plainly -/
def sk : Bool → List Int → Nat
  | _, [] => 0
  | nt, c :: t => if c = 10 then 1 + sk false t else if nt = true ∨ c = 32 ∨ c = 9 ∨ c = 13 then 1 + sk nt t else if c = 35 then 1 + sk true t else 0
theorem sk_le : ∀ (nt : Bool) (l : List Int), sk nt l ≤ l.length
  | _, [] => by simp [sk]
  | nt, c :: t => by
    have h1 := sk_le false t
    have h2 := sk_le nt t
    have h3 := sk_le true t
    rw [sk, List.length_cons]
    repeat' split
    all_goals omega
def run (p : Int → Bool) : List Int → Nat
  | [] => 0
  | c :: t => if p c then 1 + run p t else 0
theorem run_le (p : Int → Bool) : ∀ l : List Int, run p l ≤ l.length
  | [] => by simp [run]
  | c :: t => by
    have h := run_le p t
    rw [run, List.length_cons]
    split <;> omega
def isW (c : Int) : Bool := cls c == 1 || cls c == 2
def isD (c : Int) : Bool := cls c == 2
def num : Int → List Int → Option Int
  | n, [] => some n
  | n, c :: t => if n * 10 + (c - 48) > 2147483648 then none else num (n * 10 + (c - 48)) t
def word (s : ByteArray) (i : Nat) : Option (Int × Nat × Int) :=
  if cls (rd (bytesOf s) i) = 1 then some (if kept (s.extract i (i + 1 + run isW ((bytesOf s).drop (i + 1)))).toList then 3 else 1, i + 1 + run isW ((bytesOf s).drop (i + 1)), 0)
  else if cls (rd (bytesOf s) i) = 2 then (num 0 (((bytesOf s).take (i + 1 + run isD ((bytesOf s).drop (i + 1)))).drop i)).map fun n => (2, i + 1 + run isD ((bytesOf s).drop (i + 1)), n)
  else if cls (rd (bytesOf s) i) = 4 then some (4, if rd (bytesOf s) i = 61 ∧ i + 1 < s.size ∧ rd (bytesOf s) (i + 1 : Nat) = 61 then i + 2 else i + 1, 0)
  else none
def lx (s : ByteArray) : Nat → List S33 → Nat → List S33 × Int × Int
  | 0, _, _ => ([], 0, 0)
  | f + 1, acc, i => if i < s.size then (match word s i with
      | none => ([], 180, (i : Int))
      | some w => lx s f (acc ++ [(⟨w.1, (i : Int), w.2.2, s.extract i w.2.1⟩ : S33)]) (w.2.1 + sk false ((bytesOf s).drop w.2.1)))
    else (acc ++ [(⟨0, (s.size : Int), 0, (⟨#[]⟩ : ByteArray)⟩ : S33)], 0, 0)
theorem drop_bt (s : ByteArray) (i : Nat) (h : i < s.size) : (bytesOf s).drop i = rd (bytesOf s) i :: (bytesOf s).drop (i + 1) := drop_cons_rd _ _ (by rw [bytesOf_length]; exact h)
theorem wrap_next (i : Nat) (h : i < 1000000) : wrap64 ((i : Int) + 1) = ((i + 1 : Nat) : Int) := by rw [wrap64_of (by omega) (by omega)]; omega
theorem cls3 (c : Int) (h : cls c = 3) : c = 32 ∨ c = 9 ∨ c = 10 ∨ c = 13 := by
  unfold cls at h
  repeat' split at h
  all_goals first | assumption | omega
theorem cls_sp {c : Int} (h : c = 32 ∨ c = 9 ∨ c = 10 ∨ c = 13) : cls c = 3 := by rcases h with rfl | rfl | rfl | rfl <;> rfl
theorem skip_loop (s : ByteArray) (hs : s.size < 100000) (d : Nat) : ∀ (i : Nat), s.size - i = d → i ≤ s.size →
    (∀ k, 4 * d + 10 < k → lex_skip.l0 k s (i : Int) = some ((i + sk false ((bytesOf s).drop i) : Nat) : Int)) ∧ (∀ k, 4 * d + 12 < k → lex_skip.l1 k s (i : Int) = some ((i + sk true ((bytesOf s).drop i) : Nat) : Int)) := by
  have hsz := bytesOf_length s
  induction d with
  | zero =>
    intro i hd hi
    have h0 : ∀ k, 4 * 0 + 10 < k → lex_skip.l0 k s (i : Int) = some ((i + sk false ((bytesOf s).drop i) : Nat) : Int) := by
      intro k hk
      obtain ⟨k, rfl⟩ : ∃ m, k = m + 1 := ⟨k - 1, by omega⟩
      simp only [lex_skip.l0]
      rw [if_neg (by omega), List.drop_of_length_le (by omega)]
      rfl
    refine ⟨h0, fun k hk => ?_⟩
    obtain ⟨k, rfl⟩ : ∃ m, k = m + 1 := ⟨k - 1, by omega⟩
    simp only [lex_skip.l1]
    rw [if_neg (by omega), h0 k (by omega), List.drop_of_length_le (by omega)]
    rfl
  | succ d ih =>
    intro i hd hi
    obtain ⟨ih0, ih1⟩ := ih (i + 1) (by omega) (by omega)
    have hdr := drop_bt s i (by omega)
    have e := wrap_next i (by omega)
    have h0 : ∀ k, 4 * (d + 1) + 10 < k → lex_skip.l0 k s (i : Int) = some ((i + sk false ((bytesOf s).drop i) : Nat) : Int) := by
      intro k hk
      obtain ⟨k, rfl⟩ : ∃ m, k = m + 1 := ⟨k - 1, by omega⟩
      simp only [lex_skip.l0]
      rw [if_pos (by omega), if_pos (by omega), class_bt s _ k (by omega), Option.bind_some, hdr, sk, e, bt_of]
      by_cases h3 : cls (rd (bytesOf s) i) = 3
      · rw [if_pos h3, ih0 k (by omega)]
        rcases cls3 _ h3 with h | h | h | h <;> rw [h] <;> simp <;> omega
      · rw [if_neg h3]
        by_cases h35 : rd (bytesOf s) i = 35
        · obtain ⟨k, rfl⟩ : ∃ m, k = m + 1 := ⟨k - 1, by omega⟩
          rw [if_pos h35]
          simp only [lex_skip.l1]
          rw [if_pos (by omega), if_pos (by omega), bt_of, h35, if_neg (by omega), e, ih1 k (by omega)]
          simp
          omega
        · have hn : ¬ (rd (bytesOf s) i = 32 ∨ rd (bytesOf s) i = 9 ∨ rd (bytesOf s) i = 10 ∨ rd (bytesOf s) i = 13) := fun h => h3 (cls_sp h)
          rw [if_neg h35, if_neg (fun h => hn (.inr (.inr (.inl h)))), if_neg (by
            rintro (h | h | h | h)
            · cases h
            · exact hn (.inl h)
            · exact hn (.inr (.inl h))
            · exact hn (.inr (.inr (.inr h)))), if_neg h35]
          rfl
    refine ⟨h0, fun k hk => ?_⟩
    obtain ⟨k, rfl⟩ : ∃ m, k = m + 1 := ⟨k - 1, by omega⟩
    simp only [lex_skip.l1]
    rw [if_pos (by omega), if_pos (by omega), bt_of, e]
    by_cases h10 : rd (bytesOf s) i = 10
    · rw [if_pos h10, h0 k (by omega), hdr, sk, sk, if_pos h10, if_pos h10]
    · rw [if_neg h10, ih1 k (by omega), hdr, sk, if_neg h10, if_pos (.inl rfl)]
      congr 1
      omega
theorem skip_f (s : ByteArray) (hs : s.size < 100000) (i : Nat) (hi : i ≤ s.size) (k : Nat) (hk : 4 * s.size + 10 < k) : lex_skip.f k s (i : Int) = some ((i + sk false ((bytesOf s).drop i) : Nat) : Int) := by
  unfold lex_skip.f
  exact (skip_loop s hs (s.size - i) i rfl hi).1 k (by omega)
theorem end_loop1 (s : ByteArray) (hs : s.size < 100000) (d : Nat) : ∀ (k i : Nat), s.size - i = d → i ≤ s.size → d + 10 < k →
    lex_end.l0 k s (i : Int) = some (((i + run isW ((bytesOf s).drop i) : Nat) : Int), 1) := by
  have hsz := bytesOf_length s
  induction d with
  | zero =>
    intro k i hd hi hk
    obtain ⟨k, rfl⟩ : ∃ m, k = m + 1 := ⟨k - 1, by omega⟩
    simp only [lex_end.l0]
    rw [if_neg (by omega), List.drop_of_length_le (by omega)]
    rfl
  | succ d ih =>
    intro k i hd hi hk
    obtain ⟨k, rfl⟩ : ∃ m, k = m + 1 := ⟨k - 1, by omega⟩
    have hn := ih k (i + 1) (by omega) (by omega) (by omega)
    simp only [lex_end.l0]
    rw [if_pos (by omega), if_pos (by omega), class_bt s _ k (by omega), Option.bind_some, wrap_next i (by omega), drop_bt s i (by omega), run, hn]
    unfold isW
    by_cases h1 : cls (rd (bytesOf s) i) = 1
    · rw [if_pos h1, h1]
      simp
      omega
    · rw [if_neg h1]
      by_cases h2 : cls (rd (bytesOf s) i) = 2
      · rw [if_pos h2, h2]
        simp
        omega
      · rw [if_neg h2, if_neg (by simp [h1, h2])]
        rfl
theorem end_loop2 (s : ByteArray) (hs : s.size < 100000) (d : Nat) : ∀ (k i : Nat), s.size - i = d → i ≤ s.size → d + 10 < k →
    lex_end.l1 k s (i : Int) = some (((i + run isD ((bytesOf s).drop i) : Nat) : Int), 2) := by
  have hsz := bytesOf_length s
  induction d with
  | zero =>
    intro k i hd hi hk
    obtain ⟨k, rfl⟩ : ∃ m, k = m + 1 := ⟨k - 1, by omega⟩
    simp only [lex_end.l1]
    rw [if_neg (by omega), List.drop_of_length_le (by omega)]
    rfl
  | succ d ih =>
    intro k i hd hi hk
    obtain ⟨k, rfl⟩ : ∃ m, k = m + 1 := ⟨k - 1, by omega⟩
    have hn := ih k (i + 1) (by omega) (by omega) (by omega)
    simp only [lex_end.l1]
    rw [if_pos (by omega), if_pos (by omega), class_bt s _ k (by omega), Option.bind_some, wrap_next i (by omega), drop_bt s i (by omega), run, hn]
    unfold isD
    by_cases h2 : cls (rd (bytesOf s) i) = 2
    · rw [if_pos h2, h2]
      simp
      omega
    · rw [if_neg h2, if_neg (by simp [h2])]
      rfl
theorem run_all (p : Int → Bool) : ∀ l : List Int, ∀ x ∈ l.take (run p l), p x = true
  | [], x, h => by simp at h
  | c :: t, x, h => by
    rw [run] at h
    by_cases hc : p c = true
    · rw [if_pos hc, Nat.add_comm, List.take_succ_cons] at h
      rcases List.mem_cons.1 h with rfl | h
      · exact hc
      · exact run_all p t x h
    · rw [if_neg hc, List.take_zero] at h
      cases h
theorem cls2 (c : Int) (h : cls c = 2) : 48 ≤ c ∧ c ≤ 57 := by
  unfold cls at h
  repeat' split at h
  all_goals first | assumption | omega
theorem isD_range (c : Int) (h : isD c = true) : 48 ≤ c ∧ c ≤ 57 := cls2 c (by unfold isD at h; exact beq_iff_eq.1 h)
/-- What number a text of digits says. -/
def numV : Option Int → Int × Bool
  | none => (0, false)
  | some m => (m, true)
theorem number_loop (t : ByteArray) (ht : t.size < 100000) (hd : ∀ x ∈ bytesOf t, 48 ≤ x ∧ x ≤ 57) (d : Nat) : ∀ (k i : Nat) (n : Int), t.size - i = d → i ≤ t.size → d < k → 0 ≤ n → n ≤ 2147483648 →
    lex_number.l0 k t n (t.size : Int) (i : Int) = some (numV (num n ((bytesOf t).drop i))) := by
  have hsz := bytesOf_length t
  induction d with
  | zero =>
    intro k i n hdd hi hk h0 h1
    obtain ⟨k, rfl⟩ : ∃ m, k = m + 1 := ⟨k - 1, by omega⟩
    simp only [lex_number.l0]
    rw [if_neg (by omega), List.drop_of_length_le (by omega)]
    rfl
  | succ d ih =>
    intro k i n hdd hi hk h0 h1
    obtain ⟨k, rfl⟩ : ∃ m, k = m + 1 := ⟨k - 1, by omega⟩
    have hdr := drop_bt t i (by omega)
    have hc : 48 ≤ rd (bytesOf t) i ∧ rd (bytesOf t) i ≤ 57 := hd _ (List.mem_of_mem_drop (i := i) (by rw [hdr]; exact List.mem_cons_self))
    have hm : (rd (bytesOf t) i - 48) % 256 = rd (bytesOf t) i - 48 := by omega
    simp only [lex_number.l0]
    rw [if_pos (by omega), if_pos (by omega), if_pos (by omega), bt_of, hm, hdr, num]
    by_cases hg : n * 10 + (rd (bytesOf t) i - 48) > 2147483648
    · rw [if_pos (by omega), if_pos hg]
      rfl
    · have e : wrap64 (wrap64 (n * 10) + (rd (bytesOf t) i - 48)) = n * 10 + (rd (bytesOf t) i - 48) := by
        rw [wrap64_of (n := n * 10) (by omega) (by omega), wrap64_of (by omega) (by omega)]
      rw [if_neg (by omega), if_neg hg, e, wrap_next i (by omega)]
      exact ih k (i + 1) _ (by omega) (by omega) (by omega) (by omega) (by omega)
theorem number_f (t : ByteArray) (ht : t.size < 100000) (hd : ∀ x ∈ bytesOf t, 48 ≤ x ∧ x ≤ 57) (k : Nat) (hk : t.size < k) : lex_number.f k t = some (numV (num 0 (bytesOf t))) := by
  unfold lex_number.f
  have h := number_loop t ht hd t.size k 0 0 (by omega) (by omega) hk (by omega) (by omega)
  rw [List.drop_zero] at h
  exact h
theorem end_1 (s : ByteArray) (hs : s.size < 100000) (i : Nat) (hi : i < s.size) (k : Nat) (hk : s.size + 10 < k) (h : cls (rd (bytesOf s) i) = 1) : lex_end.f k s (i : Int) = some (((i + 1 + run isW ((bytesOf s).drop (i + 1)) : Nat) : Int), 1) := by
  unfold lex_end.f
  rw [if_pos (by omega), if_pos (by omega), class_bt s _ k (by omega), Option.bind_some, if_pos h, wrap_next i (by omega)]
  exact end_loop1 s hs _ k (i + 1) rfl (by omega) (by omega)
theorem end_2 (s : ByteArray) (hs : s.size < 100000) (i : Nat) (hi : i < s.size) (k : Nat) (hk : s.size + 10 < k) (h : cls (rd (bytesOf s) i) = 2) : lex_end.f k s (i : Int) = some (((i + 1 + run isD ((bytesOf s).drop (i + 1)) : Nat) : Int), 2) := by
  unfold lex_end.f
  rw [if_pos (by omega), if_pos (by omega), class_bt s _ k (by omega), Option.bind_some, if_neg (by omega), if_pos h, wrap_next i (by omega)]
  exact end_loop2 s hs _ k (i + 1) rfl (by omega) (by omega)
theorem end_4 (s : ByteArray) (hs : s.size < 100000) (i : Nat) (hi : i < s.size) (k : Nat) (hk : s.size + 10 < k) (h : cls (rd (bytesOf s) i) = 4) :
    lex_end.f k s (i : Int) = some (((if rd (bytesOf s) i = 61 ∧ i + 1 < s.size ∧ rd (bytesOf s) (i + 1 : Nat) = 61 then i + 2 else i + 1 : Nat) : Int), 4) := by
  unfold lex_end.f
  rw [if_pos (by omega), if_pos (by omega), class_bt s _ k (by omega), Option.bind_some, if_neg (by omega), if_neg (by omega), if_pos h, wrap_next i (by omega), bt_of, bt_of]
  by_cases h1 : rd (bytesOf s) i = 61
  · rw [if_pos h1]
    by_cases h2 : i + 1 < s.size
    · rw [if_pos (by omega), if_pos (by omega)]
      by_cases h3 : rd (bytesOf s) (i + 1 : Nat) = 61
      · rw [if_pos h3, if_pos ⟨h1, h2, h3⟩, wrap_next (i + 1) (by omega)]
      · rw [if_neg h3, if_neg (fun h => h3 h.2.2)]
    · rw [if_neg (by omega), if_neg (fun h => h2 h.2.1)]
  · rw [if_neg h1, if_neg (fun h => h1 h.1)]
theorem end_0 (s : ByteArray) (i : Nat) (hi : i < s.size) (k : Nat) (hk : 10 < k) (h1 : cls (rd (bytesOf s) i) ≠ 1) (h2 : cls (rd (bytesOf s) i) ≠ 2) (h4 : cls (rd (bytesOf s) i) ≠ 4) :
    lex_end.f k s (i : Int) = some ((i : Int), 0) := by
  unfold lex_end.f
  rw [if_pos (by omega), if_pos (by omega), class_bt s _ k (by omega), Option.bind_some, if_neg h1, if_neg h2, if_neg h4]
theorem cut_digits (s : ByteArray) (i : Nat) (hi : i < s.size) (h : cls (rd (bytesOf s) i) = 2) : ∀ x ∈ ((bytesOf s).take (i + 1 + run isD ((bytesOf s).drop (i + 1)))).drop i, 48 ≤ x ∧ x ≤ 57 := by
  intro x hx
  rw [List.drop_take, drop_bt s i hi, show i + 1 + run isD ((bytesOf s).drop (i + 1)) - i = run isD ((bytesOf s).drop (i + 1)) + 1 by omega, List.take_succ_cons] at hx
  rcases List.mem_cons.1 hx with rfl | hx
  · exact cls2 _ h
  · exact isD_range x (run_all isD _ x hx)
theorem word_to (s : ByteArray) (i : Nat) (hi : i < s.size) (w : Int × Nat × Int) (h : word s i = some w) : i < w.2.1 ∧ w.2.1 ≤ s.size := by
  have h1 := run_le isW ((bytesOf s).drop (i + 1))
  have h2 := run_le isD ((bytesOf s).drop (i + 1))
  rw [List.length_drop, bytesOf_length] at h1 h2
  unfold word at h
  split at h
  · obtain rfl := Option.some.inj h
    exact ⟨by show i < i + 1 + _; omega, by show i + 1 + _ ≤ _; omega⟩
  · split at h
    · obtain ⟨n, _, rfl⟩ := Option.map_eq_some_iff.1 h
      exact ⟨by show i < i + 1 + _; omega, by show i + 1 + _ ≤ _; omega⟩
    · split at h
      · obtain rfl := Option.some.inj h
        by_cases hc : rd (bytesOf s) i = 61 ∧ i + 1 < s.size ∧ rd (bytesOf s) (i + 1 : Nat) = 61
        · simp only [if_pos hc]
          exact ⟨by omega, by omega⟩
        · simp only [if_neg hc]
          exact ⟨by omega, by omega⟩
      · cases h
theorem lx_end (s : ByteArray) (f : Nat) (acc : List S33) (i : Nat) (h : ¬ i < s.size) : lx s (f + 1) acc i = (acc ++ [(⟨0, (s.size : Int), 0, (⟨#[]⟩ : ByteArray)⟩ : S33)], 0, 0) := by rw [lx, if_neg h]
theorem lx_bad (s : ByteArray) (f : Nat) (acc : List S33) (i : Nat) (h : i < s.size) (hw : word s i = none) : lx s (f + 1) acc i = ([], 180, (i : Int)) := by rw [lx, if_pos h, hw]
theorem lx_go (s : ByteArray) (f : Nat) (acc : List S33) (i : Nat) (h : i < s.size) (w : Int × Nat × Int) (hw : word s i = some w) :
    lx s (f + 1) acc i = lx s f (acc ++ [(⟨w.1, (i : Int), w.2.2, s.extract i w.2.1⟩ : S33)]) (w.2.1 + sk false ((bytesOf s).drop w.2.1)) := by rw [lx, if_pos h, hw]
theorem sk_next (s : ByteArray) (i : Nat) (h : i ≤ s.size) : i + sk false ((bytesOf s).drop i) ≤ s.size := by
  have := sk_le false ((bytesOf s).drop i)
  rw [List.length_drop, bytesOf_length] at this
  omega
theorem Lex_loop (s : ByteArray) (hs : s.size ≤ 32768) (f : Nat) : ∀ (k : Nat) (acc : List S33) (i : Nat), i ≤ s.size → s.size - i < f → acc.length ≤ i → 4 * s.size + 100 + f ≤ k →
    lex_Lex.l0 k s acc (i : Int) = some (lx s f acc i) := by
  induction f with
  | zero => intro k acc i hi hf; omega
  | succ f ih =>
    intro k acc i hi hf ha hk
    obtain ⟨k, rfl⟩ : ∃ m, k = m + 1 := ⟨k - 1, by omega⟩
    simp only [lex_Lex.l0]
    by_cases hlt : i < s.size
    · rw [if_pos (by omega)]
      have hgo : ∀ w, word s i = some w → lex_Lex.l0 k s (acc ++ [(⟨w.1, (i : Int), w.2.2, s.extract i w.2.1⟩ : S33)]) ((w.2.1 + sk false ((bytesOf s).drop w.2.1) : Nat) : Int) = some (lx s (f + 1) acc i) := by
        intro w hw
        have ht := word_to s i hlt w hw
        have hn := sk_next s w.2.1 ht.2
        rw [lx_go s f acc i hlt w hw]
        exact ih k _ _ hn (by omega) (by rw [List.length_append]; simp; omega) (by omega)
      have hskip : ∀ j : Nat, j ≤ s.size → lex_skip.f k s (j : Int) = some ((j + sk false ((bytesOf s).drop j) : Nat) : Int) := fun j hj => skip_f s (by omega) j hj k (by omega)
      by_cases h1 : cls (rd (bytesOf s) i) = 1
      · have hw : word s i = some (if kept (s.extract i (i + 1 + run isW ((bytesOf s).drop (i + 1)))).toList then 3 else 1, i + 1 + run isW ((bytesOf s).drop (i + 1)), 0) := by unfold word; rw [if_pos h1]
        have ht := word_to s i hlt _ hw
        have hg := hgo _ hw
        dsimp only at ht hg
        rw [end_1 s (by omega) i hlt k (by omega) h1, Option.bind_some]
        dsimp only
        generalize i + 1 + run isW ((bytesOf s).drop (i + 1)) = z at ht hg ⊢
        rw [if_pos (by omega), if_pos (by omega), if_pos (by omega), if_pos rfl, Int.toNat_natCast, Int.toNat_natCast, kept_f _ k (by omega), Option.bind_some, hskip z ht.2, Option.bind_some]
        by_cases hk1 : kept (s.extract i z).toList = true
        · rw [if_pos hk1] at hg ⊢
          rw [if_neg (by omega), if_pos (by omega)]
          exact hg
        · rw [if_neg hk1] at hg ⊢
          rw [if_neg (by omega), if_pos (by omega)]
          exact hg
      · by_cases h2 : cls (rd (bytesOf s) i) = 2
        · have hr := run_le isD ((bytesOf s).drop (i + 1))
          rw [List.length_drop, bytesOf_length] at hr
          have hcd := cut_digits s i hlt h2
          have hwd : word s i = (num 0 (((bytesOf s).take (i + 1 + run isD ((bytesOf s).drop (i + 1)))).drop i)).map fun n => (2, i + 1 + run isD ((bytesOf s).drop (i + 1)), n) := by unfold word; rw [if_neg h1, if_pos h2]
          rw [end_2 s (by omega) i hlt k (by omega) h2, Option.bind_some]
          dsimp only
          have hz1 : i < i + 1 + run isD ((bytesOf s).drop (i + 1)) := by omega
          have hz2 : i + 1 + run isD ((bytesOf s).drop (i + 1)) ≤ s.size := by omega
          generalize i + 1 + run isD ((bytesOf s).drop (i + 1)) = z at hwd hcd hz1 hz2 ⊢
          have hxb : bytesOf (s.extract i z) = ((bytesOf s).take z).drop i := bytesOf_extract s i z
          have hxz : (s.extract i z).size ≤ s.size := by rw [size_of, hxb, List.length_drop, List.length_take, bytesOf_length]; omega
          have hnum := number_f (s.extract i z) (by omega) (by rw [hxb]; exact hcd) k (by omega)
          rw [if_pos (by omega), if_pos (by omega), if_pos (by omega), if_neg (by omega), if_pos rfl, Int.toNat_natCast, Int.toNat_natCast, hnum, Option.bind_some, hxb]
          cases hn : num 0 (((bytesOf s).take z).drop i) with
          | none =>
            rw [hn] at hwd
            rw [lx_bad s f acc i hlt hwd]
            rfl
          | some m =>
            rw [hn] at hwd
            have hg := hgo _ hwd
            simp only [numV]
            dsimp only at hg
            rw [if_pos trivial, if_pos (by omega), hskip z hz2, Option.bind_some]
            exact hg
        · by_cases h4 : cls (rd (bytesOf s) i) = 4
          · have hw : word s i = some (4, if rd (bytesOf s) i = 61 ∧ i + 1 < s.size ∧ rd (bytesOf s) (i + 1 : Nat) = 61 then i + 2 else i + 1, 0) := by unfold word; rw [if_neg h1, if_neg h2, if_pos h4]
            have ht := word_to s i hlt _ hw
            have hg := hgo _ hw
            rw [end_4 s (by omega) i hlt k (by omega) h4, Option.bind_some]
            dsimp only at ht hg ⊢
            generalize (if rd (bytesOf s) i = 61 ∧ i + 1 < s.size ∧ rd (bytesOf s) (i + 1 : Nat) = 61 then i + 2 else i + 1) = z at ht hg ⊢
            rw [if_pos (by omega), if_pos (by omega), if_pos (by omega), if_neg (by omega), if_neg (by omega), if_neg (by omega), if_pos (by omega), hskip z ht.2, Option.bind_some, Int.toNat_natCast, Int.toNat_natCast]
            exact hg
          · have hw : word s i = none := by unfold word; rw [if_neg h1, if_neg h2, if_neg h4]
            rw [end_0 s i hlt k (by omega) h1 h2 h4, Option.bind_some, lx_bad s f acc i hlt hw]
            dsimp only
            rw [if_pos (by omega), if_pos (by omega), if_pos (by omega), if_neg (by omega), if_neg (by omega), if_pos rfl]
    · rw [if_neg (by omega), lx_end s f acc i hlt, if_pos (by omega)]
theorem Lex_f (s : ByteArray) (hs : s.size ≤ 32768) (k : Nat) (hk : 5 * s.size + 200 ≤ k) : lex_Lex.f k s = some (lx s (s.size + 1) [] (sk false (bytesOf s))) := by
  unfold lex_Lex.f
  have h := skip_f s (by omega) 0 (by omega) k (by omega)
  have hn := sk_next s 0 (by omega)
  rw [Nat.zero_add, List.drop_zero, show ((0 : Nat) : Int) = 0 from rfl] at h
  rw [Nat.zero_add, List.drop_zero] at hn
  rw [if_neg (by omega), h, Option.bind_some]
  exact Lex_loop s hs (s.size + 1) k [] _ hn (by omega) (by simp) (by omega)
theorem awake18 : keywaylaw18_awake.f 60 = some true := by decide +kernel
theorem and3 (x : Int) : Go.bits .and .i64 x 3 = x % 4 := by
  have h : (BitVec.ofInt 64 x &&& BitVec.ofInt 64 3).toNat = (x % 18446744073709551616).toNat % 4 := by
    rw [BitVec.toNat_and, BitVec.toNat_ofInt, BitVec.toNat_ofInt]
    exact Nat.and_two_pow_sub_one_eq_mod _ 2
  show IntKind.i64.wrap (((BitVec.ofInt 64 x &&& BitVec.ofInt 64 3).toNat : Nat) : Int) = x % 4
  rw [h, IntWalk.i64_in _ (by omega)]
  omega
theorem sk_spaces : ∀ n : Nat, sk false (List.replicate n 32) = n
  | 0 => rfl
  | n + 1 => by
    rw [List.replicate_succ, sk, if_neg (by omega), if_pos (.inr (.inl rfl)), sk_spaces n]
    omega
theorem long_end (a0 : Int) (M : Nat) (hM : M = 32768 + (a0 % 4).toNat) (k : Nat) (hk : 200000 ≤ k) :
    keywaylaw18_LexLong.l0 (k + 1) a0 (List.replicate M 32) (M : Int) = some true := by
  have hab : AB (List.replicate M 32) := fun x hx => by rw [List.eq_of_mem_replicate hx]; omega
  simp only [keywaylaw18_LexLong.l0]
  rw [if_neg (by rw [List.length_replicate]; omega), at_rounds keywaylaw18_awake.mono (show 60 ≤ k by omega) awake18, and3]
  have hz : (strOfNums (List.replicate M 32)).size = M := by rw [strOfNums_size, List.length_replicate]
  by_cases h : a0 % 4 = 0
  · have hL := Lex_f (strOfNums (List.replicate M 32)) (by omega) k (by omega)
    rw [of_str hab, sk_spaces, lx_end _ _ _ _ (by omega)] at hL
    rw [hL, Option.bind_some, if_pos h]
    rfl
  · have hL : lex_Lex.f k (strOfNums (List.replicate M 32)) = some (([] : List S33), 184, 32768) := by
      unfold lex_Lex.f
      rw [if_pos (by omega)]
    rw [hL, Option.bind_some, if_neg h]
    rfl
theorem long_loop (a0 : Int) (M : Nat) (hM : M = 32768 + (a0 % 4).toNat) (d : Nat) : ∀ (k i : Nat), i + d = M → 200000 + d ≤ k →
    keywaylaw18_LexLong.l0 (k + 1) a0 (List.replicate i 32 ++ List.replicate d 0) (i : Int) = some true := by
  induction d with
  | zero =>
    intro k i hi hk
    obtain rfl : i = M := by omega
    rw [List.replicate_zero, List.append_nil]
    exact long_end a0 i hM k (by omega)
  | succ d ih =>
    intro k i hi hk
    obtain ⟨k, rfl⟩ : ∃ m, k = m + 1 := ⟨k - 1, by omega⟩
    have hs : (List.replicate i (32 : Int) ++ List.replicate (d + 1) 0).set i 32 = List.replicate (i + 1) 32 ++ List.replicate d 0 := by
      rw [List.set_append_right _ _ (by simp), List.length_replicate, Nat.sub_self, List.replicate_succ (n := d), List.set_cons_zero, List.replicate_succ', List.append_assoc]
      rfl
    rw [keywaylaw18_LexLong.l0, if_pos (by simp; omega), if_pos (by omega), Int.toNat_natCast, hs, wrap_next i (by omega)]
    exact ih k (i + 1) (by omega) (by omega)
theorem LexLong : keywaylaw18_LexLong.Pure := by
  intro a0 w0
  obtain ⟨k, hk⟩ : ∃ k : Nat, 300000 ≤ k := ⟨300000, Nat.le_refl _⟩
  refine ⟨k + 1, ?_⟩
  have h4 : 0 ≤ a0 % 4 ∧ a0 % 4 < 4 := by omega
  have hw : wrap64 (32768 + a0 % 4) = 32768 + a0 % 4 := wrap64_of (by omega) (by omega)
  obtain ⟨M, hM⟩ : ∃ M : Nat, M = 32768 + (a0 % 4).toNat := ⟨_, rfl⟩
  have hn : (32768 + a0 % 4).toNat = M := by omega
  unfold keywaylaw18_LexLong.f
  rw [and3, hw, hn, if_pos (by omega), if_pos (by omega)]
  have h := long_loop a0 M hM M k 0 (by omega) (by omega)
  rw [List.replicate_zero, List.nil_append] at h
  exact h
end Go.Proofs.Ytlcklkjnanhnmaa.Pure

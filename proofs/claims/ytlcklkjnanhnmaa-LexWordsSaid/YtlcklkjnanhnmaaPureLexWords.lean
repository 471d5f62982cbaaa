/- The words of any text are the document's, or its first flaw: for every text. -/
import Derived.Test.YtlcklkjnanhnmaaQLEXx9
import Derived.Test.YtlcklkjnanhnmaaLib
namespace Go.Proofs.Ytlcklkjnanhnmaa.Pure
open Go.RowKit Go.Proofs.Ytlcklkjnanhnmaa.QLEX Go.Proofs.YtlcklkjnanhnmaaW.PrintWords Go.Proofs.YtlcklkjnanhnmaaW.PrintLast Go.Proofs.YtlcklkjnanhnmaaW.PrintMore Go.Proofs.Ytlcklkjnanhnmaa.Lib
/-! ### bytes: what they are -/
def cls (c : Int) : Int :=
  if (97 ≤ c ∧ c ≤ 122) ∨ (65 ≤ c ∧ c ≤ 90) ∨ c = 95 then 1 else if 48 ≤ c ∧ c ≤ 57 then 2 else if c = 32 ∨ c = 9 ∨ c = 10 ∨ c = 13 then 3
  else if c = 123 ∨ c = 125 ∨ c = 40 ∨ c = 41 ∨ c = 59 ∨ c = 58 ∨ c = 44 ∨ c = 61 ∨ c = 46 ∨ c = 64 ∨ c = 38 ∨ c = 42 ∨ c = 60 ∨ c = 43 ∨ c = 45 then 4 else 0
theorem class_all : ∀ c : Nat, c < 256 → lex_class.f 6 (c : Int) = some (cls (c : Int)) := by decide +kernel
theorem class_f (c : Int) (h0 : 0 ≤ c) (h1 : c < 256) (k : Nat) (hk : 6 ≤ k) : lex_class.f k c = some (cls c) := by
  obtain ⟨n, rfl⟩ := Int.eq_ofNat_of_zero_le h0
  exact at_rounds (lex_class.mono _) hk (class_all n (by omega))
theorem class_bt (s : ByteArray) (i : Int) (k : Nat) (hk : 6 ≤ k) : lex_class.f k (bt s i) = some (cls (rd (bytesOf s) i)) := by
  have h := (bytesOf_ab s).rd_ i
  rw [bt_of]
  exact class_f _ h.1 h.2 k hk
/-- The kept names. -/
def kept (l : List UInt8) : Bool := [[103, 108, 111, 98, 97, 108], [102, 105, 101, 108, 100], [102, 110], [118, 97, 114], [105, 110, 116], [114, 101, 102], [102, 117, 110], [105, 102], [101, 108, 115, 101], [119, 104, 105, 108, 101], [108, 111, 99, 107], [117, 110, 108, 111, 99, 107], [115, 112, 97, 119, 110], [114, 101, 116, 117, 114, 110], [115, 107, 105, 112], [110, 101, 119], [110, 117, 108, 108]].any fun w => w == l
theorem kept_f (s : ByteArray) (k : Nat) (hk : 1 ≤ k) : lex_Kept.f k s = some (kept s.toList) := by
  obtain ⟨k, rfl⟩ : ∃ m, k = m + 1 := ⟨k - 1, by omega⟩
  unfold lex_Kept.f kept
  simp only [lex_Kept.j0]
  generalize s.toList = l
  by_cases h1 : l = [103, 108, 111, 98, 97, 108]
  · subst h1; rfl
  rw [if_neg h1]
  by_cases h2 : l = [102, 105, 101, 108, 100]
  · subst h2; rfl
  rw [if_neg h2]
  by_cases h3 : l = [102, 110]
  · subst h3; rfl
  rw [if_neg h3]
  by_cases h4 : l = [118, 97, 114]
  · subst h4; rfl
  rw [if_neg h4]
  by_cases h5 : l = [105, 110, 116]
  · subst h5; rfl
  rw [if_neg h5]
  by_cases h6 : l = [114, 101, 102]
  · subst h6; rfl
  rw [if_neg h6]
  by_cases h7 : l = [102, 117, 110]
  · subst h7; rfl
  rw [if_neg (by rw [beq_iff_eq]; exact h7)]
  by_cases h8 : l = [105, 102]
  · subst h8; rfl
  rw [if_neg h8]
  by_cases h9 : l = [101, 108, 115, 101]
  · subst h9; rfl
  rw [if_neg h9]
  by_cases h10 : l = [119, 104, 105, 108, 101]
  · subst h10; rfl
  rw [if_neg h10]
  by_cases h11 : l = [108, 111, 99, 107]
  · subst h11; rfl
  rw [if_neg h11]
  by_cases h12 : l = [117, 110, 108, 111, 99, 107]
  · subst h12; rfl
  rw [if_neg h12]
  by_cases h13 : l = [115, 112, 97, 119, 110]
  · subst h13; rfl
  rw [if_neg h13]
  by_cases h14 : l = [114, 101, 116, 117, 114, 110]
  · subst h14; rfl
  rw [if_neg h14]
  by_cases h15 : l = [115, 107, 105, 112]
  · subst h15; rfl
  rw [if_neg h15]
  by_cases h16 : l = [110, 101, 119]
  · subst h16; rfl
  rw [if_neg h16]
  by_cases h17 : l = [110, 117, 108, 108]
  · subst h17; rfl
  rw [if_neg h17]
  have q : ∀ a : List UInt8, l ≠ a → (a == l) = false := fun a h => by rw [beq_eq_false_iff_ne]; exact fun e => h e.symm
  simp only [List.any_cons, List.any_nil, q _ h1, q _ h2, q _ h3, q _ h4, q _ h5, q _ h6, q _ h7, q _ h8, q _ h9, q _ h10, q _ h11, q _ h12, q _ h13, q _ h14, q _ h15, q _ h16, q _ h17, Bool.or_false]
/-! ### words: plainly -/
def sk : Bool → List Int → Nat
  | _, [] => 0
  | nt, c :: t => if c = 10 then 1 + sk false t else if nt = true ∨ c = 32 ∨ c = 9 ∨ c = 13 then 1 + sk nt t else if c = 35 then 1 + sk true t else 0
theorem sk_le : ∀ (nt : Bool) (l : List Int), sk nt l ≤ l.length
  | _, [] => by simp [sk]
  | nt, c :: t => by
    have h1 := sk_le false t
    have h2 := sk_le nt t
    have h3 := sk_le true t
    rw [sk, List.length_cons]
    repeat' split
    all_goals omega
def run (p : Int → Bool) : List Int → Nat
  | [] => 0
  | c :: t => if p c then 1 + run p t else 0
theorem run_le (p : Int → Bool) : ∀ l : List Int, run p l ≤ l.length
  | [] => by simp [run]
  | c :: t => by
    have h := run_le p t
    rw [run, List.length_cons]
    split <;> omega
def isW (c : Int) : Bool := cls c == 1 || cls c == 2
def isD (c : Int) : Bool := cls c == 2
def num : Int → List Int → Option Int
  | n, [] => some n
  | n, c :: t => if n * 10 + (c - 48) > 2147483648 then none else num (n * 10 + (c - 48)) t
def word (s : ByteArray) (i : Nat) : Option (Int × Nat × Int) :=
  if cls (rd (bytesOf s) i) = 1 then some (if kept (s.extract i (i + 1 + run isW ((bytesOf s).drop (i + 1)))).toList then 3 else 1, i + 1 + run isW ((bytesOf s).drop (i + 1)), 0)
  else if cls (rd (bytesOf s) i) = 2 then (num 0 (((bytesOf s).take (i + 1 + run isD ((bytesOf s).drop (i + 1)))).drop i)).map fun n => (2, i + 1 + run isD ((bytesOf s).drop (i + 1)), n)
  else if cls (rd (bytesOf s) i) = 4 then some (4, if rd (bytesOf s) i = 61 ∧ i + 1 < s.size ∧ rd (bytesOf s) (i + 1 : Nat) = 61 then i + 2 else i + 1, 0)
  else none
def lx (s : ByteArray) : Nat → List S33 → Nat → List S33 × Int × Int
  | 0, _, _ => ([], 0, 0)
  | f + 1, acc, i => if i < s.size then (match word s i with
      | none => ([], 180, (i : Int))
      | some w => lx s f (acc ++ [(⟨w.1, (i : Int), w.2.2, s.extract i w.2.1⟩ : S33)]) (w.2.1 + sk false ((bytesOf s).drop w.2.1)))
    else (acc ++ [(⟨0, (s.size : Int), 0, (⟨#[]⟩ : ByteArray)⟩ : S33)], 0, 0)
theorem drop_bt (s : ByteArray) (i : Nat) (h : i < s.size) : (bytesOf s).drop i = rd (bytesOf s) i :: (bytesOf s).drop (i + 1) := drop_cons_rd _ _ (by rw [bytesOf_length]; exact h)
theorem wrap_next (i : Nat) (h : i < 1000000) : wrap64 ((i : Int) + 1) = ((i + 1 : Nat) : Int) := by rw [wrap64_of (by omega) (by omega)]; omega
theorem cls3 (c : Int) (h : cls c = 3) : c = 32 ∨ c = 9 ∨ c = 10 ∨ c = 13 := by
  unfold cls at h
  repeat' split at h
  all_goals first | assumption | omega
theorem cls_sp {c : Int} (h : c = 32 ∨ c = 9 ∨ c = 10 ∨ c = 13) : cls c = 3 := by rcases h with rfl | rfl | rfl | rfl <;> rfl
theorem skip_loop (s : ByteArray) (hs : s.size < 100000) (d : Nat) : ∀ (i : Nat), s.size - i = d → i ≤ s.size →
    (∀ k, 4 * d + 10 < k → lex_skip.l0 k s (i : Int) = some ((i + sk false ((bytesOf s).drop i) : Nat) : Int)) ∧ (∀ k, 4 * d + 12 < k → lex_skip.l1 k s (i : Int) = some ((i + sk true ((bytesOf s).drop i) : Nat) : Int)) := by
  have hsz := bytesOf_length s
  induction d with
  | zero =>
    intro i hd hi
    have h0 : ∀ k, 4 * 0 + 10 < k → lex_skip.l0 k s (i : Int) = some ((i + sk false ((bytesOf s).drop i) : Nat) : Int) := by
      intro k hk
      obtain ⟨k, rfl⟩ : ∃ m, k = m + 1 := ⟨k - 1, by omega⟩
      simp only [lex_skip.l0]
      rw [if_neg (by omega), List.drop_of_length_le (by omega)]
      rfl
    refine ⟨h0, fun k hk => ?_⟩
    obtain ⟨k, rfl⟩ : ∃ m, k = m + 1 := ⟨k - 1, by omega⟩
    simp only [lex_skip.l1]
    rw [if_neg (by omega), h0 k (by omega), List.drop_of_length_le (by omega)]
    rfl
  | succ d ih =>
    intro i hd hi
    obtain ⟨ih0, ih1⟩ := ih (i + 1) (by omega) (by omega)
    have hdr := drop_bt s i (by omega)
    have e := wrap_next i (by omega)
    have h0 : ∀ k, 4 * (d + 1) + 10 < k → lex_skip.l0 k s (i : Int) = some ((i + sk false ((bytesOf s).drop i) : Nat) : Int) := by
      intro k hk
      obtain ⟨k, rfl⟩ : ∃ m, k = m + 1 := ⟨k - 1, by omega⟩
      simp only [lex_skip.l0]
      rw [if_pos (by omega), if_pos (by omega), class_bt s _ k (by omega), Option.bind_some, hdr, sk, e, bt_of]
      by_cases h3 : cls (rd (bytesOf s) i) = 3
      · rw [if_pos h3, ih0 k (by omega)]
        rcases cls3 _ h3 with h | h | h | h <;> rw [h] <;> simp <;> omega
      · rw [if_neg h3]
        by_cases h35 : rd (bytesOf s) i = 35
        · obtain ⟨k, rfl⟩ : ∃ m, k = m + 1 := ⟨k - 1, by omega⟩
          rw [if_pos h35]
          simp only [lex_skip.l1]
          rw [if_pos (by omega), if_pos (by omega), bt_of, h35, if_neg (by omega), e, ih1 k (by omega)]
          simp
          omega
        · have hn : ¬ (rd (bytesOf s) i = 32 ∨ rd (bytesOf s) i = 9 ∨ rd (bytesOf s) i = 10 ∨ rd (bytesOf s) i = 13) := fun h => h3 (cls_sp h)
          rw [if_neg h35, if_neg (fun h => hn (.inr (.inr (.inl h)))), if_neg (by
            rintro (h | h | h | h)
            · cases h
            · exact hn (.inl h)
            · exact hn (.inr (.inl h))
            · exact hn (.inr (.inr (.inr h)))), if_neg h35]
          rfl
    refine ⟨h0, fun k hk => ?_⟩
    obtain ⟨k, rfl⟩ : ∃ m, k = m + 1 := ⟨k - 1, by omega⟩
    simp only [lex_skip.l1]
    rw [if_pos (by omega), if_pos (by omega), bt_of, e]
    by_cases h10 : rd (bytesOf s) i = 10
    · rw [if_pos h10, h0 k (by omega), hdr, sk, sk, if_pos h10, if_pos h10]
    · rw [if_neg h10, ih1 k (by omega), hdr, sk, if_neg h10, if_pos (.inl rfl)]
      congr 1
      omega
theorem skip_f (s : ByteArray) (hs : s.size < 100000) (i : Nat) (hi : i ≤ s.size) (k : Nat) (hk : 4 * s.size + 10 < k) : lex_skip.f k s (i : Int) = some ((i + sk false ((bytesOf s).drop i) : Nat) : Int) := by
  unfold lex_skip.f
  exact (skip_loop s hs (s.size - i) i rfl hi).1 k (by omega)
theorem end_loop1 (s : ByteArray) (hs : s.size < 100000) (d : Nat) : ∀ (k i : Nat), s.size - i = d → i ≤ s.size → d + 10 < k →
    lex_end.l0 k s (i : Int) = some (((i + run isW ((bytesOf s).drop i) : Nat) : Int), 1) := by
  have hsz := bytesOf_length s
  induction d with
  | zero =>
    intro k i hd hi hk
    obtain ⟨k, rfl⟩ : ∃ m, k = m + 1 := ⟨k - 1, by omega⟩
    simp only [lex_end.l0]
    rw [if_neg (by omega), List.drop_of_length_le (by omega)]
    rfl
  | succ d ih =>
    intro k i hd hi hk
    obtain ⟨k, rfl⟩ : ∃ m, k = m + 1 := ⟨k - 1, by omega⟩
    have hn := ih k (i + 1) (by omega) (by omega) (by omega)
    simp only [lex_end.l0]
    rw [if_pos (by omega), if_pos (by omega), class_bt s _ k (by omega), Option.bind_some, wrap_next i (by omega), drop_bt s i (by omega), run, hn]
    unfold isW
    by_cases h1 : cls (rd (bytesOf s) i) = 1
    · rw [if_pos h1, h1]
      simp
      omega
    · rw [if_neg h1]
      by_cases h2 : cls (rd (bytesOf s) i) = 2
      · rw [if_pos h2, h2]
        simp
        omega
      · rw [if_neg h2, if_neg (by simp [h1, h2])]
        rfl
theorem end_loop2 (s : ByteArray) (hs : s.size < 100000) (d : Nat) : ∀ (k i : Nat), s.size - i = d → i ≤ s.size → d + 10 < k →
    lex_end.l1 k s (i : Int) = some (((i + run isD ((bytesOf s).drop i) : Nat) : Int), 2) := by
  have hsz := bytesOf_length s
  induction d with
  | zero =>
    intro k i hd hi hk
    obtain ⟨k, rfl⟩ : ∃ m, k = m + 1 := ⟨k - 1, by omega⟩
    simp only [lex_end.l1]
    rw [if_neg (by omega), List.drop_of_length_le (by omega)]
    rfl
  | succ d ih =>
    intro k i hd hi hk
    obtain ⟨k, rfl⟩ : ∃ m, k = m + 1 := ⟨k - 1, by omega⟩
    have hn := ih k (i + 1) (by omega) (by omega) (by omega)
    simp only [lex_end.l1]
    rw [if_pos (by omega), if_pos (by omega), class_bt s _ k (by omega), Option.bind_some, wrap_next i (by omega), drop_bt s i (by omega), run, hn]
    unfold isD
    by_cases h2 : cls (rd (bytesOf s) i) = 2
    · rw [if_pos h2, h2]
      simp
      omega
    · rw [if_neg h2, if_neg (by simp [h2])]
      rfl
theorem run_all (p : Int → Bool) : ∀ l : List Int, ∀ x ∈ l.take (run p l), p x = true
  | [], x, h => by simp at h
  | c :: t, x, h => by
    rw [run] at h
    by_cases hc : p c = true
    · rw [if_pos hc, Nat.add_comm, List.take_succ_cons] at h
      rcases List.mem_cons.1 h with rfl | h
      · exact hc
      · exact run_all p t x h
    · rw [if_neg hc, List.take_zero] at h
      cases h
theorem cls2 (c : Int) (h : cls c = 2) : 48 ≤ c ∧ c ≤ 57 := by
  unfold cls at h
  repeat' split at h
  all_goals first | assumption | omega
theorem isD_range (c : Int) (h : isD c = true) : 48 ≤ c ∧ c ≤ 57 := cls2 c (by unfold isD at h; exact beq_iff_eq.1 h)
/-- What number a text of digits says. -/
def numV : Option Int → Int × Bool
  | none => (0, false)
  | some m => (m, true)
theorem number_loop (t : ByteArray) (ht : t.size < 100000) (hd : ∀ x ∈ bytesOf t, 48 ≤ x ∧ x ≤ 57) (d : Nat) : ∀ (k i : Nat) (n : Int), t.size - i = d → i ≤ t.size → d < k → 0 ≤ n → n ≤ 2147483648 →
    lex_number.l0 k t n (t.size : Int) (i : Int) = some (numV (num n ((bytesOf t).drop i))) := by
  have hsz := bytesOf_length t
  induction d with
  | zero =>
    intro k i n hdd hi hk h0 h1
    obtain ⟨k, rfl⟩ : ∃ m, k = m + 1 := ⟨k - 1, by omega⟩
    simp only [lex_number.l0]
    rw [if_neg (by omega), List.drop_of_length_le (by omega)]
    rfl
  | succ d ih =>
    intro k i n hdd hi hk h0 h1
    obtain ⟨k, rfl⟩ : ∃ m, k = m + 1 := ⟨k - 1, by omega⟩
    have hdr := drop_bt t i (by omega)
    have hc : 48 ≤ rd (bytesOf t) i ∧ rd (bytesOf t) i ≤ 57 := hd _ (List.mem_of_mem_drop (i := i) (by rw [hdr]; exact List.mem_cons_self))
    have hm : (rd (bytesOf t) i - 48) % 256 = rd (bytesOf t) i - 48 := by omega
    simp only [lex_number.l0]
    rw [if_pos (by omega), if_pos (by omega), if_pos (by omega), bt_of, hm, hdr, num]
    by_cases hg : n * 10 + (rd (bytesOf t) i - 48) > 2147483648
    · rw [if_pos (by omega), if_pos hg]
      rfl
    · have e : wrap64 (wrap64 (n * 10) + (rd (bytesOf t) i - 48)) = n * 10 + (rd (bytesOf t) i - 48) := by
        rw [wrap64_of (n := n * 10) (by omega) (by omega), wrap64_of (by omega) (by omega)]
      rw [if_neg (by omega), if_neg hg, e, wrap_next i (by omega)]
      exact ih k (i + 1) _ (by omega) (by omega) (by omega) (by omega) (by omega)
theorem number_f (t : ByteArray) (ht : t.size < 100000) (hd : ∀ x ∈ bytesOf t, 48 ≤ x ∧ x ≤ 57) (k : Nat) (hk : t.size < k) : lex_number.f k t = some (numV (num 0 (bytesOf t))) := by
  unfold lex_number.f
  have h := number_loop t ht hd t.size k 0 0 (by omega) (by omega) hk (by omega) (by omega)
  rw [List.drop_zero] at h
  exact h
theorem end_1 (s : ByteArray) (hs : s.size < 100000) (i : Nat) (hi : i < s.size) (k : Nat) (hk : s.size + 10 < k) (h : cls (rd (bytesOf s) i) = 1) : lex_end.f k s (i : Int) = some (((i + 1 + run isW ((bytesOf s).drop (i + 1)) : Nat) : Int), 1) := by
  unfold lex_end.f
  rw [if_pos (by omega), if_pos (by omega), class_bt s _ k (by omega), Option.bind_some, if_pos h, wrap_next i (by omega)]
  exact end_loop1 s hs _ k (i + 1) rfl (by omega) (by omega)
theorem end_2 (s : ByteArray) (hs : s.size < 100000) (i : Nat) (hi : i < s.size) (k : Nat) (hk : s.size + 10 < k) (h : cls (rd (bytesOf s) i) = 2) : lex_end.f k s (i : Int) = some (((i + 1 + run isD ((bytesOf s).drop (i + 1)) : Nat) : Int), 2) := by
  unfold lex_end.f
  rw [if_pos (by omega), if_pos (by omega), class_bt s _ k (by omega), Option.bind_some, if_neg (by omega), if_pos h, wrap_next i (by omega)]
  exact end_loop2 s hs _ k (i + 1) rfl (by omega) (by omega)
theorem end_4 (s : ByteArray) (hs : s.size < 100000) (i : Nat) (hi : i < s.size) (k : Nat) (hk : s.size + 10 < k) (h : cls (rd (bytesOf s) i) = 4) :
    lex_end.f k s (i : Int) = some (((if rd (bytesOf s) i = 61 ∧ i + 1 < s.size ∧ rd (bytesOf s) (i + 1 : Nat) = 61 then i + 2 else i + 1 : Nat) : Int), 4) := by
  unfold lex_end.f
  rw [if_pos (by omega), if_pos (by omega), class_bt s _ k (by omega), Option.bind_some, if_neg (by omega), if_neg (by omega), if_pos h, wrap_next i (by omega), bt_of, bt_of]
  by_cases h1 : rd (bytesOf s) i = 61
  · rw [if_pos h1]
    by_cases h2 : i + 1 < s.size
    · rw [if_pos (by omega), if_pos (by omega)]
      by_cases h3 : rd (bytesOf s) (i + 1 : Nat) = 61
      · rw [if_pos h3, if_pos ⟨h1, h2, h3⟩, wrap_next (i + 1) (by omega)]
      · rw [if_neg h3, if_neg (fun h => h3 h.2.2)]
    · rw [if_neg (by omega), if_neg (fun h => h2 h.2.1)]
  · rw [if_neg h1, if_neg (fun h => h1 h.1)]
theorem end_0 (s : ByteArray) (i : Nat) (hi : i < s.size) (k : Nat) (hk : 10 < k) (h1 : cls (rd (bytesOf s) i) ≠ 1) (h2 : cls (rd (bytesOf s) i) ≠ 2) (h4 : cls (rd (bytesOf s) i) ≠ 4) :
    lex_end.f k s (i : Int) = some ((i : Int), 0) := by
  unfold lex_end.f
  rw [if_pos (by omega), if_pos (by omega), class_bt s _ k (by omega), Option.bind_some, if_neg h1, if_neg h2, if_neg h4]
theorem cut_digits (s : ByteArray) (i : Nat) (hi : i < s.size) (h : cls (rd (bytesOf s) i) = 2) : ∀ x ∈ ((bytesOf s).take (i + 1 + run isD ((bytesOf s).drop (i + 1)))).drop i, 48 ≤ x ∧ x ≤ 57 := by
  intro x hx
  rw [List.drop_take, drop_bt s i hi, show i + 1 + run isD ((bytesOf s).drop (i + 1)) - i = run isD ((bytesOf s).drop (i + 1)) + 1 by omega, List.take_succ_cons] at hx
  rcases List.mem_cons.1 hx with rfl | hx
  · exact cls2 _ h
  · exact isD_range x (run_all isD _ x hx)
theorem word_to (s : ByteArray) (i : Nat) (hi : i < s.size) (w : Int × Nat × Int) (h : word s i = some w) : i < w.2.1 ∧ w.2.1 ≤ s.size := by
  have h1 := run_le isW ((bytesOf s).drop (i + 1))
  have h2 := run_le isD ((bytesOf s).drop (i + 1))
  rw [List.length_drop, bytesOf_length] at h1 h2
  unfold word at h
  split at h
  · obtain rfl := Option.some.inj h
    exact ⟨by show i < i + 1 + _; omega, by show i + 1 + _ ≤ _; omega⟩
  · split at h
    · obtain ⟨n, _, rfl⟩ := Option.map_eq_some_iff.1 h
      exact ⟨by show i < i + 1 + _; omega, by show i + 1 + _ ≤ _; omega⟩
    · split at h
      · obtain rfl := Option.some.inj h
        by_cases hc : rd (bytesOf s) i = 61 ∧ i + 1 < s.size ∧ rd (bytesOf s) (i + 1 : Nat) = 61
        · simp only [if_pos hc]
          exact ⟨by omega, by omega⟩
        · simp only [if_neg hc]
          exact ⟨by omega, by omega⟩
      · cases h
theorem lx_end (s : ByteArray) (f : Nat) (acc : List S33) (i : Nat) (h : ¬ i < s.size) : lx s (f + 1) acc i = (acc ++ [(⟨0, (s.size : Int), 0, (⟨#[]⟩ : ByteArray)⟩ : S33)], 0, 0) := by rw [lx, if_neg h]
theorem lx_bad (s : ByteArray) (f : Nat) (acc : List S33) (i : Nat) (h : i < s.size) (hw : word s i = none) : lx s (f + 1) acc i = ([], 180, (i : Int)) := by rw [lx, if_pos h, hw]
theorem lx_go (s : ByteArray) (f : Nat) (acc : List S33) (i : Nat) (h : i < s.size) (w : Int × Nat × Int) (hw : word s i = some w) :
    lx s (f + 1) acc i = lx s f (acc ++ [(⟨w.1, (i : Int), w.2.2, s.extract i w.2.1⟩ : S33)]) (w.2.1 + sk false ((bytesOf s).drop w.2.1)) := by rw [lx, if_pos h, hw]
theorem sk_next (s : ByteArray) (i : Nat) (h : i ≤ s.size) : i + sk false ((bytesOf s).drop i) ≤ s.size := by
  have := sk_le false ((bytesOf s).drop i)
  rw [List.length_drop, bytesOf_length] at this
  omega
theorem Lex_loop (s : ByteArray) (hs : s.size ≤ 32768) (f : Nat) : ∀ (k : Nat) (acc : List S33) (i : Nat), i ≤ s.size → s.size - i < f → acc.length ≤ i → 4 * s.size + 100 + f ≤ k →
    lex_Lex.l0 k s acc (i : Int) = some (lx s f acc i) := by
  induction f with
  | zero => intro k acc i hi hf; omega
  | succ f ih =>
    intro k acc i hi hf ha hk
    obtain ⟨k, rfl⟩ : ∃ m, k = m + 1 := ⟨k - 1, by omega⟩
    simp only [lex_Lex.l0]
    by_cases hlt : i < s.size
    · rw [if_pos (by omega)]
      have hgo : ∀ w, word s i = some w → lex_Lex.l0 k s (acc ++ [(⟨w.1, (i : Int), w.2.2, s.extract i w.2.1⟩ : S33)]) ((w.2.1 + sk false ((bytesOf s).drop w.2.1) : Nat) : Int) = some (lx s (f + 1) acc i) := by
        intro w hw
        have ht := word_to s i hlt w hw
        have hn := sk_next s w.2.1 ht.2
        rw [lx_go s f acc i hlt w hw]
        exact ih k _ _ hn (by omega) (by rw [List.length_append]; simp; omega) (by omega)
      have hskip : ∀ j : Nat, j ≤ s.size → lex_skip.f k s (j : Int) = some ((j + sk false ((bytesOf s).drop j) : Nat) : Int) := fun j hj => skip_f s (by omega) j hj k (by omega)
      by_cases h1 : cls (rd (bytesOf s) i) = 1
      · have hw : word s i = some (if kept (s.extract i (i + 1 + run isW ((bytesOf s).drop (i + 1)))).toList then 3 else 1, i + 1 + run isW ((bytesOf s).drop (i + 1)), 0) := by unfold word; rw [if_pos h1]
        have ht := word_to s i hlt _ hw
        have hg := hgo _ hw
        dsimp only at ht hg
        rw [end_1 s (by omega) i hlt k (by omega) h1, Option.bind_some]
        dsimp only
        generalize i + 1 + run isW ((bytesOf s).drop (i + 1)) = z at ht hg ⊢
        rw [if_pos (by omega), if_pos (by omega), if_pos (by omega), if_pos rfl, Int.toNat_natCast, Int.toNat_natCast, kept_f _ k (by omega), Option.bind_some, hskip z ht.2, Option.bind_some]
        by_cases hk1 : kept (s.extract i z).toList = true
        · rw [if_pos hk1] at hg ⊢
          rw [if_neg (by omega), if_pos (by omega)]
          exact hg
        · rw [if_neg hk1] at hg ⊢
          rw [if_neg (by omega), if_pos (by omega)]
          exact hg
      · by_cases h2 : cls (rd (bytesOf s) i) = 2
        · have hr := run_le isD ((bytesOf s).drop (i + 1))
          rw [List.length_drop, bytesOf_length] at hr
          have hcd := cut_digits s i hlt h2
          have hwd : word s i = (num 0 (((bytesOf s).take (i + 1 + run isD ((bytesOf s).drop (i + 1)))).drop i)).map fun n => (2, i + 1 + run isD ((bytesOf s).drop (i + 1)), n) := by unfold word; rw [if_neg h1, if_pos h2]
          rw [end_2 s (by omega) i hlt k (by omega) h2, Option.bind_some]
          dsimp only
          have hz1 : i < i + 1 + run isD ((bytesOf s).drop (i + 1)) := by omega
          have hz2 : i + 1 + run isD ((bytesOf s).drop (i + 1)) ≤ s.size := by omega
          generalize i + 1 + run isD ((bytesOf s).drop (i + 1)) = z at hwd hcd hz1 hz2 ⊢
          have hxb : bytesOf (s.extract i z) = ((bytesOf s).take z).drop i := bytesOf_extract s i z
          have hxz : (s.extract i z).size ≤ s.size := by rw [size_of, hxb, List.length_drop, List.length_take, bytesOf_length]; omega
          have hnum := number_f (s.extract i z) (by omega) (by rw [hxb]; exact hcd) k (by omega)
          rw [if_pos (by omega), if_pos (by omega), if_pos (by omega), if_neg (by omega), if_pos rfl, Int.toNat_natCast, Int.toNat_natCast, hnum, Option.bind_some, hxb]
          cases hn : num 0 (((bytesOf s).take z).drop i) with
          | none =>
            rw [hn] at hwd
            rw [lx_bad s f acc i hlt hwd]
            rfl
          | some m =>
            rw [hn] at hwd
            have hg := hgo _ hwd
            simp only [numV]
            dsimp only at hg
            rw [if_pos trivial, if_pos (by omega), hskip z hz2, Option.bind_some]
            exact hg
        · by_cases h4 : cls (rd (bytesOf s) i) = 4
          · have hw : word s i = some (4, if rd (bytesOf s) i = 61 ∧ i + 1 < s.size ∧ rd (bytesOf s) (i + 1 : Nat) = 61 then i + 2 else i + 1, 0) := by unfold word; rw [if_neg h1, if_neg h2, if_pos h4]
            have ht := word_to s i hlt _ hw
            have hg := hgo _ hw
            rw [end_4 s (by omega) i hlt k (by omega) h4, Option.bind_some]
            dsimp only at ht hg ⊢
            generalize (if rd (bytesOf s) i = 61 ∧ i + 1 < s.size ∧ rd (bytesOf s) (i + 1 : Nat) = 61 then i + 2 else i + 1) = z at ht hg ⊢
            rw [if_pos (by omega), if_pos (by omega), if_pos (by omega), if_neg (by omega), if_neg (by omega), if_neg (by omega), if_pos (by omega), hskip z ht.2, Option.bind_some, Int.toNat_natCast, Int.toNat_natCast]
            exact hg
          · have hw : word s i = none := by unfold word; rw [if_neg h1, if_neg h2, if_neg h4]
            rw [end_0 s i hlt k (by omega) h1 h2 h4, Option.bind_some, lx_bad s f acc i hlt hw]
            dsimp only
            rw [if_pos (by omega), if_pos (by omega), if_pos (by omega), if_neg (by omega), if_neg (by omega), if_pos rfl]
    · rw [if_neg (by omega), lx_end s f acc i hlt, if_pos (by omega)]
theorem Lex_f (s : ByteArray) (hs : s.size ≤ 32768) (k : Nat) (hk : 5 * s.size + 200 ≤ k) : lex_Lex.f k s = some (lx s (s.size + 1) [] (sk false (bytesOf s))) := by
  unfold lex_Lex.f
  have h := skip_f s (by omega) 0 (by omega) k (by omega)
  have hn := sk_next s 0 (by omega)
  rw [Nat.zero_add, List.drop_zero, show ((0 : Nat) : Int) = 0 from rfl] at h
  rw [Nat.zero_add, List.drop_zero] at hn
  rw [if_neg (by omega), h, Option.bind_some]
  exact Lex_loop s hs (s.size + 1) k [] _ hn (by omega) (by simp) (by omega)
theorem refKept_loop (s : ByteArray) (L : List ByteArray) (hL : L.length < 1000) (d : Nat) : ∀ (k i : Nat), L.length - i = d → d < k →
    keywayref18_Kept.l0 k s L (i : Int) = some ((L.drop i).any fun w => w.toList == s.toList) := by
  induction d with
  | zero =>
    intro k i hd hk
    obtain ⟨k, rfl⟩ : ∃ m, k = m + 1 := ⟨k - 1, by omega⟩
    simp only [keywayref18_Kept.l0]
    rw [if_neg (by omega), List.drop_of_length_le (by omega)]
    rfl
  | succ d ih =>
    intro k i hd hk
    obtain ⟨k, rfl⟩ : ∃ m, k = m + 1 := ⟨k - 1, by omega⟩
    have hi : i < L.length := by omega
    have hr : rdOf ByteArray.empty L (i : Int) = L[i] := by
      unfold rdOf
      rw [Int.toNat_natCast, List.getD_eq_getElem?_getD, List.getElem?_eq_getElem hi]; rfl
    simp only [keywayref18_Kept.l0]
    rw [if_pos (by omega), if_pos (by omega), hr, List.drop_eq_getElem_cons hi, List.any_cons]
    by_cases h : L[i].toList = s.toList
    · rw [if_pos h, show (L[i].toList == s.toList) = true from by rw [beq_iff_eq]; exact h, Bool.true_or]
    · have e : wrap64 ((i : Int) + 1) = ((i + 1 : Nat) : Int) := by rw [wrap64_of (by omega) (by omega)]; omega
      rw [if_neg h, e, ih k (i + 1) (by omega) (by omega), show (L[i].toList == s.toList) = false from by rw [beq_eq_false_iff_ne]; exact h, Bool.false_or]
theorem lit_list (l : List UInt8) : (⟨l.toArray⟩ : ByteArray).toList = l := by rw [ByteArray.toList_eq]
theorem refKept_f (s : ByteArray) (k : Nat) (hk : 20 ≤ k) : keywayref18_Kept.f k s = some (kept s.toList) := by
  unfold keywayref18_Kept.f keywayref18_Words.f
  rw [Option.bind_some]
  have h := refKept_loop s [(⟨#[103, 108, 111, 98, 97, 108]⟩ : ByteArray), (⟨#[102, 105, 101, 108, 100]⟩ : ByteArray), (⟨#[102, 110]⟩ : ByteArray), (⟨#[118, 97, 114]⟩ : ByteArray), (⟨#[105, 110, 116]⟩ : ByteArray), (⟨#[114, 101, 102]⟩ : ByteArray), (⟨#[102, 117, 110]⟩ : ByteArray), (⟨#[105, 102]⟩ : ByteArray), (⟨#[101, 108, 115, 101]⟩ : ByteArray), (⟨#[119, 104, 105, 108, 101]⟩ : ByteArray), (⟨#[108, 111, 99, 107]⟩ : ByteArray), (⟨#[117, 110, 108, 111, 99, 107]⟩ : ByteArray), (⟨#[115, 112, 97, 119, 110]⟩ : ByteArray), (⟨#[114, 101, 116, 117, 114, 110]⟩ : ByteArray), (⟨#[115, 107, 105, 112]⟩ : ByteArray), (⟨#[110, 101, 119]⟩ : ByteArray), (⟨#[110, 117, 108, 108]⟩ : ByteArray)] (by decide) 17 k 0 (by decide) (by omega)
  rw [show ((0 : Nat) : Int) = 0 from rfl] at h
  rw [h, List.drop_zero]
  simp only [List.any_cons, List.any_nil, ByteArray.toList_eq, kept]
/-- A letter, a digit. -/
def ltr (c : Int) : Int := if cls c = 1 then 1 else if cls c = 2 then 2 else 0
theorem letter_all : ∀ c : Nat, c < 256 → keywayref18_letter.f 6 (c : Int) = some (ltr (c : Int)) := by decide +kernel
theorem letter_f (c : Int) (h0 : 0 ≤ c) (h1 : c < 256) (k : Nat) (hk : 6 ≤ k) : keywayref18_letter.f k c = some (ltr c) := by
  obtain ⟨n, rfl⟩ := Int.eq_ofNat_of_zero_le h0
  exact at_rounds (keywayref18_letter.mono _) hk (letter_all n (by omega))
theorem letter_bt (s : ByteArray) (i : Int) (k : Nat) (hk : 6 ≤ k) : keywayref18_letter.f k (bt s i) = some (ltr (rd (bytesOf s) i)) := by
  have h := (bytesOf_ab s).rd_ i
  rw [bt_of]
  exact letter_f _ h.1 h.2 k hk
/-! ### the reference's words -/
theorem refSkip_loop (s : ByteArray) (hs : s.size < 100000) (d : Nat) : ∀ (k i : Nat) (nt : Bool), s.size - i = d → i ≤ s.size → 2 * d + 5 < k →
    keywayref18_skip.l0 k s (i : Int) nt = some ((i + sk nt ((bytesOf s).drop i) : Nat) : Int) := by
  have hsz := bytesOf_length s
  induction d with
  | zero =>
    intro k i nt hd hi hk
    obtain ⟨k, rfl⟩ : ∃ m, k = m + 1 := ⟨k - 1, by omega⟩
    simp only [keywayref18_skip.l0]
    rw [if_neg (by omega), List.drop_of_length_le (by omega)]
    cases nt <;> rfl
  | succ d ih =>
    intro k i nt hd hi hk
    obtain ⟨k, rfl⟩ : ∃ m, k = m + 1 := ⟨k - 1, by omega⟩
    have hdr := drop_bt s i (by omega)
    have e := wrap_next i (by omega)
    have hj : ∀ c, keywayref18_skip.j1 k s (i : Int) nt c true = some ((i + (1 + sk nt ((bytesOf s).drop (i + 1))) : Nat) : Int) := by
      intro c
      obtain ⟨k, rfl⟩ : ∃ m, k = m + 1 := ⟨k - 1, by omega⟩
      simp only [keywayref18_skip.j1]
      rw [if_pos trivial, e, ih k (i + 1) nt (by omega) (by omega) (by omega)]
      congr 1
      omega
    simp only [keywayref18_skip.l0]
    rw [if_pos (by omega), if_pos (by omega), bt_of, hdr, sk, e]
    by_cases h10 : rd (bytesOf s) i = 10
    · rw [if_pos h10, if_pos h10, ih k (i + 1) false (by omega) (by omega) (by omega)]
      congr 1
      omega
    · rw [if_neg h10, if_neg h10]
      by_cases hn : nt = true
      · rw [if_pos hn, if_pos (.inl hn)]
        exact hj _
      · rw [if_neg hn]
        by_cases h32 : rd (bytesOf s) i = 32
        · rw [if_pos h32, if_pos (.inr (.inl h32))]
          exact hj _
        · rw [if_neg h32]
          by_cases h9 : rd (bytesOf s) i = 9
          · rw [if_pos h9, if_pos (.inr (.inr (.inl h9)))]
            exact hj _
          · rw [if_neg h9]
            by_cases h13 : rd (bytesOf s) i = 13
            · rw [if_pos (.inr (.inr (.inr h13))), show (rd (bytesOf s) i == 13) = true from by rw [beq_iff_eq]; exact h13]
              exact hj _
            · rw [if_neg (fun h => h.elim hn (fun h => h.elim h32 (fun h => h.elim h9 h13))), show (rd (bytesOf s) i == 13) = false from by rw [beq_eq_false_iff_ne]; exact h13]
              obtain ⟨k, rfl⟩ : ∃ m, k = m + 1 := ⟨k - 1, by omega⟩
              simp only [keywayref18_skip.j1]
              rw [if_neg (by simp)]
              by_cases h35 : rd (bytesOf s) i = 35
              · rw [if_pos h35, if_pos h35, e, ih k (i + 1) true (by omega) (by omega) (by omega)]
                congr 1
                omega
              · rw [if_neg h35, if_neg h35]
                rfl
theorem refSkip_f (s : ByteArray) (hs : s.size < 100000) (i : Nat) (hi : i ≤ s.size) (k : Nat) (hk : 2 * s.size + 5 < k) : keywayref18_skip.f k s (i : Int) = some ((i + sk false ((bytesOf s).drop i) : Nat) : Int) := by
  unfold keywayref18_skip.f
  exact refSkip_loop s hs (s.size - i) k i false rfl hi (by omega)
theorem sign_loop (s : ByteArray) (i : Nat) (hs : s.size < 100000) (hi : i < s.size) (L : List ByteArray) (hL : L.length < 1000) (d : Nat) : ∀ (k j : Nat), L.length - j = d → d < k →
    keywayref18_sign.l0 k s (i : Int) L (j : Int) = some (if ((L.drop j).any fun w => w.toList == (s.extract i (i + 1)).toList) = true then (if i + 2 ≤ s.size ∧ (s.extract i (i + 2)).toList = [61, 61] then 2 else 1) else 0) := by
  have e1 := wrap_next i (by omega)
  have e2 : wrap64 ((i : Int) + 2) = ((i + 2 : Nat) : Int) := by rw [wrap64_of (by omega) (by omega)]; omega
  induction d with
  | zero =>
    intro k j hd hk
    obtain ⟨k, rfl⟩ : ∃ m, k = m + 1 := ⟨k - 1, by omega⟩
    simp only [keywayref18_sign.l0]
    rw [if_neg (by omega), List.drop_of_length_le (by omega)]
    rfl
  | succ d ih =>
    intro k j hd hk
    obtain ⟨k, rfl⟩ : ∃ m, k = m + 1 := ⟨k - 1, by omega⟩
    have hj : j < L.length := by omega
    have hr : rdOf ByteArray.empty L (j : Int) = L[j] := by
      unfold rdOf
      rw [Int.toNat_natCast, List.getD_eq_getElem?_getD, List.getElem?_eq_getElem hj]; rfl
    simp only [keywayref18_sign.l0]
    rw [if_pos (by omega), if_pos (by omega), e1, e2, if_pos (by omega), if_pos (by omega), if_pos (by omega), hr, List.drop_eq_getElem_cons hj, List.any_cons, Int.toNat_natCast, Int.toNat_natCast, Int.toNat_natCast]
    by_cases h : (s.extract i (i + 1)).toList = L[j].toList
    · rw [if_pos h, show (L[j].toList == (s.extract i (i + 1)).toList) = true from by rw [beq_iff_eq]; exact h.symm, Bool.true_or, if_pos rfl]
      by_cases h2 : i + 2 ≤ s.size
      · rw [if_pos (by omega), if_pos (by omega)]
        by_cases h3 : (s.extract i (i + 2)).toList = [61, 61]
        · rw [if_pos h3, if_pos ⟨h2, h3⟩]
        · rw [if_neg h3, if_neg (fun h => h3 h.2)]
      · rw [if_neg (by omega), if_neg (fun h => h2 h.1)]
    · rw [if_neg h, wrap_next j (by omega), ih k (j + 1) (by omega) (by omega), show (L[j].toList == (s.extract i (i + 1)).toList) = false from by rw [beq_eq_false_iff_ne]; exact fun e => h e.symm, Bool.false_or]
def signs : List ByteArray := [(⟨#[123]⟩ : ByteArray), (⟨#[125]⟩ : ByteArray), (⟨#[40]⟩ : ByteArray), (⟨#[41]⟩ : ByteArray), (⟨#[59]⟩ : ByteArray), (⟨#[58]⟩ : ByteArray), (⟨#[44]⟩ : ByteArray), (⟨#[46]⟩ : ByteArray), (⟨#[64]⟩ : ByteArray), (⟨#[38]⟩ : ByteArray), (⟨#[42]⟩ : ByteArray), (⟨#[60]⟩ : ByteArray), (⟨#[43]⟩ : ByteArray), (⟨#[45]⟩ : ByteArray), (⟨#[61]⟩ : ByteArray)]
theorem sign_all : ∀ c : Nat, c < 256 → (signs.any fun w => w.toList == [UInt8.ofNat c]) = decide (cls (c : Int) = 4) := by decide +kernel
theorem sign_f (s : ByteArray) (i : Nat) (hs : s.size < 100000) (hi : i < s.size) (k : Nat) (hk : 20 ≤ k) :
    keywayref18_sign.f k s (i : Int) = some (if cls (rd (bytesOf s) i) = 4 then (if rd (bytesOf s) i = 61 ∧ i + 1 < s.size ∧ rd (bytesOf s) (i + 1 : Nat) = 61 then 2 else 1) else 0) := by
  have hsz := bytesOf_length s
  have hb := (bytesOf_ab s).rd_ (i : Int)
  obtain ⟨c, hc⟩ := Int.eq_ofNat_of_zero_le hb.1
  have hx1 : (s.extract i (i + 1)).toList = [UInt8.ofNat c] := by
    rw [toList_is, bytesOf_extract, List.drop_take, drop_bt s i hi, show i + 1 - i = 1 by omega, hc]
    simp only [List.take_succ_cons, List.take_zero, List.map_cons, List.map_nil, UInt8.toNat_ofNat']
    congr 1
    omega
  have hx2 : (i + 2 ≤ s.size ∧ (s.extract i (i + 2)).toList = [61, 61]) ↔ (rd (bytesOf s) i = 61 ∧ i + 1 < s.size ∧ rd (bytesOf s) (i + 1 : Nat) = 61) := by
    rw [toList_is, bytesOf_extract, List.drop_take, show i + 2 - i = 2 by omega]
    by_cases h2 : i + 1 < s.size
    · rw [drop_bt s i hi, drop_bt s (i + 1) h2]
      simp only [List.take_succ_cons, List.take_zero, List.map_cons, List.map_nil, List.cons.injEq, and_true]
      constructor
      · rintro ⟨_, h3, h4⟩; exact ⟨h3, h2, h4⟩
      · rintro ⟨h3, _, h4⟩; exact ⟨by omega, h3, h4⟩
    · constructor
      · rintro ⟨h3, _⟩; omega
      · rintro ⟨_, h3, _⟩; omega
  have h := sign_loop s i hs hi signs (by decide) 15 k 0 (by decide) (by omega)
  rw [List.drop_zero, hx1, sign_all c (by omega), ← hc] at h
  unfold keywayref18_sign.f
  rw [show ((0 : Nat) : Int) = 0 from rfl] at h
  refine h.trans ?_
  by_cases h4 : cls (rd (bytesOf s) i) = 4
  · rw [if_pos (decide_eq_true h4), if_pos h4]
    by_cases h5 : rd (bytesOf s) i = 61 ∧ i + 1 < s.size ∧ rd (bytesOf s) (i + 1 : Nat) = 61
    · rw [if_pos (hx2.2 h5), if_pos h5]
    · rw [if_neg (fun h => h5 (hx2.1 h)), if_neg h5]
  · rw [if_neg (by rw [decide_eq_true_iff]; exact h4), if_neg h4]
/-- What follows a word, in the reference. -/
def Goes (s : ByteArray) (acc : List S33) (i f C : Nat) : Prop := ∀ (kd n : Int) (z k : Nat), i < z → z ≤ s.size → C + 5 * (s.size - z) ≤ k →
  keywayref18_Lex.l0 k s (acc ++ [(⟨kd, (i : Int), n, s.extract i z⟩ : S33)]) ((z + sk false ((bytesOf s).drop z) : Nat) : Int) = some (lx s f (acc ++ [(⟨kd, (i : Int), n, s.extract i z⟩ : S33)]) (z + sk false ((bytesOf s).drop z)))
theorem ref_l1 (s : ByteArray) (hs : s.size ≤ 32768) (acc : List S33) (i f C : Nat) (hC : 6 * s.size + 300 ≤ C) (ha : acc.length ≤ i) (hg : Goes s acc i f C) (d : Nat) : ∀ (j k : Nat), s.size - j = d → j ≤ s.size → i < j + run isW ((bytesOf s).drop j) → i ≤ j →
    C + 5 * (s.size - (j + run isW ((bytesOf s).drop j))) + run isW ((bytesOf s).drop j) + 2 ≤ k →
    keywayref18_Lex.l1 k s acc (j : Int) (i : Int) 4 (i : Int) 0 (⟨#[]⟩ : ByteArray) = some (lx s f (acc ++ [(⟨if kept (s.extract i (j + run isW ((bytesOf s).drop j))).toList then 3 else 1, (i : Int), 0, s.extract i (j + run isW ((bytesOf s).drop j))⟩ : S33)]) (j + run isW ((bytesOf s).drop j) + sk false ((bytesOf s).drop (j + run isW ((bytesOf s).drop j))))) := by
  have hsz := bytesOf_length s
  have hj2 : ∀ z k : Nat, i < z → z ≤ s.size → C + 5 * (s.size - z) + 1 ≤ k → keywayref18_Lex.j2 k s acc (z : Int) (i : Int) 4 (i : Int) 0 (⟨#[]⟩ : ByteArray) = some (lx s f (acc ++ [(⟨if kept (s.extract i z).toList then 3 else 1, (i : Int), 0, s.extract i z⟩ : S33)]) (z + sk false ((bytesOf s).drop z))) := by
    intro z k h1 h2 hk
    obtain ⟨k, rfl⟩ : ∃ m, k = m + 1 := ⟨k - 1, by omega⟩
    simp only [keywayref18_Lex.j2]
    rw [if_pos (by omega), if_pos (by omega), if_pos (by omega), Int.toNat_natCast, Int.toNat_natCast, refKept_f _ k (by omega), Option.bind_some, refSkip_f s (by omega) z h2 k (by omega), Option.bind_some, Option.bind_some]
    by_cases hk1 : kept (s.extract i z).toList = true
    · rw [if_pos hk1, if_pos (by omega), if_pos hk1]
      exact hg 3 0 z k h1 h2 (by omega)
    · rw [if_neg hk1, if_pos (by omega), if_neg hk1]
      exact hg 1 0 z k h1 h2 (by omega)
  induction d with
  | zero =>
    intro j k hd hj hz hij hk
    obtain ⟨k, rfl⟩ : ∃ m, k = m + 1 := ⟨k - 1, by omega⟩
    have hrn : run isW ((bytesOf s).drop j) = 0 := by rw [List.drop_of_length_le (by omega)]; rfl
    rw [hrn, Nat.add_zero] at hz hk ⊢
    simp only [keywayref18_Lex.l1]
    rw [if_neg (by omega)]
    exact hj2 j k hz hj (by omega)
  | succ d ih =>
    intro j k hd hj hz hij hk
    obtain ⟨k, rfl⟩ : ∃ m, k = m + 1 := ⟨k - 1, by omega⟩
    simp only [keywayref18_Lex.l1]
    rw [if_pos (by omega), if_pos (by omega), letter_bt s _ k (by omega), Option.bind_some, wrap_next j (by omega)]
    have hdr := drop_bt s j (by omega)
    unfold ltr
    by_cases hw : isW (rd (bytesOf s) j) = true
    · have hr : run isW ((bytesOf s).drop j) = 1 + run isW ((bytesOf s).drop (j + 1)) := by rw [hdr, run, if_pos hw]
      have hz2 : j + (1 + run isW ((bytesOf s).drop (j + 1))) = j + 1 + run isW ((bytesOf s).drop (j + 1)) := by omega
      rw [hr, hz2] at hz hk ⊢
      have hpos : (if cls (rd (bytesOf s) j) = 1 then 1 else if cls (rd (bytesOf s) j) = 2 then 2 else 0) > (0 : Int) := by
        have hw' : cls (rd (bytesOf s) j) = 1 ∨ cls (rd (bytesOf s) j) = 2 := by unfold isW at hw; simpa using hw
        rcases hw' with h | h2
        · rw [if_pos h]; decide
        · rw [if_neg (by omega), if_pos h2]; decide
      rw [if_pos hpos]
      exact ih (j + 1) k (by omega) (by omega) hz (by omega) (by omega)
    · have hr : run isW ((bytesOf s).drop j) = 0 := by rw [hdr, run, if_neg hw]
      rw [hr, Nat.add_zero] at hz hk ⊢
      have hneg : ¬ (if cls (rd (bytesOf s) j) = 1 then 1 else if cls (rd (bytesOf s) j) = 2 then 2 else 0) > (0 : Int) := by
        have hw' : ¬ (cls (rd (bytesOf s) j) = 1 ∨ cls (rd (bytesOf s) j) = 2) := by
          intro h
          apply hw
          unfold isW
          simpa using h
        rw [if_neg (fun h => hw' (.inl h)), if_neg (fun h => hw' (.inr h))]; decide
      rw [if_neg hneg]
      exact hj2 j k hz hj (by omega)
theorem ref_l2 (s : ByteArray) (hs : s.size ≤ 32768) (acc : List S33) (i f C : Nat) (hC : 6 * s.size + 300 ≤ C) (ha : acc.length ≤ i) (hg : Goes s acc i f C) (d : Nat) : ∀ (j k : Nat) (n : Int), s.size - j = d → j ≤ s.size → i < j + run isD ((bytesOf s).drop j) → i ≤ j → 0 ≤ n → n ≤ 2147483648 →
    C + 5 * (s.size - (j + run isD ((bytesOf s).drop j))) + 2 * run isD ((bytesOf s).drop j) + 2 ≤ k →
    keywayref18_Lex.l2 k s acc (j : Int) (i : Int) 2 (i : Int) n (⟨#[]⟩ : ByteArray) = some (match num n (((bytesOf s).drop j).take (run isD ((bytesOf s).drop j))) with
      | none => (([] : List S33), 180, (i : Int))
      | some m => lx s f (acc ++ [(⟨2, (i : Int), m, s.extract i (j + run isD ((bytesOf s).drop j))⟩ : S33)]) (j + run isD ((bytesOf s).drop j) + sk false ((bytesOf s).drop (j + run isD ((bytesOf s).drop j))))) := by
  have hsz := bytesOf_length s
  have hj4 : ∀ (z k : Nat) (n : Int), i < z → z ≤ s.size → C + 5 * (s.size - z) + 1 ≤ k → keywayref18_Lex.j4 k s acc (z : Int) (i : Int) false 2 (i : Int) n (⟨#[]⟩ : ByteArray) = some (lx s f (acc ++ [(⟨2, (i : Int), n, s.extract i z⟩ : S33)]) (z + sk false ((bytesOf s).drop z))) := by
    intro z k n h1 h2 hk
    obtain ⟨k, rfl⟩ : ∃ m, k = m + 1 := ⟨k - 1, by omega⟩
    simp only [keywayref18_Lex.j4]
    rw [if_neg (by simp), if_pos (by omega), if_pos (by omega), if_pos (by omega), if_pos (by omega), refSkip_f s (by omega) z h2 k (by omega), Option.bind_some, Int.toNat_natCast, Int.toNat_natCast]
    exact hg 2 n z k h1 h2 (by omega)
  induction d with
  | zero =>
    intro j k n hd hj hz hij h0 h1 hk
    obtain ⟨k, rfl⟩ : ∃ m, k = m + 1 := ⟨k - 1, by omega⟩
    have hrn : run isD ((bytesOf s).drop j) = 0 := by rw [List.drop_of_length_le (by omega)]; rfl
    rw [hrn, Nat.add_zero] at hz hk ⊢
    simp only [keywayref18_Lex.l2]
    rw [if_neg (by omega)]
    exact hj4 j k n hz hj (by omega)
  | succ d ih =>
    intro j k n hd hj hz hij h0 h1 hk
    obtain ⟨k, rfl⟩ : ∃ m, k = m + 1 := ⟨k - 1, by omega⟩
    simp only [keywayref18_Lex.l2]
    rw [if_pos (by omega), if_pos (by omega), letter_bt s _ k (by omega), Option.bind_some]
    have hdr := drop_bt s j (by omega)
    unfold ltr
    by_cases hw : isD (rd (bytesOf s) j) = true
    · have h2 : cls (rd (bytesOf s) j) = 2 := by unfold isD at hw; exact beq_iff_eq.1 hw
      have hc := cls2 _ h2
      have hr : run isD ((bytesOf s).drop j) = 1 + run isD ((bytesOf s).drop (j + 1)) := by rw [hdr, run, if_pos hw]
      have hz2 : j + (1 + run isD ((bytesOf s).drop (j + 1))) = j + 1 + run isD ((bytesOf s).drop (j + 1)) := by omega
      have htk : ((bytesOf s).drop j).take (1 + run isD ((bytesOf s).drop (j + 1))) = rd (bytesOf s) j :: ((bytesOf s).drop (j + 1)).take (run isD ((bytesOf s).drop (j + 1))) := by
        rw [hdr, Nat.add_comm, List.take_succ_cons]
      rw [hr] at hz hk ⊢
      rw [htk, num]
      rw [hz2] at hz hk ⊢
      rw [if_neg (by omega), if_pos h2, show ((2 : Int) == 2) = true from rfl]
      obtain ⟨k, rfl⟩ : ∃ m, k = m + 1 := ⟨k - 1, by omega⟩
      simp only [keywayref18_Lex.j4]
      have hm : (rd (bytesOf s) j - 48) % 256 = rd (bytesOf s) j - 48 := by omega
      have e : wrap64 (wrap64 (n * 10) + (rd (bytesOf s) j - 48)) = n * 10 + (rd (bytesOf s) j - 48) := by
        rw [wrap64_of (n := n * 10) (by omega) (by omega), wrap64_of (by omega) (by omega)]
      rw [if_pos trivial, if_pos (by omega), if_pos (by omega), bt_of, hm, e]
      by_cases hgt : n * 10 + (rd (bytesOf s) j - 48) > 2147483648
      · rw [if_pos hgt, if_pos hgt]
      · rw [if_neg hgt, if_neg hgt, wrap_next j (by omega)]
        exact ih (j + 1) k _ (by omega) (by omega) hz (by omega) (by omega) (by omega) (by omega)
    · have hr : run isD ((bytesOf s).drop j) = 0 := by rw [hdr, run, if_neg hw]
      rw [hr, Nat.add_zero] at hz hk ⊢
      rw [List.take_zero]
      have hneg : ((if cls (rd (bytesOf s) j) = 1 then 1 else if cls (rd (bytesOf s) j) = 2 then 2 else 0) == (2 : Int)) = false := by
        unfold isD at hw
        rw [beq_iff_eq] at hw
        by_cases h1 : cls (rd (bytesOf s) j) = 1
        · rw [if_pos h1]; rfl
        · rw [if_neg h1, if_neg hw]; rfl
      rw [hneg]
      exact hj4 j k n hz hj (by omega)
theorem refLex_loop (s : ByteArray) (hs : s.size ≤ 32768) (C : Nat) (hC : 6 * s.size + 300 ≤ C) (f : Nat) : ∀ (k : Nat) (acc : List S33) (i : Nat), i ≤ s.size → s.size - i < f → acc.length ≤ i → C + 5 * (s.size - i) + 1 ≤ k →
    keywayref18_Lex.l0 k s acc (i : Int) = some (lx s f acc i) := by
  have hsz := bytesOf_length s
  induction f with
  | zero => intro k acc i hi hf; omega
  | succ f ih =>
    intro k acc i hi hf ha hk
    obtain ⟨k, rfl⟩ : ∃ m, k = m + 1 := ⟨k - 1, by omega⟩
    simp only [keywayref18_Lex.l0]
    by_cases hlt : i < s.size
    · have hg : Goes s acc i f (C + 1) := by
        intro kd n z k' h1 h2 hk'
        have hn := sk_next s z h2
        exact ih k' _ _ hn (by omega) (by rw [List.length_append]; simp; omega) (by omega)
      have hdr := drop_bt s i hlt
      rw [if_pos (by omega), if_pos (by omega), letter_bt s _ k (by omega), Option.bind_some]
      unfold ltr
      by_cases h1 : cls (rd (bytesOf s) i) = 1
      · rw [if_pos h1, if_pos rfl]
        have hw : isW (rd (bytesOf s) i) = true := by unfold isW; rw [h1]; rfl
        have hr : run isW ((bytesOf s).drop i) = 1 + run isW ((bytesOf s).drop (i + 1)) := by rw [hdr, run, if_pos hw]
        have hle := run_le isW ((bytesOf s).drop i)
        rw [List.length_drop, hsz] at hle
        have h := ref_l1 s hs acc i f (C + 1) (by omega) ha hg _ i k rfl hi (by omega) (by omega) (by omega)
        rw [h]
        have hwd : word s i = some (if kept (s.extract i (i + run isW ((bytesOf s).drop i))).toList then 3 else 1, i + run isW ((bytesOf s).drop i), 0) := by
          unfold word
          rw [if_pos h1, hr, show i + (1 + run isW ((bytesOf s).drop (i + 1))) = i + 1 + run isW ((bytesOf s).drop (i + 1)) by omega]
        rw [lx_go s f acc i hlt _ hwd]
      · by_cases h2 : cls (rd (bytesOf s) i) = 2
        · rw [if_neg h1, if_pos h2, if_neg (by omega), if_pos rfl]
          have hw : isD (rd (bytesOf s) i) = true := by unfold isD; rw [h2]; rfl
          have hr : run isD ((bytesOf s).drop i) = 1 + run isD ((bytesOf s).drop (i + 1)) := by rw [hdr, run, if_pos hw]
          have hle := run_le isD ((bytesOf s).drop i)
          rw [List.length_drop, hsz] at hle
          have h := ref_l2 s hs acc i f (C + 1) (by omega) ha hg _ i k 0 rfl hi (by omega) (by omega) (by omega) (by omega) (by omega)
          rw [h]
          have hwd : word s i = (num 0 (((bytesOf s).drop i).take (run isD ((bytesOf s).drop i)))).map fun n => (2, i + run isD ((bytesOf s).drop i), n) := by
            unfold word
            rw [if_neg h1, if_pos h2, List.drop_take, hr, show i + (1 + run isD ((bytesOf s).drop (i + 1))) = i + 1 + run isD ((bytesOf s).drop (i + 1)) by omega, show i + 1 + run isD ((bytesOf s).drop (i + 1)) - i = 1 + run isD ((bytesOf s).drop (i + 1)) by omega]
          cases hn : num 0 (((bytesOf s).drop i).take (run isD ((bytesOf s).drop i))) with
          | none =>
            rw [hn] at hwd
            rw [lx_bad s f acc i hlt hwd]
          | some m =>
            rw [hn] at hwd
            rw [lx_go s f acc i hlt _ hwd]
        · rw [if_neg h1, if_neg h2, if_neg (by omega), if_neg (by omega), sign_f s i (by omega) hlt k (by omega), Option.bind_some]
          by_cases h4 : cls (rd (bytesOf s) i) = 4
          · rw [if_pos h4]
            have hwd : word s i = some (4, if rd (bytesOf s) i = 61 ∧ i + 1 < s.size ∧ rd (bytesOf s) (i + 1 : Nat) = 61 then i + 2 else i + 1, 0) := by unfold word; rw [if_neg h1, if_neg h2, if_pos h4]
            rw [lx_go s f acc i hlt _ hwd]
            dsimp only
            by_cases h5 : rd (bytesOf s) i = 61 ∧ i + 1 < s.size ∧ rd (bytesOf s) (i + 1 : Nat) = 61
            · have h6 := h5.2.1
              have hA : (i : Int) ≤ ((i + 2 : Nat) : Int) := by omega
              have hB : ((i + 2 : Nat) : Int) ≤ (s.size : Int) := by omega
              have hLn : acc.length < 3518437208883 := by omega
              have hS := refSkip_f s (by omega) (i + 2) (by omega) k (by omega)
              have hG := hg 4 0 (i + 2) k (by omega) (by omega) (by omega)
              have e2 : wrap64 ((i : Int) + 2) = ((i + 2 : Nat) : Int) := by rw [wrap64_of (by omega) (by omega)]; omega
              rw [if_pos h5, if_pos h5, if_neg (show ¬ ((2 : Int) = 0) by decide), e2, if_pos hA, if_pos hB, if_pos hLn, hS, Option.bind_some, Int.toNat_natCast, Int.toNat_natCast]
              exact hG
            · have hA : (i : Int) ≤ ((i + 1 : Nat) : Int) := by omega
              have hB : ((i + 1 : Nat) : Int) ≤ (s.size : Int) := by omega
              have hLn : acc.length < 3518437208883 := by omega
              have hS := refSkip_f s (by omega) (i + 1) (by omega) k (by omega)
              have hG := hg 4 0 (i + 1) k (by omega) (by omega) (by omega)
              rw [if_neg h5, if_neg h5, if_neg (show ¬ ((1 : Int) = 0) by decide), wrap_next i (by omega), if_pos hA, if_pos hB, if_pos hLn, hS, Option.bind_some, Int.toNat_natCast, Int.toNat_natCast]
              exact hG
          · have hwd : word s i = none := by unfold word; rw [if_neg h1, if_neg h2, if_neg h4]
            rw [if_neg h4, if_pos rfl, lx_bad s f acc i hlt hwd]
    · rw [if_neg (by omega), lx_end s f acc i hlt, if_pos (by omega)]
theorem refLex_f (s : ByteArray) (hs : s.size ≤ 32768) (k : Nat) (hk : 12 * s.size + 400 ≤ k) : keywayref18_Lex.f k s = some (lx s (s.size + 1) [] (sk false (bytesOf s))) := by
  unfold keywayref18_Lex.f
  have h := refSkip_f s (by omega) 0 (by omega) k (by omega)
  have hn := sk_next s 0 (by omega)
  rw [Nat.zero_add, List.drop_zero, show ((0 : Nat) : Int) = 0 from rfl] at h
  rw [Nat.zero_add, List.drop_zero] at hn
  rw [if_neg (by omega), h, Option.bind_some]
  exact refLex_loop s hs (6 * s.size + 300) (Nat.le_refl _) (s.size + 1) k [] _ hn (by omega) (by simp) (by omega)
theorem awake18 : keywaylaw18_awake.f 60 = some true := by decide +kernel
theorem few_f (s : ByteArray) : ∃ t, keywaylaw18_few.f s = some t ∧ t.size ≤ 2000 := by
  have hm : 0 ≤ mn (s.size : Int) 2000 ∧ mn (s.size : Int) 2000 ≤ (s.size : Int) ∧ mn (s.size : Int) 2000 ≤ 2000 := by unfold mn; omega
  refine ⟨s.extract 0 (mn (s.size : Int) 2000).toNat, ?_, ?_⟩
  · unfold keywaylaw18_few.f
    rw [if_pos hm.1, if_pos hm.2.1]
  · rw [size_of, bytesOf_extract, List.drop_zero, List.length_take]
    omega
theorem same_loop (l : List S33) (hl : l.length < 1000000) (d : Nat) : ∀ (k i : Nat), l.length - i = d → d < k → keywaylaw18_same.l0 k l l (i : Int) = some true := by
  induction d with
  | zero =>
    intro k i hd hk
    obtain ⟨k, rfl⟩ : ∃ m, k = m + 1 := ⟨k - 1, by omega⟩
    simp only [keywaylaw18_same.l0]
    rw [if_neg (by omega)]
  | succ d ih =>
    intro k i hd hk
    obtain ⟨k, rfl⟩ : ∃ m, k = m + 1 := ⟨k - 1, by omega⟩
    simp only [keywaylaw18_same.l0]
    rw [if_pos (by omega), if_pos (by omega), if_pos (by omega), if_neg (by simp), wrap_next i (by omega)]
    · exact ih k (i + 1) (by omega) (by omega)
theorem lx_len (s : ByteArray) (f : Nat) : ∀ (acc : List S33) (i : Nat), (lx s f acc i).1.length ≤ acc.length + f := by
  induction f with
  | zero => intro acc i; simp [lx]
  | succ f ih =>
    intro acc i
    by_cases h : i < s.size
    · cases hw : word s i with
      | none => rw [lx_bad s f acc i h hw]; simp
      | some w =>
        rw [lx_go s f acc i h w hw]
        have := ih (acc ++ [(⟨w.1, (i : Int), w.2.2, s.extract i w.2.1⟩ : S33)]) (w.2.1 + sk false ((bytesOf s).drop w.2.1))
        rw [List.length_append, List.length_singleton] at this
        omega
    · rw [lx_end s f acc i h]; simp
theorem LexWords : keywaylaw18_LexWords.Pure := by
  intro s hs
  obtain ⟨t, ht, hz⟩ := few_f s
  obtain ⟨k, hk⟩ : ∃ k : Nat, 100000 ≤ k := ⟨100000, Nat.le_refl _⟩
  refine ⟨k, ?_⟩
  unfold keywaylaw18_LexWords.f
  rw [ht, Option.bind_some, Lex_f t (by omega) k (by omega), Option.bind_some, Option.bind_some, refLex_f t (by omega) k (by omega), Option.bind_some, at_rounds keywaylaw18_awake.mono (show 60 ≤ k by omega) awake18, Option.bind_some, if_pos rfl, if_pos (by simp)]
  have hl := lx_len t (t.size + 1) [] (sk false (bytesOf t))
  rw [List.length_nil] at hl
  generalize (lx t (t.size + 1) [] (sk false (bytesOf t))).1 = l at hl ⊢
  unfold keywaylaw18_same.f
  have h := same_loop l (by omega) l.length k 0 (by omega) (by omega)
  rw [show ((0 : Nat) : Int) = 0 from rfl] at h
  rw [if_pos rfl, h, Option.bind_some]
end Go.Proofs.Ytlcklkjnanhnmaa.Pure

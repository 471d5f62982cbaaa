/- Which texts are kept, and which may be names: for every text. -/
import Derived.Test.YtlcklkjnanhnmaaQLEXx7
import Derived.Test.YtlcklkjnanhnmaaLib
namespace Go.Proofs.Ytlcklkjnanhnmaa.Pure
open Go.RowKit Go.Proofs.Ytlcklkjnanhnmaa.QLEX Go.Proofs.YtlcklkjnanhnmaaW.PrintWords Go.Proofs.YtlcklkjnanhnmaaW.PrintLast Go.Proofs.YtlcklkjnanhnmaaW.PrintMore Go.Proofs.Ytlcklkjnanhnmaa.Lib
/-! ### bytes: what they are -/
def cls (c : Int) : Int :=
  if (97 ≤ c ∧ c ≤ 122) ∨ (65 ≤ c ∧ c ≤ 90) ∨ c = 95 then 1 else if 48 ≤ c ∧ c ≤ 57 then 2 else if c = 32 ∨ c = 9 ∨ c = 10 ∨ c = 13 then 3
  else if c = 123 ∨ c = 125 ∨ c = 40 ∨ c = 41 ∨ c = 59 ∨ c = 58 ∨ c = 44 ∨ c = 61 ∨ c = 46 ∨ c = 64 ∨ c = 38 ∨ c = 42 ∨ c = 60 ∨ c = 43 ∨ c = 45 then 4 else 0
theorem class_all : ∀ c : Nat, c < 256 → lex_class.f 6 (c : Int) = some (cls (c : Int)) := by decide +kernel
theorem class_f (c : Int) (h0 : 0 ≤ c) (h1 : c < 256) (k : Nat) (hk : 6 ≤ k) : lex_class.f k c = some (cls c) := by
  obtain ⟨n, rfl⟩ := Int.eq_ofNat_of_zero_le h0
  exact at_rounds (lex_class.mono _) hk (class_all n (by omega))
theorem class_bt (s : ByteArray) (i : Int) (k : Nat) (hk : 6 ≤ k) : lex_class.f k (bt s i) = some (cls (rd (bytesOf s) i)) := by
  have h := (bytesOf_ab s).rd_ i
  rw [bt_of]
  exact class_f _ h.1 h.2 k hk
/-- The kept names. -/
def kept (l : List UInt8) : Bool := [[103, 108, 111, 98, 97, 108], [102, 105, 101, 108, 100], [102, 110], [118, 97, 114], [105, 110, 116], [114, 101, 102], [102, 117, 110], [105, 102], [101, 108, 115, 101], [119, 104, 105, 108, 101], [108, 111, 99, 107], [117, 110, 108, 111, 99, 107], [115, 112, 97, 119, 110], [114, 101, 116, 117, 114, 110], [115, 107, 105, 112], [110, 101, 119], [110, 117, 108, 108]].any fun w => w == l
theorem kept_f (s : ByteArray) (k : Nat) (hk : 1 ≤ k) : lex_Kept.f k s = some (kept s.toList) := by
  obtain ⟨k, rfl⟩ : ∃ m, k = m + 1 := ⟨k - 1, by omega⟩
  unfold lex_Kept.f kept
  simp only [lex_Kept.j0]
  generalize s.toList = l
  by_cases h1 : l = [103, 108, 111, 98, 97, 108]
  · subst h1; rfl
  rw [if_neg h1]
  by_cases h2 : l = [102, 105, 101, 108, 100]
  · subst h2; rfl
  rw [if_neg h2]
  by_cases h3 : l = [102, 110]
  · subst h3; rfl
  rw [if_neg h3]
  by_cases h4 : l = [118, 97, 114]
  · subst h4; rfl
  rw [if_neg h4]
  by_cases h5 : l = [105, 110, 116]
  · subst h5; rfl
  rw [if_neg h5]
  by_cases h6 : l = [114, 101, 102]
  · subst h6; rfl
  rw [if_neg h6]
  by_cases h7 : l = [102, 117, 110]
  · subst h7; rfl
  rw [if_neg (by rw [beq_iff_eq]; exact h7)]
  by_cases h8 : l = [105, 102]
  · subst h8; rfl
  rw [if_neg h8]
  by_cases h9 : l = [101, 108, 115, 101]
  · subst h9; rfl
  rw [if_neg h9]
  by_cases h10 : l = [119, 104, 105, 108, 101]
  · subst h10; rfl
  rw [if_neg h10]
  by_cases h11 : l = [108, 111, 99, 107]
  · subst h11; rfl
  rw [if_neg h11]
  by_cases h12 : l = [117, 110, 108, 111, 99, 107]
  · subst h12; rfl
  rw [if_neg h12]
  by_cases h13 : l = [115, 112, 97, 119, 110]
  · subst h13; rfl
  rw [if_neg h13]
  by_cases h14 : l = [114, 101, 116, 117, 114, 110]
  · subst h14; rfl
  rw [if_neg h14]
  by_cases h15 : l = [115, 107, 105, 112]
  · subst h15; rfl
  rw [if_neg h15]
  by_cases h16 : l = [110, 101, 119]
  · subst h16; rfl
  rw [if_neg h16]
  by_cases h17 : l = [110, 117, 108, 108]
  · subst h17; rfl
  rw [if_neg h17]
  have q : ∀ a : List UInt8, l ≠ a → (a == l) = false := fun a h => by rw [beq_eq_false_iff_ne]; exact fun e => h e.symm
  simp only [List.any_cons, List.any_nil, q _ h1, q _ h2, q _ h3, q _ h4, q _ h5, q _ h6, q _ h7, q _ h8, q _ h9, q _ h10, q _ h11, q _ h12, q _ h13, q _ h14, q _ h15, q _ h16, q _ h17, Bool.or_false]
theorem refKept_loop (s : ByteArray) (L : List ByteArray) (hL : L.length < 1000) (d : Nat) : ∀ (k i : Nat), L.length - i = d → d < k →
    keywayref18_Kept.l0 k s L (i : Int) = some ((L.drop i).any fun w => w.toList == s.toList) := by
  induction d with
  | zero =>
    intro k i hd hk
    obtain ⟨k, rfl⟩ : ∃ m, k = m + 1 := ⟨k - 1, by omega⟩
    simp only [keywayref18_Kept.l0]
    rw [if_neg (by omega), List.drop_of_length_le (by omega)]
    rfl
  | succ d ih =>
    intro k i hd hk
    obtain ⟨k, rfl⟩ : ∃ m, k = m + 1 := ⟨k - 1, by omega⟩
    have hi : i < L.length := by omega
    have hr : rdOf ByteArray.empty L (i : Int) = L[i] := by
      unfold rdOf
      rw [Int.toNat_natCast, List.getD_eq_getElem?_getD, List.getElem?_eq_getElem hi]; rfl
    simp only [keywayref18_Kept.l0]
    rw [if_pos (by omega), if_pos (by omega), hr, List.drop_eq_getElem_cons hi, List.any_cons]
    by_cases h : L[i].toList = s.toList
    · rw [if_pos h, show (L[i].toList == s.toList) = true from by rw [beq_iff_eq]; exact h, Bool.true_or]
    · have e : wrap64 ((i : Int) + 1) = ((i + 1 : Nat) : Int) := by rw [wrap64_of (by omega) (by omega)]; omega
      rw [if_neg h, e, ih k (i + 1) (by omega) (by omega), show (L[i].toList == s.toList) = false from by rw [beq_eq_false_iff_ne]; exact h, Bool.false_or]
theorem lit_list (l : List UInt8) : (⟨l.toArray⟩ : ByteArray).toList = l := by rw [ByteArray.toList_eq]
theorem refKept_f (s : ByteArray) (k : Nat) (hk : 20 ≤ k) : keywayref18_Kept.f k s = some (kept s.toList) := by
  unfold keywayref18_Kept.f keywayref18_Words.f
  rw [Option.bind_some]
  have h := refKept_loop s [(⟨#[103, 108, 111, 98, 97, 108]⟩ : ByteArray), (⟨#[102, 105, 101, 108, 100]⟩ : ByteArray), (⟨#[102, 110]⟩ : ByteArray), (⟨#[118, 97, 114]⟩ : ByteArray), (⟨#[105, 110, 116]⟩ : ByteArray), (⟨#[114, 101, 102]⟩ : ByteArray), (⟨#[102, 117, 110]⟩ : ByteArray), (⟨#[105, 102]⟩ : ByteArray), (⟨#[101, 108, 115, 101]⟩ : ByteArray), (⟨#[119, 104, 105, 108, 101]⟩ : ByteArray), (⟨#[108, 111, 99, 107]⟩ : ByteArray), (⟨#[117, 110, 108, 111, 99, 107]⟩ : ByteArray), (⟨#[115, 112, 97, 119, 110]⟩ : ByteArray), (⟨#[114, 101, 116, 117, 114, 110]⟩ : ByteArray), (⟨#[115, 107, 105, 112]⟩ : ByteArray), (⟨#[110, 101, 119]⟩ : ByteArray), (⟨#[110, 117, 108, 108]⟩ : ByteArray)] (by decide) 17 k 0 (by decide) (by omega)
  rw [show ((0 : Nat) : Int) = 0 from rfl] at h
  rw [h, List.drop_zero]
  simp only [List.any_cons, List.any_nil, ByteArray.toList_eq, kept]
/-- A letter, a digit. -/
def ltr (c : Int) : Int := if cls c = 1 then 1 else if cls c = 2 then 2 else 0
theorem letter_all : ∀ c : Nat, c < 256 → keywayref18_letter.f 6 (c : Int) = some (ltr (c : Int)) := by decide +kernel
theorem letter_f (c : Int) (h0 : 0 ≤ c) (h1 : c < 256) (k : Nat) (hk : 6 ≤ k) : keywayref18_letter.f k c = some (ltr c) := by
  obtain ⟨n, rfl⟩ := Int.eq_ofNat_of_zero_le h0
  exact at_rounds (keywayref18_letter.mono _) hk (letter_all n (by omega))
theorem letter_bt (s : ByteArray) (i : Int) (k : Nat) (hk : 6 ≤ k) : keywayref18_letter.f k (bt s i) = some (ltr (rd (bytesOf s) i)) := by
  have h := (bytesOf_ab s).rd_ i
  rw [bt_of]
  exact letter_f _ h.1 h.2 k hk
/-- May bytes from a place on be a name's? -/
def nameB (b : List Int) : Nat → Nat → Bool
  | 0, _ => true
  | d + 1, i => if cls (rd b i) = 1 then nameB b d (i + 1) else if cls (rd b i) = 2 then (if i = 0 then false else nameB b d (i + 1)) else false
def fin (l : List UInt8) : Bool := if l = [] then false else !kept l
theorem fin_f (l : List UInt8) : some (if l = [] then false else !kept l) = some (fin l) := rfl
theorem name_loop (s : ByteArray) (hs : s.size < 100000) (d : Nat) : ∀ (k i : Nat), s.size - i = d → i ≤ s.size → d + 30 < k →
    lex_Name.l0 k s (s.size : Int) (i : Int) = some (nameB (bytesOf s) d i && fin s.toList) := by
  induction d with
  | zero =>
    intro k i hd hi hk
    obtain ⟨k, rfl⟩ : ∃ m, k = m + 1 := ⟨k - 1, by omega⟩
    simp only [lex_Name.l0, nameB]
    rw [if_neg (by omega)]
    rw [Bool.true_and]
    unfold fin
    by_cases h : s.toList = []
    · rw [if_pos h, if_pos h]
    · rw [if_neg h, if_neg h, kept_f s k (by omega), Option.bind_some]
  | succ d ih =>
    intro k i hd hi hk
    obtain ⟨k, rfl⟩ : ∃ m, k = m + 1 := ⟨k - 1, by omega⟩
    have e : wrap64 ((i : Int) + 1) = ((i + 1 : Nat) : Int) := by rw [wrap64_of (by omega) (by omega)]; omega
    have hn := ih k (i + 1) (by omega) (by omega) (by omega)
    simp only [lex_Name.l0]
    rw [nameB, if_pos (by omega), if_pos (by omega), if_pos (by omega), class_bt s _ k (by omega), Option.bind_some, e]
    by_cases h1 : cls (rd (bytesOf s) i) = 1
    · rw [if_pos h1, if_pos h1]; exact hn
    · rw [if_neg h1, if_neg h1]
      by_cases h2 : cls (rd (bytesOf s) i) = 2
      · rw [if_pos h2, if_pos h2]
        by_cases h0 : i = 0
        · rw [if_pos (by omega), if_pos h0]; rfl
        · rw [if_neg (by omega), if_neg h0]; exact hn
      · rw [if_neg h2, if_neg h2]; rfl
theorem refName_loop (s : ByteArray) (hs : s.size < 100000) (d : Nat) : ∀ (k i : Nat), s.size - i = d → i ≤ s.size → d + 30 < k →
    keywayref18_Name.l0 k s (i : Int) = some (nameB (bytesOf s) d i && fin s.toList) := by
  induction d with
  | zero =>
    intro k i hd hi hk
    obtain ⟨k, rfl⟩ : ∃ m, k = m + 1 := ⟨k - 1, by omega⟩
    simp only [keywayref18_Name.l0, nameB]
    rw [if_neg (by omega)]
    rw [Bool.true_and]
    unfold fin
    by_cases h : s.toList = []
    · rw [if_pos h, if_pos h]
    · rw [if_neg h, if_neg h, refKept_f s k (by omega), Option.bind_some]
  | succ d ih =>
    intro k i hd hi hk
    obtain ⟨k, rfl⟩ : ∃ m, k = m + 1 := ⟨k - 1, by omega⟩
    have e : wrap64 ((i : Int) + 1) = ((i + 1 : Nat) : Int) := by rw [wrap64_of (by omega) (by omega)]; omega
    have hn := ih k (i + 1) (by omega) (by omega) (by omega)
    simp only [keywayref18_Name.l0]
    rw [nameB, if_pos (by omega), if_pos (by omega), letter_bt s _ k (by omega), Option.bind_some, e]
    unfold ltr
    by_cases h1 : cls (rd (bytesOf s) i) = 1
    · rw [if_pos h1, if_pos h1, if_neg (by decide), if_neg (by decide)]; exact hn
    · rw [if_neg h1, if_neg h1]
      by_cases h2 : cls (rd (bytesOf s) i) = 2
      · rw [if_pos h2, if_pos h2, if_neg (by decide), if_pos rfl]
        by_cases h0 : i = 0
        · rw [if_pos (by omega), if_pos h0]; rfl
        · rw [if_neg (by omega), if_neg h0]; exact hn
      · rw [if_neg h2, if_neg h2, if_pos rfl]; rfl
theorem few_f (s : ByteArray) : ∃ t, keywaylaw18_few.f s = some t ∧ t.size ≤ 2000 := by
  have hm : 0 ≤ mn (s.size : Int) 2000 ∧ mn (s.size : Int) 2000 ≤ (s.size : Int) ∧ mn (s.size : Int) 2000 ≤ 2000 := by unfold mn; omega
  refine ⟨s.extract 0 (mn (s.size : Int) 2000).toNat, ?_, ?_⟩
  · unfold keywaylaw18_few.f
    rw [if_pos hm.1, if_pos hm.2.1]
  · rw [size_of, bytesOf_extract, List.drop_zero, List.length_take]
    omega
theorem awake18 : keywaylaw18_awake.f 60 = some true := by decide +kernel
theorem LexNames : keywaylaw18_LexNames.Pure := by
  intro s hs
  obtain ⟨t, ht, hz⟩ := few_f s
  obtain ⟨k, hk⟩ : ∃ k : Nat, 3000 ≤ k := ⟨3000, Nat.le_refl _⟩
  refine ⟨k, ?_⟩
  unfold keywaylaw18_LexNames.f
  rw [ht, Option.bind_some, at_rounds keywaylaw18_awake.mono (show 60 ≤ k by omega) awake18, Option.bind_some, if_pos rfl, kept_f t k (by omega), Option.bind_some, refKept_f t k (by omega), Option.bind_some, if_pos (by simp)]
  have h1 := name_loop t (by omega) t.size k 0 (by omega) (by omega) (by omega)
  have h2 := refName_loop t (by omega) t.size k 0 (by omega) (by omega) (by omega)
  unfold lex_Name.f keywayref18_Name.f
  rw [show ((0 : Nat) : Int) = 0 from rfl] at h1 h2
  rw [h1, Option.bind_some, h2, Option.bind_some, if_pos (by simp), kept_f _ k (by omega), Option.bind_some, if_pos (by rw [ByteArray.toList_eq]; decide)]
  have h3 := name_loop (⟨#[115, 112, 97, 119, 110, 115]⟩ : ByteArray) (by decide) 6 k 0 (by decide) (by decide) (by omega)
  rw [show ((0 : Nat) : Int) = 0 from rfl] at h3
  rw [h3, Option.bind_some, ByteArray.toList_eq]
  decide
end Go.Proofs.Ytlcklkjnanhnmaa.Pure

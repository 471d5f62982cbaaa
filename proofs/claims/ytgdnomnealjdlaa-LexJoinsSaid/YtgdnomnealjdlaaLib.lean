/- Plain lemmas on bytes, texts and lists of numbers. -/
import Derived.Test.YtgdnomnealjdlaaWWords
import Derived.Laws.BitsLemmas
import Derived.IntWalk
namespace Go.Proofs.Ytgdnomnealjdlaa.Lib
open Go.RowKit Go.Proofs.YtgdnomnealjdlaaW.PrintWords

/-- All are bytes. -/
def AB (l : List Int) : Prop := ∀ x ∈ l, 0 ≤ x ∧ x < 256

theorem AB.nil : AB [] := fun x h => by cases h
theorem AB.cons {x : Int} {l : List Int} (h0 : 0 ≤ x) (h1 : x < 256) (h : AB l) : AB (x :: l) := by
  intro y hy
  rcases List.mem_cons.1 hy with rfl | hy
  · exact ⟨h0, h1⟩
  · exact h y hy
theorem AB.app {a b : List Int} (h : AB a) (k : AB b) : AB (a ++ b) := by
  intro y hy
  rcases List.mem_append.1 hy with hy | hy
  · exact h y hy
  · exact k y hy
theorem AB.one {x : Int} (h0 : 0 ≤ x) (h1 : x < 256) : AB [x] := AB.cons h0 h1 AB.nil
theorem AB.tail {x : Int} {l : List Int} (h : AB (x :: l)) : AB l := fun y hy => h y (List.mem_cons_of_mem _ hy)
theorem AB.head {x : Int} {l : List Int} (h : AB (x :: l)) : 0 ≤ x ∧ x < 256 := h x List.mem_cons_self
theorem AB.take {l : List Int} (h : AB l) (n : Nat) : AB (l.take n) := fun y hy => h y (List.mem_of_mem_take hy)
theorem AB.drop {l : List Int} (h : AB l) (n : Nat) : AB (l.drop n) := fun y hy => h y (List.mem_of_mem_drop hy)
theorem AB.left {a b : List Int} (h : AB (a ++ b)) : AB a := fun y hy => h y (List.mem_append_left _ hy)
theorem AB.right {a b : List Int} (h : AB (a ++ b)) : AB b := fun y hy => h y (List.mem_append_right _ hy)

theorem bytesOf_ab (s : ByteArray) : AB (bytesOf s) := by
  intro x hx
  unfold bytesOf at hx
  obtain ⟨b, _, rfl⟩ := List.mem_map.1 hx
  have := b.toNat_lt
  omega
theorem bytesOf_toList (s : ByteArray) : bytesOf s = s.toList.map fun b => (b.toNat : Int) := by rw [ByteArray.toList_eq]; rfl
theorem byte_inj {a b : List UInt8} (h : a.map (fun b => (b.toNat : Int)) = b.map (fun b => (b.toNat : Int))) : a = b := by
  induction a generalizing b with
  | nil => cases b with
    | nil => rfl
    | cons y b => simp at h
  | cons x a ih => cases b with
    | nil => simp at h
    | cons y b =>
      simp only [List.map_cons, List.cons.injEq] at h
      have h1 : x = y := UInt8.toNat_inj.1 (by omega)
      rw [h1, ih h.2]
/-- A text is these bytes: by its numbers. -/
theorem toList_is {s : ByteArray} {l : List UInt8} : s.toList = l ↔ bytesOf s = l.map fun b => (b.toNat : Int) := by
  rw [bytesOf_toList]
  exact ⟨fun h => by rw [h], fun h => byte_inj h⟩
theorem toList_eq_iff {a b : ByteArray} : a.toList = b.toList ↔ bytesOf a = bytesOf b := by
  rw [bytesOf_toList, bytesOf_toList]
  exact ⟨fun h => by rw [h], fun h => byte_inj h⟩
theorem toList_beq (a b : ByteArray) : (a.toList == b.toList) = (bytesOf a == bytesOf b) := by
  rw [Bool.eq_iff_iff, beq_iff_eq, beq_iff_eq]
  exact toList_eq_iff
theorem toList_beq_lit (a : ByteArray) (l : List UInt8) : (a.toList == l) = (bytesOf a == l.map fun b => (b.toNat : Int)) := by
  rw [Bool.eq_iff_iff, beq_iff_eq, beq_iff_eq]
  exact toList_is
theorem bytesOf_inj {a b : ByteArray} (h : bytesOf a = bytesOf b) : a = b := by
  have h1 : a.toList = b.toList := toList_eq_iff.2 h
  rw [ByteArray.toList_eq, ByteArray.toList_eq] at h1
  cases a with | mk x => cases b with | mk y =>
  have : x = y := Array.toList_inj.1 h1
  rw [this]
theorem of_str {l : List Int} (h : AB l) : bytesOf (strOfNums l) = l := by
  unfold bytesOf
  rw [strOfNums_data, List.map_map]
  conv => rhs; rw [← List.map_id l]
  apply List.map_congr_left
  intro x hx
  obtain ⟨h0, h1⟩ := h x hx
  simp only [Function.comp, id]
  rw [UInt8.toNat_ofNat']
  omega
theorem str_of (s : ByteArray) : strOfNums (bytesOf s) = s := bytesOf_inj (of_str (bytesOf_ab s))
theorem bytesOf_append (a b : ByteArray) : bytesOf (a ++ b) = bytesOf a ++ bytesOf b := by
  unfold bytesOf
  rw [ByteArray.data_append, Array.toList_append, List.map_append]
theorem bytesOf_extract (a : ByteArray) (i j : Nat) : bytesOf (a.extract i j) = ((bytesOf a).take j).drop i := by
  unfold bytesOf
  rw [ByteArray.data_extract, Array.toList_extract, List.extract_eq_take_drop]
  rw [← List.map_take, ← List.map_drop, List.drop_take]
theorem bytesOf_empty : bytesOf (⟨#[]⟩ : ByteArray) = [] := rfl
theorem size_of (s : ByteArray) : s.size = (bytesOf s).length := (bytesOf_length s).symm
theorem bt_of (s : ByteArray) (i : Int) : bt s i = rd (bytesOf s) i := (rd_bytesOf s i).symm
theorem rd_cons_zero (x : Int) (l : List Int) : rd (x :: l) 0 = x := rfl
theorem rd_cons_succ (x : Int) (l : List Int) (i : Int) (h : 0 < i) : rd (x :: l) i = rd l (i - 1) := by
  unfold rd
  obtain ⟨n, rfl⟩ : ∃ n : Nat, i = n + 1 := ⟨(i - 1).toNat, by omega⟩
  have e1 : ((n : Int) + 1).toNat = n + 1 := by omega
  have e2 : ((n : Int) + 1 - 1).toNat = n := by omega
  rw [e1, e2]
  rfl
theorem rd_nat (l : List Int) (i : Nat) : rd l i = l.getD i 0 := by
  unfold rd; rfl
theorem drop_cons_rd (l : List Int) (i : Nat) (h : i < l.length) : l.drop i = rd l i :: l.drop (i + 1) := by
  rw [List.drop_eq_getElem_cons h]
  unfold rd
  simp [List.getD_eq_getElem?_getD, h]
theorem rd_take (l : List Int) (n : Nat) (i : Int) (h0 : 0 ≤ i) (h : i < n) : rd (l.take n) i = rd l i := by
  unfold rd
  rw [List.getD_eq_getElem?_getD, List.getD_eq_getElem?_getD, List.getElem?_take, if_pos (by omega)]
theorem str_app (a b : List Int) : strOfNums (a ++ b) = strOfNums a ++ strOfNums b := by
  apply bytesOf_inj
  rw [bytesOf_append]
  unfold bytesOf
  rw [strOfNums_data, strOfNums_data, strOfNums_data, List.map_append, List.map_append]
theorem AB.rd_ {l : List Int} (h : AB l) (i : Int) : 0 ≤ rd l i ∧ rd l i < 256 := by
  unfold rd
  rw [List.getD_eq_getElem?_getD]
  cases e : l[i.toNat]? with
  | none => simp
  | some x => exact h x (List.mem_of_getElem? e)

/-- One list of numbers ahead of another one, by their first unlike numbers. -/
def ltL : List Int → List Int → Bool
  | _, [] => false
  | [], _ :: _ => true
  | a :: x, b :: y => decide (a < b) || (a == b && ltL x y)
theorem bytesLess_of : ∀ a b : List UInt8, Op.bytesLess a b = ltL (a.map fun b => (b.toNat : Int)) (b.map fun b => (b.toNat : Int))
  | _, [] => by simp [Op.bytesLess, ltL]
  | [], _ :: _ => by simp [Op.bytesLess, ltL]
  | a :: x, b :: y => by
    have ih := bytesLess_of x y
    simp only [Op.bytesLess, List.map_cons, ltL]
    rw [ih]
    have e1 : decide (a < b) = decide ((a.toNat : Int) < (b.toNat : Int)) := by
      rw [Bool.eq_iff_iff, decide_eq_true_iff, decide_eq_true_iff, UInt8.lt_iff_toNat_lt]
      omega
    have e2 : (a == b) = ((a.toNat : Int) == (b.toNat : Int)) := by
      rw [Bool.eq_iff_iff, beq_iff_eq, beq_iff_eq, ← UInt8.toNat_inj]
      omega
    rw [e1, e2]
theorem bytesLess_str (a b : ByteArray) : Op.bytesLess a.toList b.toList = ltL (bytesOf a) (bytesOf b) := by
  rw [bytesLess_of, ← bytesOf_toList, ← bytesOf_toList]
theorem ltL_irrefl : ∀ a : List Int, ltL a a = false
  | [] => rfl
  | a :: x => by simp [ltL, ltL_irrefl x]
theorem ltL_asymm : ∀ a b : List Int, ltL a b = true → ltL b a = false
  | [], [] => fun h => by simp [ltL] at h
  | [], _ :: _ => fun _ => rfl
  | _ :: _, [] => fun h => by simp [ltL] at h
  | a :: x, b :: y => fun h => by
    simp only [ltL, Bool.or_eq_true, decide_eq_true_iff, Bool.and_eq_true, beq_iff_eq] at h
    simp only [ltL, Bool.or_eq_false_iff, decide_eq_false_iff_not, Bool.and_eq_false_iff]
    rcases h with h | ⟨rfl, h⟩
    · exact ⟨by omega, .inl (by simp; omega)⟩
    · exact ⟨by omega, .inr (ltL_asymm x y h)⟩
/-- At one length: what is ahead stays ahead with more behind it. -/
theorem ltL_app : ∀ (a b x y : List Int), a.length = b.length → ltL a b = true → ltL (a ++ x) (b ++ y) = true
  | [], [] => fun x y _ h => by simp [ltL] at h
  | [], _ :: _ => fun x y h _ => by simp at h
  | _ :: _, [] => fun x y h _ => by simp at h
  | a :: p, b :: q => fun x y hl h => by
    simp only [List.cons_append, ltL, Bool.or_eq_true, decide_eq_true_iff, Bool.and_eq_true, beq_iff_eq] at h ⊢
    rcases h with h | ⟨e, h⟩
    · exact .inl h
    · exact .inr ⟨e, ltL_app p q x y (by simpa using hl) h⟩
theorem ltL_same : ∀ (a x y : List Int), ltL (a ++ x) (a ++ y) = ltL x y
  | [], _, _ => rfl
  | a :: p, x, y => by simp [ltL, ltL_same p x y]

/-! ### Digits -/
/-- What bytes say, the highest first, behind a number. -/
def val (n : Int) (l : List Int) : Int := l.foldl (fun a d => a * 256 + d) n
theorem val_cons (n x : Int) (l : List Int) : val n (x :: l) = val (n * 256 + x) l := rfl
theorem val_nil (n : Int) : val n [] = n := rfl
theorem val_snoc (n x : Int) (l : List Int) : val n (l ++ [x]) = val n l * 256 + x := by
  unfold val; rw [List.foldl_append]; rfl
theorem val_le : ∀ (l : List Int), AB l → ∀ n : Int, 0 ≤ n → n ≤ val n l
  | [], _, n, _ => by rw [val_nil]; omega
  | x :: l, h, n, hn => by
    rw [val_cons]
    have h1 := h.head
    have := val_le l h.tail (n * 256 + x) (by omega)
    omega
theorem val_nonneg (l : List Int) (h : AB l) (n : Int) (hn : 0 ≤ n) : 0 ≤ val n l := by
  have := val_le l h n hn
  omega

/-- A number's bytes, the highest first. -/
def kb (n : Nat) : List Int := if _h : n = 0 then [] else kb (n / 256) ++ [((n % 256 : Nat) : Int)]
termination_by n
decreasing_by omega
theorem kb_zero : kb 0 = [] := by rw [kb]; simp
theorem kb_pos {n : Nat} (h : 0 < n) : kb n = kb (n / 256) ++ [((n % 256 : Nat) : Int)] := by rw [kb, dif_neg (by omega)]
theorem kb_ab (n : Nat) : AB (kb n) := by
  induction n using Nat.strongRecOn with
  | ind n ih =>
    by_cases h : n = 0
    · subst h; rw [kb_zero]; exact AB.nil
    · rw [kb_pos (by omega)]
      exact (ih _ (by omega)).app (AB.one (by omega) (by omega))
theorem kb_len (m : Nat) : ∀ n, n < 256 ^ m → (kb n).length ≤ m := by
  induction m with
  | zero => intro n h; have : n = 0 := by simpa using h
            subst this; rw [kb_zero]; simp
  | succ m ih =>
    intro n h
    by_cases h0 : n = 0
    · subst h0; rw [kb_zero]; simp
    · rw [kb_pos (by omega), List.length_append]
      have : n / 256 < 256 ^ m := by
        rw [Nat.pow_succ] at h
        exact Nat.div_lt_of_lt_mul (by omega)
      have := ih _ this
      simp; omega
theorem kb_len8 (n : Nat) (h : n < 18446744073709551616) : (kb n).length ≤ 8 := kb_len 8 n (by simpa using h)
theorem kb_nil_iff (n : Nat) : kb n = [] ↔ n = 0 := by
  constructor
  · intro h
    by_cases h0 : n = 0
    · exact h0
    · rw [kb_pos (by omega)] at h; simp at h
  · rintro rfl; exact kb_zero
theorem kb_head (n : Nat) (h : 0 < n) : ∃ c t, kb n = c :: t ∧ 0 < c := by
  induction n using Nat.strongRecOn with
  | ind n ih =>
    rw [kb_pos h]
    by_cases h0 : n / 256 = 0
    · rw [h0, kb_zero]
      exact ⟨_, [], rfl, by omega⟩
    · obtain ⟨c, t, e, hc⟩ := ih (n / 256) (by omega) (by omega)
      rw [e]
      exact ⟨c, _, rfl, hc⟩
theorem val_kb (n : Nat) : val 0 (kb n) = n := by
  induction n using Nat.strongRecOn with
  | ind n ih =>
    by_cases h : n = 0
    · subst h; rw [kb_zero]; rfl
    · rw [kb_pos (by omega), val_snoc, ih _ (by omega)]
      omega
theorem kb_inj {a b : Nat} (h : kb a = kb b) : a = b := by
  have h1 := val_kb a
  rw [h, val_kb b] at h1
  omega
/-- Bytes that begin with no nought are those of what they say. -/
theorem kb_val (m : Nat) : ∀ l : List Int, l.length = m → AB l → (∀ c t, l = c :: t → 0 < c) → kb (val 0 l).toNat = l := by
  induction m with
  | zero =>
    intro l hl _ _
    obtain rfl := List.eq_nil_of_length_eq_zero hl
    exact kb_zero
  | succ m ih =>
    intro l hl hb hc
    obtain ⟨p, x, rfl⟩ : ∃ p x, l = p ++ [x] := ⟨l.dropLast, l.getLast (by intro h; rw [h] at hl; simp at hl), (List.dropLast_concat_getLast _).symm⟩
    have hp : p.length = m := by simpa using hl
    have hx : 0 ≤ x ∧ x < 256 := hb.right.head
    have hv := val_nonneg p hb.left 0 (by omega)
    rw [val_snoc]
    have hpos : 0 < val 0 p * 256 + x := by
      cases p with
      | nil => have := hc x [] rfl; rw [val_nil]; omega
      | cons c t =>
        have h1 := hc c (t ++ [x]) rfl
        have h2 := val_le t hb.left.tail (0 * 256 + c) (by omega)
        rw [val_cons]
        omega
    rw [kb_pos (by omega)]
    have e1 : (val 0 p * 256 + x).toNat / 256 = (val 0 p).toNat := by omega
    have e2 : (((val 0 p * 256 + x).toNat % 256 : Nat) : Int) = x := by omega
    rw [e1, e2, ih p hp hb.left]
    intro c t e
    subst e
    exact hc c (t ++ [x]) rfl
theorem kb_lt (b : Nat) : ∀ a, a < b → (kb a).length < (kb b).length ∨ ((kb a).length = (kb b).length ∧ ltL (kb a) (kb b) = true) := by
  induction b using Nat.strongRecOn with
  | ind b ih =>
    intro a h
    rw [kb_pos (show 0 < b by omega)]
    by_cases h0 : a = 0
    · subst h0; left; rw [kb_zero]; simp
    · rw [kb_pos (show 0 < a by omega)]
      simp only [List.length_append, List.length_singleton]
      by_cases hq : a / 256 = b / 256
      · right
        rw [hq]
        refine ⟨rfl, ?_⟩
        rw [ltL_same]
        simp only [ltL, Bool.or_eq_true, decide_eq_true_iff]
        left
        omega
      · rcases ih (b / 256) (by omega) (a / 256) (by omega) with h1 | ⟨h1, h2⟩
        · left; omega
        · right
          exact ⟨by omega, ltL_app _ _ _ _ h1 h2⟩
/-- A key: how many bytes, and these. -/
def key (n : Nat) : List Int := ((kb n).length : Int) :: kb n
theorem key_ab (n : Nat) (h : n < 18446744073709551616) : AB (key n) := by
  have := kb_len8 n h
  exact AB.cons (by omega) (by omega) (kb_ab n)
theorem key_lt {a b : Nat} (h : a < b) : ltL (key a) (key b) = true := by
  unfold key
  simp only [ltL, Bool.or_eq_true, decide_eq_true_iff, Bool.and_eq_true, beq_iff_eq]
  rcases kb_lt b a h with h1 | ⟨h1, h2⟩
  · left; omega
  · right; exact ⟨by omega, h2⟩
theorem key_ltL (a b : Nat) : ltL (key a) (key b) = decide (a < b) := by
  rcases Nat.lt_trichotomy a b with h | h | h
  · rw [key_lt h, decide_eq_true h]
  · subst h; rw [ltL_irrefl, decide_eq_false (by omega)]
  · rw [ltL_asymm _ _ (key_lt h), decide_eq_false (by omega)]
theorem key_inj {a b : Nat} (h : key a = key b) : a = b := kb_inj (List.cons.inj h).2

/-- A number's bytes, seven bits each, the lowest first. -/
def nb (n : Nat) : List Int := if _h : n < 128 then [(n : Int)] else ((128 + n % 128 : Nat) : Int) :: nb (n / 128)
termination_by n
decreasing_by omega
theorem nb_low {n : Nat} (h : n < 128) : nb n = [(n : Int)] := by rw [nb, dif_pos h]
theorem nb_high {n : Nat} (h : ¬ n < 128) : nb n = ((128 + n % 128 : Nat) : Int) :: nb (n / 128) := by rw [nb, dif_neg h]
theorem nb_ab (n : Nat) : AB (nb n) := by
  induction n using Nat.strongRecOn with
  | ind n ih =>
    by_cases h : n < 128
    · rw [nb_low h]; exact AB.one (by omega) (by omega)
    · rw [nb_high h]
      exact AB.cons (by omega) (by omega) (ih _ (by omega))
theorem nb_len (m : Nat) : ∀ n, n < 128 ^ (m + 1) → (nb n).length ≤ m + 1 := by
  induction m with
  | zero => intro n h; rw [nb_low (by omega)]; simp
  | succ m ih =>
    intro n h
    by_cases h0 : n < 128
    · rw [nb_low h0]; simp
    · rw [nb_high h0]
      have : n / 128 < 128 ^ (m + 1) := by
        rw [Nat.pow_succ] at h
        exact Nat.div_lt_of_lt_mul (by omega)
      have := ih _ this
      simp; omega
theorem nb_len10 (n : Nat) (h : n < 18446744073709551616) : (nb n).length ≤ 10 := nb_len 9 n (by omega)
theorem nb_pos (n : Nat) : 0 < (nb n).length := by
  by_cases h : n < 128
  · rw [nb_low h]; simp
  · rw [nb_high h]; simp

/-! ### Bits -/
theorem wraps_u8' (n : Int) (h0 : 0 ≤ n) (h1 : n < 2 ^ 8) : IntKind.u8.wrap n = n := by rw [IntKind.wrap_u8]; omega
theorem nat_or128 : ∀ a : Nat, a < 256 → a ||| 128 = 128 + a % 128 := by decide +kernel
theorem or128 (x : Int) (h0 : 0 ≤ x) (h1 : x < 256) : Go.bits .or .u8 x 128 = 128 + x % 128 := by
  obtain ⟨a, rfl⟩ := Int.eq_ofNat_of_zero_le h0
  have h := (bits_nat .u8 8 (by decide) wraps_u8' a 128 (by omega) (by decide)).2
  have h2 := nat_or128 a (by omega)
  rw [show (128 : Int) = ((128 : Nat) : Int) from rfl, h, h2]
  omega
theorem wraps_u64 (n : Int) (h0 : 0 ≤ n) (h1 : n < 2 ^ 64) : IntKind.u64.wrap n = n := IntWalk.u64_in n ⟨h0, by omega⟩
theorem or_byte (x c : Int) (h0 : 0 ≤ x) (h1 : x * 256 < 18446744073709551616) (hc0 : 0 ≤ c) (hc1 : c < 256) : Go.bits .or .u64 (IntKind.u64.wrap (x * 256)) (IntKind.u64.wrap c) = x * 256 + c := by
  rw [IntWalk.u64_in _ ⟨by omega, by omega⟩, IntWalk.u64_in c ⟨by omega, by omega⟩]
  exact bits_join .u64 64 (by decide) wraps_u64 8 (x * 256) c (by omega) (by omega) (by omega) (by omega) (by omega) (by omega)
theorem wrap64_of {n : Int} (h0 : -9223372036854775808 ≤ n) (h1 : n ≤ 9223372036854775807) : wrap64 n = n := IntWalk.wrap64_in n ⟨h0, h1⟩
theorem wf_u64 {n : Int} (h : (Lit.int .u64 n).wf = true) : 0 ≤ n ∧ n < 18446744073709551616 := by
  have := h
  simp [Lit.wf, IntKind.min, IntKind.max, IntKind.bits, IntKind.signed] at this
  omega
end Go.Proofs.Ytgdnomnealjdlaa.Lib

/- Disks: where the power fails. -/
import Derived.Test.YtcbbpidnocgoiaaDkG
namespace Go.Proofs.Ytcbbpidnocgoiaa.Dk
open Go Go.RowKit Go.Proofs.Ytcbbpidnocgoiaa.Eng
set_option linter.unusedVariables false
set_option linter.unusedSimpArgs false
set_option maxRecDepth 20000
def oth : ByteArray := ⟨#[111, 116, 104, 101, 114]⟩
def othO (j : Nat) : Ob := ⟨2, List.replicate j [.v (.int .i64 8), .v (.string (full oth))], false⟩
theorem fateF_le (F : List Int) (n : Nat) : 0 ≤ fateF F n ∧ fateF F n ≤ 2 := by
  unfold fateF
  cases F[n]? with
  | none => exact ⟨by decide, by decide⟩
  | some x => exact ⟨Int.emod_nonneg _ (by decide), by have := Int.emod_lt_of_pos (x.tmod 3 + 3) (show (0 : Int) < 3 by decide); show (x.tmod 3 + 3) % 3 ≤ 2; omega⟩
theorem fate_any (F : List Int) (n : Nat) : HCall Try.prog 28 [ints F] [.own 0 0 F.length, .v (.int .i64 n)] [.ob (ints F)] (.v (.int .i64 (fateF F n))) := by
  cases h : F[n]? with
  | none => exact fate_out F n (List.getElem?_eq_none_iff.1 h)
  | some x => exact fate_in F n x h
def itD (F : List Int) (D : List ByteArray) : Nat → List ByteArray
  | 0 => D
  | i + 1 => stD (fateF F i) (itD F D i) 8 (full oth)
def itT (F : List Int) (T : List Bool) : Nat → List Bool
  | 0 => T
  | i + 1 => stT (fateF F i) (itT F T i) 8
theorem itD_len (F : List Int) (D : List ByteArray) : ∀ i, (itD F D i).length = D.length
  | 0 => rfl
  | i + 1 => by
    have := itD_len F D i
    unfold itD stD
    split <;> simp [this]
theorem itT_len (F : List Int) (T : List Bool) : ∀ i, (itT F T i).length = T.length
  | 0 => rfl
  | i + 1 => by
    have := itT_len F T i
    unfold itT stT
    split
    · simp [this]
    · split <;> simp [this]
theorem itD_at (F : List Int) (D : List ByteArray) (q : Nat) (h : q ≠ 8) : ∀ i, (itD F D i)[q]? = D[q]?
  | 0 => rfl
  | i + 1 => by
    have := itD_at F D q h i
    unfold itD stD
    split <;> simp [this, List.getElem?_set, Ne.symm h]
theorem itT_at (F : List Int) (T : List Bool) (q : Nat) (h : q ≠ 8) : ∀ i, (itT F T i)[q]? = T[q]?
  | 0 => rfl
  | i + 1 => by
    have := itT_at F T q h i
    unfold itT stT
    split
    · simp [this, List.getElem?_set, Ne.symm h]
    · split <;> simp [this, List.getElem?_set, Ne.symm h]
theorem settle_5 (F : List Int) (i : Nat) (w cu : SV) (acts all fails : Int) (dead : Bool) (D : List ByteArray) (T : List Bool) (W C : Ob) (hD : D.length = 9) (hT : T.length = 9) :
    HCall Try.prog 21 [dsk w cu acts all fails dead, strs (itD F D i), bools (itT F T i), W, C] [.ref 0 0 0, .agg [.v (.int .i64 8), .v (.string (full oth))], .v (.int .i64 (fateF F i))]
    [.ob (dsk w cu acts all fails dead), .ob (strs (itD F D (i + 1))), .ob (bools (itT F T (i + 1))), .ob W, .ob C] (.tup []) := by
  have hf := fateF_le F i
  have d1 := itD_len F D i
  have t1 := itT_len F T i
  obtain ⟨d0, hd⟩ : ∃ d, (itD F D i)[8]? = some d := ⟨(itD F D i)[8]'(by omega), List.getElem?_eq_getElem _⟩
  obtain ⟨t0, ht⟩ : ∃ d, (itT F T i)[8]? = some d := ⟨(itT F T i)[8]'(by omega), List.getElem?_eq_getElem _⟩
  have e1 : itD F D (i + 1) = stD (fateF F i) (itD F D i) 8 (full oth) := rfl
  have e2 : itT F T (i + 1) = stT (fateF F i) (itT F T i) 8 := rfl
  rw [e1, e2]
  generalize fateF F i = f at *
  generalize itD F D i = D1 at *
  generalize itT F T i = T1 at *
  rcases (show f = 0 ∨ f = 1 ∨ f = 2 by omega) with rfl | rfl | rfl
  · exact settle0_5 0 (by decide) (by decide) 8 (full oth) w cu acts all fails dead D1 T1 W C
  · exact settle1_5 8 (full oth) w cu acts all fails dead D1 T1 W C (by decide) d0 hd t0 ht
  · exact settle2_5 8 (full oth) w cu acts all fails dead D1 T1 W C (by decide) d0 hd t0 ht
theorem settle_6 (F : List Int) (i : Nat) (w cu : SV) (acts all fails : Int) (dead : Bool) (D : List ByteArray) (T : List Bool) (W C X : Ob) (hD : D.length = 9) (hT : T.length = 9) :
    HCall Try.prog 21 [dsk w cu acts all fails dead, strs (itD F D i), bools (itT F T i), W, C, X] [.ref 0 0 0, .agg [.v (.int .i64 8), .v (.string (full oth))], .v (.int .i64 (fateF F i))]
    [.ob (dsk w cu acts all fails dead), .ob (strs (itD F D (i + 1))), .ob (bools (itT F T (i + 1))), .ob W, .ob C, .ob X] (.tup []) := by
  have hf := fateF_le F i
  have d1 := itD_len F D i
  have t1 := itT_len F T i
  obtain ⟨d0, hd⟩ : ∃ d, (itD F D i)[8]? = some d := ⟨(itD F D i)[8]'(by omega), List.getElem?_eq_getElem _⟩
  obtain ⟨t0, ht⟩ : ∃ d, (itT F T i)[8]? = some d := ⟨(itT F T i)[8]'(by omega), List.getElem?_eq_getElem _⟩
  have e1 : itD F D (i + 1) = stD (fateF F i) (itD F D i) 8 (full oth) := rfl
  have e2 : itT F T (i + 1) = stT (fateF F i) (itT F T i) 8 := rfl
  rw [e1, e2]
  generalize fateF F i = f at *
  generalize itD F D i = D1 at *
  generalize itT F T i = T1 at *
  rcases (show f = 0 ∨ f = 1 ∨ f = 2 by omega) with rfl | rfl | rfl
  · exact settle0_6 0 (by decide) (by decide) 8 (full oth) w cu acts all fails dead D1 T1 W C X
  · exact settle1_6 8 (full oth) w cu acts all fails dead D1 T1 W C X (by decide) d0 hd t0 ht
  · exact settle2_6 8 (full oth) w cu acts all fails dead D1 T1 W C X (by decide) d0 hd t0 ht
theorem actfail_5_1 (n a fails : Int) (h0 : 0 ≤ n) (h1 : a < n + 1) (h2 : 0 < a) (h3 : n ≤ 100) (h4 : 0 ≤ fails) (h5 : fails ≤ 100) (D : List ByteArray) (T : List Bool) (hD : D.length = 9) (hT : T.length = 9) :
    HCall Try.prog 20 [dsk (.own 3 0 1) (.own 4 0 1) n n fails false, strs D, bools T, othO 1, cutO a (.v (.slice none 0 0))] [.ref 0 0 0]
    [.ob (dsk (.v (.slice none 0 0)) (.lst 2 []) (n + 1) (n + 1) (fails + 1) true), .ob (strs (itD [] D 1)), .ob (bools (itT [] T 1)), .ob (othO 1), .ob (cutO a (.v (.slice none 0 0)))] (.v (.bool true)) := by
  have s0 := settle_5 [] 0 (.own 3 0 1) (.own 4 0 1) (n + 1) (n + 1) fails false D T (othO 1) (cutO a (.v (.slice none 0 0))) hD hT
  have f0 := fate_nil 0
  refine HCall.of Try.func20 rfl (by decide +kernel) (Nat.le_of_ble_eq_true rfl) ?_
  refine cwp_seq ?_
  apply one_region
  case hc =>
    apply ChainL.of (some 2) rfl rfl
    case h => exact step_assign rfl
    exact .nil
  show Cwp _ _ _ _
  refine cwp_seq ?_
  apply one_region
  case hc =>
    apply ChainL.of (some 5) rfl rfl
    case h => exact step_move rfl
    apply ChainL.of (some 6) rfl rfl
    case h => (first | exact step_nilCheck rfl rfl | exact step_nilCheck_elt rfl rfl)
    apply ChainL.of (some 7) rfl rfl
    case h => (first | exact w_fieldAddr tab rfl rfl rfl rfl (by decide) rfl rfl | exact w_fieldAddr_elt tab rfl rfl rfl rfl (by decide) rfl rfl)
    apply ChainL.of (some 8) rfl rfl
    case h => (first | exact w_load tab rfl rfl rfl rfl rfl rfl rfl | exact w_load tab rfl rfl rfl rfl rfl (by assumption) rfl | exact w_load_elt tab rfl rfl rfl rfl rfl | exact w_loads tab rfl rfl rfl rfl rfl rfl rfl rfl | exact w_load_tab tab rfl rfl rfl rfl (.head _) (by kernel_rfl) | exact w_loads_elt tab rfl rfl rfl rfl rfl rfl)
    apply ChainL.of (some 9) rfl rfl
    case h => (first | exact w_bin rfl rfl rfl (add_i64 rfl (by omega) (by omega)) | exact w_bin rfl rfl rfl rfl)
    apply ChainL.of (some 10) rfl rfl
    case h => (first | exact step_nilCheck rfl rfl | exact step_nilCheck_elt rfl rfl)
    apply ChainL.of (some 11) rfl rfl
    case h => (first | exact w_fieldAddr tab rfl rfl rfl rfl (by decide) rfl rfl | exact w_fieldAddr_elt tab rfl rfl rfl rfl (by decide) rfl rfl)
    apply ChainL.of none rfl rfl
    case h => (first | exact w_store tab rfl rfl rfl rfl rfl rfl rfl rfl rfl (Nat.le_of_ble_eq_true rfl) rfl rfl | exact w_store tab rfl rfl rfl rfl rfl (by assumption) rfl rfl rfl (Nat.le_of_ble_eq_true rfl) rfl rfl)
    exact .nil
  show Cwp _ _ _ _
  refine cwp_seq ?_
  apply one_region
  case hc =>
    apply ChainL.of (some 12) rfl rfl
    case h => exact step_move rfl
    apply ChainL.of (some 13) rfl rfl
    case h => (first | exact step_nilCheck rfl rfl | exact step_nilCheck_elt rfl rfl)
    apply ChainL.of (some 14) rfl rfl
    case h => (first | exact w_fieldAddr tab rfl rfl rfl rfl (by decide) rfl rfl | exact w_fieldAddr_elt tab rfl rfl rfl rfl (by decide) rfl rfl)
    apply ChainL.of (some 15) rfl rfl
    case h => (first | exact w_load tab rfl rfl rfl rfl rfl rfl rfl | exact w_load tab rfl rfl rfl rfl rfl (by assumption) rfl | exact w_load_elt tab rfl rfl rfl rfl rfl | exact w_loads tab rfl rfl rfl rfl rfl rfl rfl rfl | exact w_load_tab tab rfl rfl rfl rfl (.head _) (by kernel_rfl) | exact w_loads_elt tab rfl rfl rfl rfl rfl rfl)
    apply ChainL.of (some 16) rfl rfl
    case h => (first | exact w_bin rfl rfl rfl (add_i64 rfl (by omega) (by omega)) | exact w_bin rfl rfl rfl rfl)
    apply ChainL.of (some 17) rfl rfl
    case h => (first | exact step_nilCheck rfl rfl | exact step_nilCheck_elt rfl rfl)
    apply ChainL.of (some 18) rfl rfl
    case h => (first | exact w_fieldAddr tab rfl rfl rfl rfl (by decide) rfl rfl | exact w_fieldAddr_elt tab rfl rfl rfl rfl (by decide) rfl rfl)
    apply ChainL.of none rfl rfl
    case h => (first | exact w_store tab rfl rfl rfl rfl rfl rfl rfl rfl rfl (Nat.le_of_ble_eq_true rfl) rfl rfl | exact w_store tab rfl rfl rfl rfl rfl (by assumption) rfl rfl rfl (Nat.le_of_ble_eq_true rfl) rfl rfl)
    exact .nil
  show Cwp _ _ _ _
  refine cwp_seq ?_
  refine cwp_seq ?_
  apply one_region_draw [0, 1, 3, 7, 15, 31, 63, 127, 255, 511, 1023, 127, 2175, 6271, 14463, 30847, 63615, 129151, 260223, 524287, 1048575] rfl
  case hc =>
    apply ChainL.of (some 19) rfl rfl
    case h => exact step_move rfl
    apply ChainL.of (some 20) rfl rfl
    case h => (first | exact step_nilCheck rfl rfl | exact step_nilCheck_elt rfl rfl)
    apply ChainL.of (some 21) rfl rfl
    case h => (first | exact w_fieldAddr tab rfl rfl rfl rfl (by decide) rfl rfl | exact w_fieldAddr_elt tab rfl rfl rfl rfl (by decide) rfl rfl)
    apply ChainL.of (some 22) rfl rfl
    case h => (first | exact w_load tab rfl rfl rfl rfl rfl rfl rfl | exact w_load tab rfl rfl rfl rfl rfl (by assumption) rfl | exact w_load_elt tab rfl rfl rfl rfl rfl | exact w_loads tab rfl rfl rfl rfl rfl rfl rfl rfl | exact w_load_tab tab rfl rfl rfl rfl (.head _) (by kernel_rfl) | exact w_loads_elt tab rfl rfl rfl rfl rfl rfl)
    apply ChainL.of (some 23) rfl rfl
    case h => exact w_len tab rfl rfl rfl (.own rfl rfl rfl) (n := 1) (by kernel_rfl)
    apply ChainL.of (some 24) rfl rfl
    case h => (first | exact w_bin rfl rfl rfl (eql_t (by omega)) | exact w_bin rfl rfl rfl (eql_f (by omega)) | exact w_bin rfl rfl rfl rfl)
    apply ChainL.of (some 25) rfl rfl
    case h => exact step_move rfl
    first
    | apply ChainL.off (some 26) 6 25 false rfl rfl rfl rfl
    | apply ChainL.on (some 26) 6 25 false rfl rfl rfl rfl
      case h => exact step_move rfl
    first
    | apply ChainL.off (some 27) 6 25 false rfl rfl rfl rfl
    | apply ChainL.on (some 27) 6 25 false rfl rfl rfl rfl
      case h => (first | exact step_nilCheck rfl rfl | exact step_nilCheck_elt rfl rfl)
    first
    | apply ChainL.off (some 28) 6 25 false rfl rfl rfl rfl
    | apply ChainL.on (some 28) 6 25 false rfl rfl rfl rfl
      case h => (first | exact w_fieldAddr tab rfl rfl rfl rfl (by decide) rfl rfl | exact w_fieldAddr_elt tab rfl rfl rfl rfl (by decide) rfl rfl)
    first
    | apply ChainL.off (some 29) 6 25 false rfl rfl rfl rfl
    | apply ChainL.on (some 29) 6 25 false rfl rfl rfl rfl
      case h => (first | exact w_load tab rfl rfl rfl rfl rfl rfl rfl | exact w_load tab rfl rfl rfl rfl rfl (by assumption) rfl | exact w_load_elt tab rfl rfl rfl rfl rfl | exact w_loads tab rfl rfl rfl rfl rfl rfl rfl rfl | exact w_load_tab tab rfl rfl rfl rfl (.head _) (by kernel_rfl) | exact w_loads_elt tab rfl rfl rfl rfl rfl rfl)
    first
    | apply ChainL.off (some 30) 6 25 false rfl rfl rfl rfl
    | apply ChainL.on (some 30) 6 25 false rfl rfl rfl rfl
      case h => exact step_move rfl
    first
    | apply ChainL.off (some 31) 6 25 false rfl rfl rfl rfl
    | apply ChainL.on (some 31) 6 25 false rfl rfl rfl rfl
      case h => (first | exact step_nilCheck rfl rfl | exact step_nilCheck_elt rfl rfl)
    first
    | apply ChainL.off (some 32) 6 25 false rfl rfl rfl rfl
    | apply ChainL.on (some 32) 6 25 false rfl rfl rfl rfl
      case h => (first | exact w_fieldAddr tab rfl rfl rfl rfl (by decide) rfl rfl | exact w_fieldAddr_elt tab rfl rfl rfl rfl (by decide) rfl rfl)
    first
    | apply ChainL.off (some 33) 6 25 false rfl rfl rfl rfl
    | apply ChainL.on (some 33) 6 25 false rfl rfl rfl rfl
      case h => (first | exact w_load tab rfl rfl rfl rfl rfl rfl rfl | exact w_load tab rfl rfl rfl rfl rfl (by assumption) rfl | exact w_load_elt tab rfl rfl rfl rfl rfl | exact w_loads tab rfl rfl rfl rfl rfl rfl rfl rfl | exact w_load_tab tab rfl rfl rfl rfl (.head _) (by kernel_rfl) | exact w_loads_elt tab rfl rfl rfl rfl rfl rfl)
    first
    | apply ChainL.off (some 34) 6 25 false rfl rfl rfl rfl
    | apply ChainL.on (some 34) 6 25 false rfl rfl rfl rfl
      case h => (first | exact w_index_own tab rfl rfl rfl rfl rfl rfl rfl rfl (by omega) (by omega) rfl | exact w_index_lst tab rfl rfl rfl rfl rfl rfl rfl (by omega) (by assumption))
    first
    | apply ChainL.off (some 35) 6 25 false rfl rfl rfl rfl
    | apply ChainL.on (some 35) 6 25 false rfl rfl rfl rfl
      case h => (first | exact w_fieldAddr tab rfl rfl rfl rfl (by decide) rfl rfl | exact w_fieldAddr_elt tab rfl rfl rfl rfl (by decide) rfl rfl)
    first
    | apply ChainL.off (some 36) 6 25 false rfl rfl rfl rfl
    | apply ChainL.on (some 36) 6 25 false rfl rfl rfl rfl
      case h => (first | exact w_load tab rfl rfl rfl rfl rfl rfl rfl | exact w_load tab rfl rfl rfl rfl rfl (by assumption) rfl | exact w_load_elt tab rfl rfl rfl rfl rfl | exact w_loads tab rfl rfl rfl rfl rfl rfl rfl rfl | exact w_load_tab tab rfl rfl rfl rfl (.head _) (by kernel_rfl) | exact w_loads_elt tab rfl rfl rfl rfl rfl rfl)
    first
    | apply ChainL.off (some 37) 6 25 false rfl rfl rfl rfl
    | apply ChainL.on (some 37) 6 25 false rfl rfl rfl rfl
      case h => (first | exact w_max rfl rfl rfl (if_pos (by omega)) | exact w_max rfl rfl rfl (if_neg (by omega)) | exact w_max rfl rfl rfl rfl)
    first
    | apply ChainL.off (some 38) 6 25 false rfl rfl rfl rfl
    | apply ChainL.on (some 38) 6 25 false rfl rfl rfl rfl
      case h => (first | exact w_bin rfl rfl rfl (leq_t (by omega)) | exact w_bin rfl rfl rfl (leq_f (by omega)) | exact w_bin rfl rfl rfl rfl)
    apply ChainL.of (some 39) rfl rfl
    case h => exact step_pick rfl rfl
    exact .nil
  case hB => decide +kernel
  case hI => kernel_rfl
  show Cwp _ _ _ _
  refine cond_f (by first | rfl | kernel_rfl) ?_
  refine cwp_skip ?_
  show Cwp _ _ _ _
  refine cwp_seq ?_
  refine cwp_seq ?_
  apply one_region
  case hc =>
    apply ChainL.of (some 40) rfl rfl
    case h => exact step_move rfl
    apply ChainL.of (some 41) rfl rfl
    case h => (first | exact step_nilCheck rfl rfl | exact step_nilCheck_elt rfl rfl)
    apply ChainL.of (some 42) rfl rfl
    case h => (first | exact w_fieldAddr tab rfl rfl rfl rfl (by decide) rfl rfl | exact w_fieldAddr_elt tab rfl rfl rfl rfl (by decide) rfl rfl)
    apply ChainL.of (some 43) rfl rfl
    case h => (first | exact w_load tab rfl rfl rfl rfl rfl rfl rfl | exact w_load tab rfl rfl rfl rfl rfl (by assumption) rfl | exact w_load_elt tab rfl rfl rfl rfl rfl | exact w_loads tab rfl rfl rfl rfl rfl rfl rfl rfl | exact w_load_tab tab rfl rfl rfl rfl (.head _) (by kernel_rfl) | exact w_loads_elt tab rfl rfl rfl rfl rfl rfl)
    apply ChainL.of (some 44) rfl rfl
    case h => exact w_len tab rfl rfl rfl (.own rfl rfl rfl) (n := 1) (by kernel_rfl)
    apply ChainL.of (some 45) rfl rfl
    case h => exact step_move rfl
    exact .nil
  show Cwp _ _ _ _
  refine cwp_block ?_
  refine cwp_loopN 2 ?_
  refine loop_round ?_
  refine cwp_seq ?_
  apply one_region
  case hc =>
    apply ChainL.of (some 46) rfl rfl
    case h => (first | exact w_bin rfl rfl rfl (lss_t (by omega)) | exact w_bin rfl rfl rfl (lss_f (by omega)) | exact w_bin rfl rfl rfl rfl)
    exact .nil
  show Cwp _ _ _ _
  refine cwp_seq ?_
  refine cond_t (by first | rfl | kernel_rfl) ?_
  refine cwp_skip ?_
  show Cwp _ _ _ _
  refine cwp_seq ?_
  refine cwp_block ?_
  refine cwp_seq ?_
  apply one_region
  case hc =>
    apply ChainL.of (some 47) rfl rfl
    case h => exact step_move rfl
    apply ChainL.of (some 48) rfl rfl
    case h => (first | exact w_index_own tab rfl rfl rfl rfl rfl rfl rfl rfl (by omega) (by omega) rfl | exact w_index_lst tab rfl rfl rfl rfl rfl rfl rfl (by omega) (by assumption))
    apply ChainL.of (some 49) rfl rfl
    case h => (first | exact w_load tab rfl rfl rfl rfl rfl rfl rfl | exact w_load tab rfl rfl rfl rfl rfl (by assumption) rfl | exact w_load_elt tab rfl rfl rfl rfl rfl | exact w_loads tab rfl rfl rfl rfl rfl rfl rfl rfl | exact w_load_tab tab rfl rfl rfl rfl (.head _) (by kernel_rfl) | exact w_loads_elt tab rfl rfl rfl rfl rfl rfl)
    apply ChainL.of (some 4) rfl rfl
    case h => exact w_alloc tab rfl rfl 100 rfl
    apply ChainL.of (some 3) rfl rfl
    case h => exact step_assign rfl
    apply ChainL.of none rfl rfl
    case h => (first | exact w_store tab rfl rfl rfl rfl rfl rfl rfl rfl rfl (Nat.le_of_ble_eq_true rfl) rfl rfl | exact w_store tab rfl rfl rfl rfl rfl (by assumption) rfl rfl rfl (Nat.le_of_ble_eq_true rfl) rfl rfl)
    exact .nil
  show Cwp _ _ _ _
  apply one_region_draw [0, 0, 0, 4, 12, 28, 60, 124, 252, 0, 1020, 2047] rfl
  case hc =>
    apply ChainL.of (some 50) rfl rfl
    case h => exact step_move rfl
    apply ChainL.of (some 51) rfl rfl
    case h => (first | exact w_load tab rfl rfl rfl rfl rfl rfl rfl | exact w_load tab rfl rfl rfl rfl rfl (by assumption) rfl | exact w_load_elt tab rfl rfl rfl rfl rfl | exact w_loads tab rfl rfl rfl rfl rfl rfl rfl rfl | exact w_load_tab tab rfl rfl rfl rfl (.head _) (by kernel_rfl) | exact w_loads_elt tab rfl rfl rfl rfl rfl rfl)
    apply ChainL.of (some 52) rfl rfl
    case h => exact step_move rfl
    apply ChainL.of (some 53) rfl rfl
    case h => (first | exact step_nilCheck rfl rfl | exact step_nilCheck_elt rfl rfl)
    apply ChainL.of (some 54) rfl rfl
    case h => (first | exact w_fieldAddr tab rfl rfl rfl rfl (by decide) rfl rfl | exact w_fieldAddr_elt tab rfl rfl rfl rfl (by decide) rfl rfl)
    apply ChainL.of (some 55) rfl rfl
    case h => (first | exact w_load tab rfl rfl rfl rfl rfl rfl rfl | exact w_load tab rfl rfl rfl rfl rfl (by assumption) rfl | exact w_load_elt tab rfl rfl rfl rfl rfl | exact w_loads tab rfl rfl rfl rfl rfl rfl rfl rfl | exact w_load_tab tab rfl rfl rfl rfl (.head _) (by kernel_rfl) | exact w_loads_elt tab rfl rfl rfl rfl rfl rfl)
    apply ChainL.of (some 56) rfl rfl
    case h => (first | exact w_index_own tab rfl rfl rfl rfl rfl rfl rfl rfl (by omega) (by omega) rfl | exact w_index_lst tab rfl rfl rfl rfl rfl rfl rfl (by omega) (by assumption))
    apply ChainL.of (some 57) rfl rfl
    case h => (first | exact w_fieldAddr tab rfl rfl rfl rfl (by decide) rfl rfl | exact w_fieldAddr_elt tab rfl rfl rfl rfl (by decide) rfl rfl)
    apply ChainL.of (some 58) rfl rfl
    case h => (first | exact w_load tab rfl rfl rfl rfl rfl rfl rfl | exact w_load tab rfl rfl rfl rfl rfl (by assumption) rfl | exact w_load_elt tab rfl rfl rfl rfl rfl | exact w_loads tab rfl rfl rfl rfl rfl rfl rfl rfl | exact w_load_tab tab rfl rfl rfl rfl (.head _) (by kernel_rfl) | exact w_loads_elt tab rfl rfl rfl rfl rfl rfl)
    apply ChainL.of (some 59) rfl rfl
    case h => exact step_move rfl
    apply ChainL.of (some 60) rfl rfl
    case h => exact w_call f0 [] [] [] Try.func28 rfl (by decide +kernel) rfl rfl .nil (by decide) rfl rfl rfl rfl rfl rfl rfl rfl rfl rfl rfl
    apply ChainL.of (some 61) rfl rfl
    case h => exact w_call s0 [] [0, 1, 2, 3, 4] [] Try.func21 rfl (by decide +kernel) rfl rfl .nil (by decide) (map5 rfl (strs_ren _ _) (bools_ren _ _) rfl rfl) rfl rfl (all5 rfl (strs_lt _ _) (bools_lt _ _) rfl rfl) rfl (all5 rfl (strs_lt _ _) (bools_lt _ _) rfl rfl) rfl rfl rfl rfl (zip5 rfl (os_strs _ _) (os_bools _ _) rfl rfl)
    exact .nil
  case hB => decide +kernel
  case hI => kernel_rfl
  show Cwp _ _ _ _
  apply one_region
  case hc =>
    apply ChainL.of (some 62) rfl rfl
    case h => (first | exact w_bin rfl rfl rfl (add_i64 rfl (by omega) (by omega)) | exact w_bin rfl rfl rfl rfl)
    apply ChainL.of (some 45) rfl rfl
    case h => exact step_move rfl
    exact .nil
  show LoopN _ _ _ _ _
  refine loop_round ?_
  refine cwp_seq ?_
  apply one_region
  case hc =>
    apply ChainL.of (some 46) rfl rfl
    case h => (first | exact w_bin rfl rfl rfl (lss_t (by omega)) | exact w_bin rfl rfl rfl (lss_f (by omega)) | exact w_bin rfl rfl rfl rfl)
    exact .nil
  show Cwp _ _ _ _
  refine cwp_seq ?_
  refine cond_f (by first | rfl | kernel_rfl) ?_
  refine cwp_exit ?_
  show Cwp _ _ _ _
  refine cwp_seq ?_
  apply one_region_draw [0, 0, 0, 0, 8, 24, 56, 120, 121, 377, 889, 2043, 4091, 8187, 16383, 32767, 65535] rfl
  case hc =>
    apply ChainL.of (some 63) rfl rfl
    case h => exact step_move rfl
    apply ChainL.of (some 64) rfl rfl
    case h => exact step_move rfl
    apply ChainL.of (some 65) rfl rfl
    case h => exact step_move rfl
    apply ChainL.of (some 66) rfl rfl
    case h => exact step_move rfl
    apply ChainL.of (some 67) rfl rfl
    case h => (first | exact step_nilCheck rfl rfl | exact step_nilCheck_elt rfl rfl)
    apply ChainL.of (some 68) rfl rfl
    case h => (first | exact w_fieldAddr tab rfl rfl rfl rfl (by decide) rfl rfl | exact w_fieldAddr_elt tab rfl rfl rfl rfl (by decide) rfl rfl)
    apply ChainL.of (some 69) rfl rfl
    case h => (first | exact w_load tab rfl rfl rfl rfl rfl rfl rfl | exact w_load tab rfl rfl rfl rfl rfl (by assumption) rfl | exact w_load_elt tab rfl rfl rfl rfl rfl | exact w_loads tab rfl rfl rfl rfl rfl rfl rfl rfl | exact w_load_tab tab rfl rfl rfl rfl (.head _) (by kernel_rfl) | exact w_loads_elt tab rfl rfl rfl rfl rfl rfl)
    apply ChainL.of (some 70) rfl rfl
    case h => exact w_cut_own_none (lo := some (.const (.int .i64 1))) (hi := none) tab rfl rfl rfl rfl rfl 1 ⟨.i64, rfl⟩ rfl (Nat.le_refl 1)
    apply ChainL.of (some 71) rfl rfl
    case h => (first | exact step_nilCheck rfl rfl | exact step_nilCheck_elt rfl rfl)
    apply ChainL.of (some 72) rfl rfl
    case h => (first | exact w_fieldAddr tab rfl rfl rfl rfl (by decide) rfl rfl | exact w_fieldAddr_elt tab rfl rfl rfl rfl (by decide) rfl rfl)
    apply ChainL.of none rfl rfl
    case h => (first | exact w_store tab rfl rfl rfl rfl rfl rfl rfl rfl rfl (Nat.le_of_ble_eq_true rfl) rfl rfl | exact w_store tab rfl rfl rfl rfl rfl (by assumption) rfl rfl rfl (Nat.le_of_ble_eq_true rfl) rfl rfl)
    apply ChainL.of (some 73) rfl rfl
    case h => (first | exact step_nilCheck rfl rfl | exact step_nilCheck_elt rfl rfl)
    apply ChainL.of (some 74) rfl rfl
    case h => (first | exact w_fieldAddr tab rfl rfl rfl rfl (by decide) rfl rfl | exact w_fieldAddr_elt tab rfl rfl rfl rfl (by decide) rfl rfl)
    apply ChainL.of none rfl rfl
    case h => (first | exact w_store tab rfl rfl rfl rfl rfl rfl rfl rfl rfl (Nat.le_of_ble_eq_true rfl) rfl rfl | exact w_store tab rfl rfl rfl rfl rfl (by assumption) rfl rfl rfl (Nat.le_of_ble_eq_true rfl) rfl rfl)
    apply ChainL.of (some 75) rfl rfl
    case h => (first | exact step_nilCheck rfl rfl | exact step_nilCheck_elt rfl rfl)
    apply ChainL.of (some 76) rfl rfl
    case h => (first | exact w_fieldAddr tab rfl rfl rfl rfl (by decide) rfl rfl | exact w_fieldAddr_elt tab rfl rfl rfl rfl (by decide) rfl rfl)
    apply ChainL.of none rfl rfl
    case h => (first | exact w_store tab rfl rfl rfl rfl rfl rfl rfl rfl rfl (Nat.le_of_ble_eq_true rfl) rfl rfl | exact w_store tab rfl rfl rfl rfl rfl (by assumption) rfl rfl rfl (Nat.le_of_ble_eq_true rfl) rfl rfl)
    exact .nil
  case hB => decide +kernel
  case hI => kernel_rfl
  show Cwp _ _ _ _
  refine cwp_seq ?_
  apply one_region
  case hc =>
    apply ChainL.of (some 77) rfl rfl
    case h => exact step_move rfl
    apply ChainL.of (some 78) rfl rfl
    case h => (first | exact step_nilCheck rfl rfl | exact step_nilCheck_elt rfl rfl)
    apply ChainL.of (some 79) rfl rfl
    case h => (first | exact w_fieldAddr tab rfl rfl rfl rfl (by decide) rfl rfl | exact w_fieldAddr_elt tab rfl rfl rfl rfl (by decide) rfl rfl)
    apply ChainL.of (some 80) rfl rfl
    case h => (first | exact w_load tab rfl rfl rfl rfl rfl rfl rfl | exact w_load tab rfl rfl rfl rfl rfl (by assumption) rfl | exact w_load_elt tab rfl rfl rfl rfl rfl | exact w_loads tab rfl rfl rfl rfl rfl rfl rfl rfl | exact w_load_tab tab rfl rfl rfl rfl (.head _) (by kernel_rfl) | exact w_loads_elt tab rfl rfl rfl rfl rfl rfl)
    apply ChainL.of (some 81) rfl rfl
    case h => (first | exact w_bin rfl rfl rfl (add_i64 rfl (by omega) (by omega)) | exact w_bin rfl rfl rfl rfl)
    apply ChainL.of (some 82) rfl rfl
    case h => (first | exact step_nilCheck rfl rfl | exact step_nilCheck_elt rfl rfl)
    apply ChainL.of (some 83) rfl rfl
    case h => (first | exact w_fieldAddr tab rfl rfl rfl rfl (by decide) rfl rfl | exact w_fieldAddr_elt tab rfl rfl rfl rfl (by decide) rfl rfl)
    apply ChainL.of none rfl rfl
    case h => (first | exact w_store tab rfl rfl rfl rfl rfl rfl rfl rfl rfl (Nat.le_of_ble_eq_true rfl) rfl rfl | exact w_store tab rfl rfl rfl rfl rfl (by assumption) rfl rfl rfl (Nat.le_of_ble_eq_true rfl) rfl rfl)
    exact .nil
  show Cwp _ _ _ _
  refine cwp_seq ?_
  apply one_region
  case hc =>
    apply ChainL.of (some 2) rfl rfl
    case h => exact step_assign rfl
    exact .nil
  show Cwp _ _ _ _
  refine cwp_ret ?_
  exact ⟨.inl rfl, resH_one rfl rfl, objs_ok rfl⟩
theorem actfail_5_2 (n a fails : Int) (h0 : 0 ≤ n) (h1 : a < n + 1) (h2 : 0 < a) (h3 : n ≤ 100) (h4 : 0 ≤ fails) (h5 : fails ≤ 100) (D : List ByteArray) (T : List Bool) (hD : D.length = 9) (hT : T.length = 9) :
    HCall Try.prog 20 [dsk (.own 3 0 2) (.own 4 0 1) n n fails false, strs D, bools T, othO 2, cutO a (.v (.slice none 0 0))] [.ref 0 0 0]
    [.ob (dsk (.v (.slice none 0 0)) (.lst 2 []) (n + 1) (n + 1) (fails + 1) true), .ob (strs (itD [] D 2)), .ob (bools (itT [] T 2)), .ob (othO 2), .ob (cutO a (.v (.slice none 0 0)))] (.v (.bool true)) := by
  have s0 := settle_5 [] 0 (.own 3 0 2) (.own 4 0 1) (n + 1) (n + 1) fails false D T (othO 2) (cutO a (.v (.slice none 0 0))) hD hT
  have f0 := fate_nil 0
  have s1 := settle_5 [] 1 (.own 3 0 2) (.own 4 0 1) (n + 1) (n + 1) fails false D T (othO 2) (cutO a (.v (.slice none 0 0))) hD hT
  have f1 := fate_nil 1
  refine HCall.of Try.func20 rfl (by decide +kernel) (Nat.le_of_ble_eq_true rfl) ?_
  refine cwp_seq ?_
  apply one_region
  case hc =>
    apply ChainL.of (some 2) rfl rfl
    case h => exact step_assign rfl
    exact .nil
  show Cwp _ _ _ _
  refine cwp_seq ?_
  apply one_region
  case hc =>
    apply ChainL.of (some 5) rfl rfl
    case h => exact step_move rfl
    apply ChainL.of (some 6) rfl rfl
    case h => (first | exact step_nilCheck rfl rfl | exact step_nilCheck_elt rfl rfl)
    apply ChainL.of (some 7) rfl rfl
    case h => (first | exact w_fieldAddr tab rfl rfl rfl rfl (by decide) rfl rfl | exact w_fieldAddr_elt tab rfl rfl rfl rfl (by decide) rfl rfl)
    apply ChainL.of (some 8) rfl rfl
    case h => (first | exact w_load tab rfl rfl rfl rfl rfl rfl rfl | exact w_load tab rfl rfl rfl rfl rfl (by assumption) rfl | exact w_load_elt tab rfl rfl rfl rfl rfl | exact w_loads tab rfl rfl rfl rfl rfl rfl rfl rfl | exact w_load_tab tab rfl rfl rfl rfl (.head _) (by kernel_rfl) | exact w_loads_elt tab rfl rfl rfl rfl rfl rfl)
    apply ChainL.of (some 9) rfl rfl
    case h => (first | exact w_bin rfl rfl rfl (add_i64 rfl (by omega) (by omega)) | exact w_bin rfl rfl rfl rfl)
    apply ChainL.of (some 10) rfl rfl
    case h => (first | exact step_nilCheck rfl rfl | exact step_nilCheck_elt rfl rfl)
    apply ChainL.of (some 11) rfl rfl
    case h => (first | exact w_fieldAddr tab rfl rfl rfl rfl (by decide) rfl rfl | exact w_fieldAddr_elt tab rfl rfl rfl rfl (by decide) rfl rfl)
    apply ChainL.of none rfl rfl
    case h => (first | exact w_store tab rfl rfl rfl rfl rfl rfl rfl rfl rfl (Nat.le_of_ble_eq_true rfl) rfl rfl | exact w_store tab rfl rfl rfl rfl rfl (by assumption) rfl rfl rfl (Nat.le_of_ble_eq_true rfl) rfl rfl)
    exact .nil
  show Cwp _ _ _ _
  refine cwp_seq ?_
  apply one_region
  case hc =>
    apply ChainL.of (some 12) rfl rfl
    case h => exact step_move rfl
    apply ChainL.of (some 13) rfl rfl
    case h => (first | exact step_nilCheck rfl rfl | exact step_nilCheck_elt rfl rfl)
    apply ChainL.of (some 14) rfl rfl
    case h => (first | exact w_fieldAddr tab rfl rfl rfl rfl (by decide) rfl rfl | exact w_fieldAddr_elt tab rfl rfl rfl rfl (by decide) rfl rfl)
    apply ChainL.of (some 15) rfl rfl
    case h => (first | exact w_load tab rfl rfl rfl rfl rfl rfl rfl | exact w_load tab rfl rfl rfl rfl rfl (by assumption) rfl | exact w_load_elt tab rfl rfl rfl rfl rfl | exact w_loads tab rfl rfl rfl rfl rfl rfl rfl rfl | exact w_load_tab tab rfl rfl rfl rfl (.head _) (by kernel_rfl) | exact w_loads_elt tab rfl rfl rfl rfl rfl rfl)
    apply ChainL.of (some 16) rfl rfl
    case h => (first | exact w_bin rfl rfl rfl (add_i64 rfl (by omega) (by omega)) | exact w_bin rfl rfl rfl rfl)
    apply ChainL.of (some 17) rfl rfl
    case h => (first | exact step_nilCheck rfl rfl | exact step_nilCheck_elt rfl rfl)
    apply ChainL.of (some 18) rfl rfl
    case h => (first | exact w_fieldAddr tab rfl rfl rfl rfl (by decide) rfl rfl | exact w_fieldAddr_elt tab rfl rfl rfl rfl (by decide) rfl rfl)
    apply ChainL.of none rfl rfl
    case h => (first | exact w_store tab rfl rfl rfl rfl rfl rfl rfl rfl rfl (Nat.le_of_ble_eq_true rfl) rfl rfl | exact w_store tab rfl rfl rfl rfl rfl (by assumption) rfl rfl rfl (Nat.le_of_ble_eq_true rfl) rfl rfl)
    exact .nil
  show Cwp _ _ _ _
  refine cwp_seq ?_
  refine cwp_seq ?_
  apply one_region_draw [0, 1, 3, 7, 15, 31, 63, 127, 255, 511, 1023, 127, 2175, 6271, 14463, 30847, 63615, 129151, 260223, 524287, 1048575] rfl
  case hc =>
    apply ChainL.of (some 19) rfl rfl
    case h => exact step_move rfl
    apply ChainL.of (some 20) rfl rfl
    case h => (first | exact step_nilCheck rfl rfl | exact step_nilCheck_elt rfl rfl)
    apply ChainL.of (some 21) rfl rfl
    case h => (first | exact w_fieldAddr tab rfl rfl rfl rfl (by decide) rfl rfl | exact w_fieldAddr_elt tab rfl rfl rfl rfl (by decide) rfl rfl)
    apply ChainL.of (some 22) rfl rfl
    case h => (first | exact w_load tab rfl rfl rfl rfl rfl rfl rfl | exact w_load tab rfl rfl rfl rfl rfl (by assumption) rfl | exact w_load_elt tab rfl rfl rfl rfl rfl | exact w_loads tab rfl rfl rfl rfl rfl rfl rfl rfl | exact w_load_tab tab rfl rfl rfl rfl (.head _) (by kernel_rfl) | exact w_loads_elt tab rfl rfl rfl rfl rfl rfl)
    apply ChainL.of (some 23) rfl rfl
    case h => exact w_len tab rfl rfl rfl (.own rfl rfl rfl) (n := 1) (by kernel_rfl)
    apply ChainL.of (some 24) rfl rfl
    case h => (first | exact w_bin rfl rfl rfl (eql_t (by omega)) | exact w_bin rfl rfl rfl (eql_f (by omega)) | exact w_bin rfl rfl rfl rfl)
    apply ChainL.of (some 25) rfl rfl
    case h => exact step_move rfl
    first
    | apply ChainL.off (some 26) 6 25 false rfl rfl rfl rfl
    | apply ChainL.on (some 26) 6 25 false rfl rfl rfl rfl
      case h => exact step_move rfl
    first
    | apply ChainL.off (some 27) 6 25 false rfl rfl rfl rfl
    | apply ChainL.on (some 27) 6 25 false rfl rfl rfl rfl
      case h => (first | exact step_nilCheck rfl rfl | exact step_nilCheck_elt rfl rfl)
    first
    | apply ChainL.off (some 28) 6 25 false rfl rfl rfl rfl
    | apply ChainL.on (some 28) 6 25 false rfl rfl rfl rfl
      case h => (first | exact w_fieldAddr tab rfl rfl rfl rfl (by decide) rfl rfl | exact w_fieldAddr_elt tab rfl rfl rfl rfl (by decide) rfl rfl)
    first
    | apply ChainL.off (some 29) 6 25 false rfl rfl rfl rfl
    | apply ChainL.on (some 29) 6 25 false rfl rfl rfl rfl
      case h => (first | exact w_load tab rfl rfl rfl rfl rfl rfl rfl | exact w_load tab rfl rfl rfl rfl rfl (by assumption) rfl | exact w_load_elt tab rfl rfl rfl rfl rfl | exact w_loads tab rfl rfl rfl rfl rfl rfl rfl rfl | exact w_load_tab tab rfl rfl rfl rfl (.head _) (by kernel_rfl) | exact w_loads_elt tab rfl rfl rfl rfl rfl rfl)
    first
    | apply ChainL.off (some 30) 6 25 false rfl rfl rfl rfl
    | apply ChainL.on (some 30) 6 25 false rfl rfl rfl rfl
      case h => exact step_move rfl
    first
    | apply ChainL.off (some 31) 6 25 false rfl rfl rfl rfl
    | apply ChainL.on (some 31) 6 25 false rfl rfl rfl rfl
      case h => (first | exact step_nilCheck rfl rfl | exact step_nilCheck_elt rfl rfl)
    first
    | apply ChainL.off (some 32) 6 25 false rfl rfl rfl rfl
    | apply ChainL.on (some 32) 6 25 false rfl rfl rfl rfl
      case h => (first | exact w_fieldAddr tab rfl rfl rfl rfl (by decide) rfl rfl | exact w_fieldAddr_elt tab rfl rfl rfl rfl (by decide) rfl rfl)
    first
    | apply ChainL.off (some 33) 6 25 false rfl rfl rfl rfl
    | apply ChainL.on (some 33) 6 25 false rfl rfl rfl rfl
      case h => (first | exact w_load tab rfl rfl rfl rfl rfl rfl rfl | exact w_load tab rfl rfl rfl rfl rfl (by assumption) rfl | exact w_load_elt tab rfl rfl rfl rfl rfl | exact w_loads tab rfl rfl rfl rfl rfl rfl rfl rfl | exact w_load_tab tab rfl rfl rfl rfl (.head _) (by kernel_rfl) | exact w_loads_elt tab rfl rfl rfl rfl rfl rfl)
    first
    | apply ChainL.off (some 34) 6 25 false rfl rfl rfl rfl
    | apply ChainL.on (some 34) 6 25 false rfl rfl rfl rfl
      case h => (first | exact w_index_own tab rfl rfl rfl rfl rfl rfl rfl rfl (by omega) (by omega) rfl | exact w_index_lst tab rfl rfl rfl rfl rfl rfl rfl (by omega) (by assumption))
    first
    | apply ChainL.off (some 35) 6 25 false rfl rfl rfl rfl
    | apply ChainL.on (some 35) 6 25 false rfl rfl rfl rfl
      case h => (first | exact w_fieldAddr tab rfl rfl rfl rfl (by decide) rfl rfl | exact w_fieldAddr_elt tab rfl rfl rfl rfl (by decide) rfl rfl)
    first
    | apply ChainL.off (some 36) 6 25 false rfl rfl rfl rfl
    | apply ChainL.on (some 36) 6 25 false rfl rfl rfl rfl
      case h => (first | exact w_load tab rfl rfl rfl rfl rfl rfl rfl | exact w_load tab rfl rfl rfl rfl rfl (by assumption) rfl | exact w_load_elt tab rfl rfl rfl rfl rfl | exact w_loads tab rfl rfl rfl rfl rfl rfl rfl rfl | exact w_load_tab tab rfl rfl rfl rfl (.head _) (by kernel_rfl) | exact w_loads_elt tab rfl rfl rfl rfl rfl rfl)
    first
    | apply ChainL.off (some 37) 6 25 false rfl rfl rfl rfl
    | apply ChainL.on (some 37) 6 25 false rfl rfl rfl rfl
      case h => (first | exact w_max rfl rfl rfl (if_pos (by omega)) | exact w_max rfl rfl rfl (if_neg (by omega)) | exact w_max rfl rfl rfl rfl)
    first
    | apply ChainL.off (some 38) 6 25 false rfl rfl rfl rfl
    | apply ChainL.on (some 38) 6 25 false rfl rfl rfl rfl
      case h => (first | exact w_bin rfl rfl rfl (leq_t (by omega)) | exact w_bin rfl rfl rfl (leq_f (by omega)) | exact w_bin rfl rfl rfl rfl)
    apply ChainL.of (some 39) rfl rfl
    case h => exact step_pick rfl rfl
    exact .nil
  case hB => decide +kernel
  case hI => kernel_rfl
  show Cwp _ _ _ _
  refine cond_f (by first | rfl | kernel_rfl) ?_
  refine cwp_skip ?_
  show Cwp _ _ _ _
  refine cwp_seq ?_
  refine cwp_seq ?_
  apply one_region
  case hc =>
    apply ChainL.of (some 40) rfl rfl
    case h => exact step_move rfl
    apply ChainL.of (some 41) rfl rfl
    case h => (first | exact step_nilCheck rfl rfl | exact step_nilCheck_elt rfl rfl)
    apply ChainL.of (some 42) rfl rfl
    case h => (first | exact w_fieldAddr tab rfl rfl rfl rfl (by decide) rfl rfl | exact w_fieldAddr_elt tab rfl rfl rfl rfl (by decide) rfl rfl)
    apply ChainL.of (some 43) rfl rfl
    case h => (first | exact w_load tab rfl rfl rfl rfl rfl rfl rfl | exact w_load tab rfl rfl rfl rfl rfl (by assumption) rfl | exact w_load_elt tab rfl rfl rfl rfl rfl | exact w_loads tab rfl rfl rfl rfl rfl rfl rfl rfl | exact w_load_tab tab rfl rfl rfl rfl (.head _) (by kernel_rfl) | exact w_loads_elt tab rfl rfl rfl rfl rfl rfl)
    apply ChainL.of (some 44) rfl rfl
    case h => exact w_len tab rfl rfl rfl (.own rfl rfl rfl) (n := 2) (by kernel_rfl)
    apply ChainL.of (some 45) rfl rfl
    case h => exact step_move rfl
    exact .nil
  show Cwp _ _ _ _
  refine cwp_block ?_
  refine cwp_loopN 3 ?_
  refine loop_round ?_
  refine cwp_seq ?_
  apply one_region
  case hc =>
    apply ChainL.of (some 46) rfl rfl
    case h => (first | exact w_bin rfl rfl rfl (lss_t (by omega)) | exact w_bin rfl rfl rfl (lss_f (by omega)) | exact w_bin rfl rfl rfl rfl)
    exact .nil
  show Cwp _ _ _ _
  refine cwp_seq ?_
  refine cond_t (by first | rfl | kernel_rfl) ?_
  refine cwp_skip ?_
  show Cwp _ _ _ _
  refine cwp_seq ?_
  refine cwp_block ?_
  refine cwp_seq ?_
  apply one_region
  case hc =>
    apply ChainL.of (some 47) rfl rfl
    case h => exact step_move rfl
    apply ChainL.of (some 48) rfl rfl
    case h => (first | exact w_index_own tab rfl rfl rfl rfl rfl rfl rfl rfl (by omega) (by omega) rfl | exact w_index_lst tab rfl rfl rfl rfl rfl rfl rfl (by omega) (by assumption))
    apply ChainL.of (some 49) rfl rfl
    case h => (first | exact w_load tab rfl rfl rfl rfl rfl rfl rfl | exact w_load tab rfl rfl rfl rfl rfl (by assumption) rfl | exact w_load_elt tab rfl rfl rfl rfl rfl | exact w_loads tab rfl rfl rfl rfl rfl rfl rfl rfl | exact w_load_tab tab rfl rfl rfl rfl (.head _) (by kernel_rfl) | exact w_loads_elt tab rfl rfl rfl rfl rfl rfl)
    apply ChainL.of (some 4) rfl rfl
    case h => exact w_alloc tab rfl rfl 101 rfl
    apply ChainL.of (some 3) rfl rfl
    case h => exact step_assign rfl
    apply ChainL.of none rfl rfl
    case h => (first | exact w_store tab rfl rfl rfl rfl rfl rfl rfl rfl rfl (Nat.le_of_ble_eq_true rfl) rfl rfl | exact w_store tab rfl rfl rfl rfl rfl (by assumption) rfl rfl rfl (Nat.le_of_ble_eq_true rfl) rfl rfl)
    exact .nil
  show Cwp _ _ _ _
  apply one_region_draw [0, 0, 0, 4, 12, 28, 60, 124, 252, 0, 1020, 2047] rfl
  case hc =>
    apply ChainL.of (some 50) rfl rfl
    case h => exact step_move rfl
    apply ChainL.of (some 51) rfl rfl
    case h => (first | exact w_load tab rfl rfl rfl rfl rfl rfl rfl | exact w_load tab rfl rfl rfl rfl rfl (by assumption) rfl | exact w_load_elt tab rfl rfl rfl rfl rfl | exact w_loads tab rfl rfl rfl rfl rfl rfl rfl rfl | exact w_load_tab tab rfl rfl rfl rfl (.head _) (by kernel_rfl) | exact w_loads_elt tab rfl rfl rfl rfl rfl rfl)
    apply ChainL.of (some 52) rfl rfl
    case h => exact step_move rfl
    apply ChainL.of (some 53) rfl rfl
    case h => (first | exact step_nilCheck rfl rfl | exact step_nilCheck_elt rfl rfl)
    apply ChainL.of (some 54) rfl rfl
    case h => (first | exact w_fieldAddr tab rfl rfl rfl rfl (by decide) rfl rfl | exact w_fieldAddr_elt tab rfl rfl rfl rfl (by decide) rfl rfl)
    apply ChainL.of (some 55) rfl rfl
    case h => (first | exact w_load tab rfl rfl rfl rfl rfl rfl rfl | exact w_load tab rfl rfl rfl rfl rfl (by assumption) rfl | exact w_load_elt tab rfl rfl rfl rfl rfl | exact w_loads tab rfl rfl rfl rfl rfl rfl rfl rfl | exact w_load_tab tab rfl rfl rfl rfl (.head _) (by kernel_rfl) | exact w_loads_elt tab rfl rfl rfl rfl rfl rfl)
    apply ChainL.of (some 56) rfl rfl
    case h => (first | exact w_index_own tab rfl rfl rfl rfl rfl rfl rfl rfl (by omega) (by omega) rfl | exact w_index_lst tab rfl rfl rfl rfl rfl rfl rfl (by omega) (by assumption))
    apply ChainL.of (some 57) rfl rfl
    case h => (first | exact w_fieldAddr tab rfl rfl rfl rfl (by decide) rfl rfl | exact w_fieldAddr_elt tab rfl rfl rfl rfl (by decide) rfl rfl)
    apply ChainL.of (some 58) rfl rfl
    case h => (first | exact w_load tab rfl rfl rfl rfl rfl rfl rfl | exact w_load tab rfl rfl rfl rfl rfl (by assumption) rfl | exact w_load_elt tab rfl rfl rfl rfl rfl | exact w_loads tab rfl rfl rfl rfl rfl rfl rfl rfl | exact w_load_tab tab rfl rfl rfl rfl (.head _) (by kernel_rfl) | exact w_loads_elt tab rfl rfl rfl rfl rfl rfl)
    apply ChainL.of (some 59) rfl rfl
    case h => exact step_move rfl
    apply ChainL.of (some 60) rfl rfl
    case h => (first | exact w_call f0 [] [] [] Try.func28 rfl (by decide +kernel) rfl rfl .nil (by decide) rfl rfl rfl rfl rfl rfl rfl rfl rfl rfl rfl | exact w_call f1 [] [] [] Try.func28 rfl (by decide +kernel) rfl rfl .nil (by decide) rfl rfl rfl rfl rfl rfl rfl rfl rfl rfl rfl)
    apply ChainL.of (some 61) rfl rfl
    case h => (first | exact w_call s0 [] [0, 1, 2, 3, 4] [] Try.func21 rfl (by decide +kernel) rfl rfl .nil (by decide) (map5 rfl (strs_ren _ _) (bools_ren _ _) rfl rfl) rfl rfl (all5 rfl (strs_lt _ _) (bools_lt _ _) rfl rfl) rfl (all5 rfl (strs_lt _ _) (bools_lt _ _) rfl rfl) rfl rfl rfl rfl (zip5 rfl (os_strs _ _) (os_bools _ _) rfl rfl) | exact w_call s1 [] [0, 1, 2, 3, 4] [] Try.func21 rfl (by decide +kernel) rfl rfl .nil (by decide) (map5 rfl (strs_ren _ _) (bools_ren _ _) rfl rfl) rfl rfl (all5 rfl (strs_lt _ _) (bools_lt _ _) rfl rfl) rfl (all5 rfl (strs_lt _ _) (bools_lt _ _) rfl rfl) rfl rfl rfl rfl (zip5 rfl (os_strs _ _) (os_bools _ _) rfl rfl))
    exact .nil
  case hB => decide +kernel
  case hI => kernel_rfl
  show Cwp _ _ _ _
  apply one_region
  case hc =>
    apply ChainL.of (some 62) rfl rfl
    case h => (first | exact w_bin rfl rfl rfl (add_i64 rfl (by omega) (by omega)) | exact w_bin rfl rfl rfl rfl)
    apply ChainL.of (some 45) rfl rfl
    case h => exact step_move rfl
    exact .nil
  show LoopN _ _ _ _ _
  refine loop_round ?_
  refine cwp_seq ?_
  apply one_region
  case hc =>
    apply ChainL.of (some 46) rfl rfl
    case h => (first | exact w_bin rfl rfl rfl (lss_t (by omega)) | exact w_bin rfl rfl rfl (lss_f (by omega)) | exact w_bin rfl rfl rfl rfl)
    exact .nil
  show Cwp _ _ _ _
  refine cwp_seq ?_
  refine cond_t (by first | rfl | kernel_rfl) ?_
  refine cwp_skip ?_
  show Cwp _ _ _ _
  refine cwp_seq ?_
  refine cwp_block ?_
  refine cwp_seq ?_
  apply one_region
  case hc =>
    apply ChainL.of (some 47) rfl rfl
    case h => exact step_move rfl
    apply ChainL.of (some 48) rfl rfl
    case h => (first | exact w_index_own tab rfl rfl rfl rfl rfl rfl rfl rfl (by omega) (by omega) rfl | exact w_index_lst tab rfl rfl rfl rfl rfl rfl rfl (by omega) (by assumption))
    apply ChainL.of (some 49) rfl rfl
    case h => (first | exact w_load tab rfl rfl rfl rfl rfl rfl rfl | exact w_load tab rfl rfl rfl rfl rfl (by assumption) rfl | exact w_load_elt tab rfl rfl rfl rfl rfl | exact w_loads tab rfl rfl rfl rfl rfl rfl rfl rfl | exact w_load_tab tab rfl rfl rfl rfl (.head _) (by kernel_rfl) | exact w_loads_elt tab rfl rfl rfl rfl rfl rfl)
    apply ChainL.of (some 4) rfl rfl
    case h => exact w_alloc tab rfl rfl 102 rfl
    apply ChainL.of (some 3) rfl rfl
    case h => exact step_assign rfl
    apply ChainL.of none rfl rfl
    case h => (first | exact w_store tab rfl rfl rfl rfl rfl rfl rfl rfl rfl (Nat.le_of_ble_eq_true rfl) rfl rfl | exact w_store tab rfl rfl rfl rfl rfl (by assumption) rfl rfl rfl (Nat.le_of_ble_eq_true rfl) rfl rfl)
    exact .nil
  show Cwp _ _ _ _
  apply one_region_draw [0, 0, 0, 4, 12, 28, 60, 124, 252, 0, 1020, 2047] rfl
  case hc =>
    apply ChainL.of (some 50) rfl rfl
    case h => exact step_move rfl
    apply ChainL.of (some 51) rfl rfl
    case h => (first | exact w_load tab rfl rfl rfl rfl rfl rfl rfl | exact w_load tab rfl rfl rfl rfl rfl (by assumption) rfl | exact w_load_elt tab rfl rfl rfl rfl rfl | exact w_loads tab rfl rfl rfl rfl rfl rfl rfl rfl | exact w_load_tab tab rfl rfl rfl rfl (.head _) (by kernel_rfl) | exact w_loads_elt tab rfl rfl rfl rfl rfl rfl)
    apply ChainL.of (some 52) rfl rfl
    case h => exact step_move rfl
    apply ChainL.of (some 53) rfl rfl
    case h => (first | exact step_nilCheck rfl rfl | exact step_nilCheck_elt rfl rfl)
    apply ChainL.of (some 54) rfl rfl
    case h => (first | exact w_fieldAddr tab rfl rfl rfl rfl (by decide) rfl rfl | exact w_fieldAddr_elt tab rfl rfl rfl rfl (by decide) rfl rfl)
    apply ChainL.of (some 55) rfl rfl
    case h => (first | exact w_load tab rfl rfl rfl rfl rfl rfl rfl | exact w_load tab rfl rfl rfl rfl rfl (by assumption) rfl | exact w_load_elt tab rfl rfl rfl rfl rfl | exact w_loads tab rfl rfl rfl rfl rfl rfl rfl rfl | exact w_load_tab tab rfl rfl rfl rfl (.head _) (by kernel_rfl) | exact w_loads_elt tab rfl rfl rfl rfl rfl rfl)
    apply ChainL.of (some 56) rfl rfl
    case h => (first | exact w_index_own tab rfl rfl rfl rfl rfl rfl rfl rfl (by omega) (by omega) rfl | exact w_index_lst tab rfl rfl rfl rfl rfl rfl rfl (by omega) (by assumption))
    apply ChainL.of (some 57) rfl rfl
    case h => (first | exact w_fieldAddr tab rfl rfl rfl rfl (by decide) rfl rfl | exact w_fieldAddr_elt tab rfl rfl rfl rfl (by decide) rfl rfl)
    apply ChainL.of (some 58) rfl rfl
    case h => (first | exact w_load tab rfl rfl rfl rfl rfl rfl rfl | exact w_load tab rfl rfl rfl rfl rfl (by assumption) rfl | exact w_load_elt tab rfl rfl rfl rfl rfl | exact w_loads tab rfl rfl rfl rfl rfl rfl rfl rfl | exact w_load_tab tab rfl rfl rfl rfl (.head _) (by kernel_rfl) | exact w_loads_elt tab rfl rfl rfl rfl rfl rfl)
    apply ChainL.of (some 59) rfl rfl
    case h => exact step_move rfl
    apply ChainL.of (some 60) rfl rfl
    case h => (first | exact w_call f0 [] [] [] Try.func28 rfl (by decide +kernel) rfl rfl .nil (by decide) rfl rfl rfl rfl rfl rfl rfl rfl rfl rfl rfl | exact w_call f1 [] [] [] Try.func28 rfl (by decide +kernel) rfl rfl .nil (by decide) rfl rfl rfl rfl rfl rfl rfl rfl rfl rfl rfl)
    apply ChainL.of (some 61) rfl rfl
    case h => (first | exact w_call s0 [] [0, 1, 2, 3, 4] [] Try.func21 rfl (by decide +kernel) rfl rfl .nil (by decide) (map5 rfl (strs_ren _ _) (bools_ren _ _) rfl rfl) rfl rfl (all5 rfl (strs_lt _ _) (bools_lt _ _) rfl rfl) rfl (all5 rfl (strs_lt _ _) (bools_lt _ _) rfl rfl) rfl rfl rfl rfl (zip5 rfl (os_strs _ _) (os_bools _ _) rfl rfl) | exact w_call s1 [] [0, 1, 2, 3, 4] [] Try.func21 rfl (by decide +kernel) rfl rfl .nil (by decide) (map5 rfl (strs_ren _ _) (bools_ren _ _) rfl rfl) rfl rfl (all5 rfl (strs_lt _ _) (bools_lt _ _) rfl rfl) rfl (all5 rfl (strs_lt _ _) (bools_lt _ _) rfl rfl) rfl rfl rfl rfl (zip5 rfl (os_strs _ _) (os_bools _ _) rfl rfl))
    exact .nil
  case hB => decide +kernel
  case hI => kernel_rfl
  show Cwp _ _ _ _
  apply one_region
  case hc =>
    apply ChainL.of (some 62) rfl rfl
    case h => (first | exact w_bin rfl rfl rfl (add_i64 rfl (by omega) (by omega)) | exact w_bin rfl rfl rfl rfl)
    apply ChainL.of (some 45) rfl rfl
    case h => exact step_move rfl
    exact .nil
  show LoopN _ _ _ _ _
  refine loop_round ?_
  refine cwp_seq ?_
  apply one_region
  case hc =>
    apply ChainL.of (some 46) rfl rfl
    case h => (first | exact w_bin rfl rfl rfl (lss_t (by omega)) | exact w_bin rfl rfl rfl (lss_f (by omega)) | exact w_bin rfl rfl rfl rfl)
    exact .nil
  show Cwp _ _ _ _
  refine cwp_seq ?_
  refine cond_f (by first | rfl | kernel_rfl) ?_
  refine cwp_exit ?_
  show Cwp _ _ _ _
  refine cwp_seq ?_
  apply one_region_draw [0, 0, 0, 0, 8, 24, 56, 120, 121, 377, 889, 2043, 4091, 8187, 16383, 32767, 65535] rfl
  case hc =>
    apply ChainL.of (some 63) rfl rfl
    case h => exact step_move rfl
    apply ChainL.of (some 64) rfl rfl
    case h => exact step_move rfl
    apply ChainL.of (some 65) rfl rfl
    case h => exact step_move rfl
    apply ChainL.of (some 66) rfl rfl
    case h => exact step_move rfl
    apply ChainL.of (some 67) rfl rfl
    case h => (first | exact step_nilCheck rfl rfl | exact step_nilCheck_elt rfl rfl)
    apply ChainL.of (some 68) rfl rfl
    case h => (first | exact w_fieldAddr tab rfl rfl rfl rfl (by decide) rfl rfl | exact w_fieldAddr_elt tab rfl rfl rfl rfl (by decide) rfl rfl)
    apply ChainL.of (some 69) rfl rfl
    case h => (first | exact w_load tab rfl rfl rfl rfl rfl rfl rfl | exact w_load tab rfl rfl rfl rfl rfl (by assumption) rfl | exact w_load_elt tab rfl rfl rfl rfl rfl | exact w_loads tab rfl rfl rfl rfl rfl rfl rfl rfl | exact w_load_tab tab rfl rfl rfl rfl (.head _) (by kernel_rfl) | exact w_loads_elt tab rfl rfl rfl rfl rfl rfl)
    apply ChainL.of (some 70) rfl rfl
    case h => exact w_cut_own_none (lo := some (.const (.int .i64 1))) (hi := none) tab rfl rfl rfl rfl rfl 1 ⟨.i64, rfl⟩ rfl (Nat.le_refl 1)
    apply ChainL.of (some 71) rfl rfl
    case h => (first | exact step_nilCheck rfl rfl | exact step_nilCheck_elt rfl rfl)
    apply ChainL.of (some 72) rfl rfl
    case h => (first | exact w_fieldAddr tab rfl rfl rfl rfl (by decide) rfl rfl | exact w_fieldAddr_elt tab rfl rfl rfl rfl (by decide) rfl rfl)
    apply ChainL.of none rfl rfl
    case h => (first | exact w_store tab rfl rfl rfl rfl rfl rfl rfl rfl rfl (Nat.le_of_ble_eq_true rfl) rfl rfl | exact w_store tab rfl rfl rfl rfl rfl (by assumption) rfl rfl rfl (Nat.le_of_ble_eq_true rfl) rfl rfl)
    apply ChainL.of (some 73) rfl rfl
    case h => (first | exact step_nilCheck rfl rfl | exact step_nilCheck_elt rfl rfl)
    apply ChainL.of (some 74) rfl rfl
    case h => (first | exact w_fieldAddr tab rfl rfl rfl rfl (by decide) rfl rfl | exact w_fieldAddr_elt tab rfl rfl rfl rfl (by decide) rfl rfl)
    apply ChainL.of none rfl rfl
    case h => (first | exact w_store tab rfl rfl rfl rfl rfl rfl rfl rfl rfl (Nat.le_of_ble_eq_true rfl) rfl rfl | exact w_store tab rfl rfl rfl rfl rfl (by assumption) rfl rfl rfl (Nat.le_of_ble_eq_true rfl) rfl rfl)
    apply ChainL.of (some 75) rfl rfl
    case h => (first | exact step_nilCheck rfl rfl | exact step_nilCheck_elt rfl rfl)
    apply ChainL.of (some 76) rfl rfl
    case h => (first | exact w_fieldAddr tab rfl rfl rfl rfl (by decide) rfl rfl | exact w_fieldAddr_elt tab rfl rfl rfl rfl (by decide) rfl rfl)
    apply ChainL.of none rfl rfl
    case h => (first | exact w_store tab rfl rfl rfl rfl rfl rfl rfl rfl rfl (Nat.le_of_ble_eq_true rfl) rfl rfl | exact w_store tab rfl rfl rfl rfl rfl (by assumption) rfl rfl rfl (Nat.le_of_ble_eq_true rfl) rfl rfl)
    exact .nil
  case hB => decide +kernel
  case hI => kernel_rfl
  show Cwp _ _ _ _
  refine cwp_seq ?_
  apply one_region
  case hc =>
    apply ChainL.of (some 77) rfl rfl
    case h => exact step_move rfl
    apply ChainL.of (some 78) rfl rfl
    case h => (first | exact step_nilCheck rfl rfl | exact step_nilCheck_elt rfl rfl)
    apply ChainL.of (some 79) rfl rfl
    case h => (first | exact w_fieldAddr tab rfl rfl rfl rfl (by decide) rfl rfl | exact w_fieldAddr_elt tab rfl rfl rfl rfl (by decide) rfl rfl)
    apply ChainL.of (some 80) rfl rfl
    case h => (first | exact w_load tab rfl rfl rfl rfl rfl rfl rfl | exact w_load tab rfl rfl rfl rfl rfl (by assumption) rfl | exact w_load_elt tab rfl rfl rfl rfl rfl | exact w_loads tab rfl rfl rfl rfl rfl rfl rfl rfl | exact w_load_tab tab rfl rfl rfl rfl (.head _) (by kernel_rfl) | exact w_loads_elt tab rfl rfl rfl rfl rfl rfl)
    apply ChainL.of (some 81) rfl rfl
    case h => (first | exact w_bin rfl rfl rfl (add_i64 rfl (by omega) (by omega)) | exact w_bin rfl rfl rfl rfl)
    apply ChainL.of (some 82) rfl rfl
    case h => (first | exact step_nilCheck rfl rfl | exact step_nilCheck_elt rfl rfl)
    apply ChainL.of (some 83) rfl rfl
    case h => (first | exact w_fieldAddr tab rfl rfl rfl rfl (by decide) rfl rfl | exact w_fieldAddr_elt tab rfl rfl rfl rfl (by decide) rfl rfl)
    apply ChainL.of none rfl rfl
    case h => (first | exact w_store tab rfl rfl rfl rfl rfl rfl rfl rfl rfl (Nat.le_of_ble_eq_true rfl) rfl rfl | exact w_store tab rfl rfl rfl rfl rfl (by assumption) rfl rfl rfl (Nat.le_of_ble_eq_true rfl) rfl rfl)
    exact .nil
  show Cwp _ _ _ _
  refine cwp_seq ?_
  apply one_region
  case hc =>
    apply ChainL.of (some 2) rfl rfl
    case h => exact step_assign rfl
    exact .nil
  show Cwp _ _ _ _
  refine cwp_ret ?_
  exact ⟨.inl rfl, resH_one rfl rfl, objs_ok rfl⟩
theorem actfail_5_3 (n a fails : Int) (h0 : 0 ≤ n) (h1 : a < n + 1) (h2 : 0 < a) (h3 : n ≤ 100) (h4 : 0 ≤ fails) (h5 : fails ≤ 100) (D : List ByteArray) (T : List Bool) (hD : D.length = 9) (hT : T.length = 9) :
    HCall Try.prog 20 [dsk (.own 3 0 3) (.own 4 0 1) n n fails false, strs D, bools T, othO 3, cutO a (.v (.slice none 0 0))] [.ref 0 0 0]
    [.ob (dsk (.v (.slice none 0 0)) (.lst 2 []) (n + 1) (n + 1) (fails + 1) true), .ob (strs (itD [] D 3)), .ob (bools (itT [] T 3)), .ob (othO 3), .ob (cutO a (.v (.slice none 0 0)))] (.v (.bool true)) := by
  have s0 := settle_5 [] 0 (.own 3 0 3) (.own 4 0 1) (n + 1) (n + 1) fails false D T (othO 3) (cutO a (.v (.slice none 0 0))) hD hT
  have f0 := fate_nil 0
  have s1 := settle_5 [] 1 (.own 3 0 3) (.own 4 0 1) (n + 1) (n + 1) fails false D T (othO 3) (cutO a (.v (.slice none 0 0))) hD hT
  have f1 := fate_nil 1
  have s2 := settle_5 [] 2 (.own 3 0 3) (.own 4 0 1) (n + 1) (n + 1) fails false D T (othO 3) (cutO a (.v (.slice none 0 0))) hD hT
  have f2 := fate_nil 2
  refine HCall.of Try.func20 rfl (by decide +kernel) (Nat.le_of_ble_eq_true rfl) ?_
  refine cwp_seq ?_
  apply one_region
  case hc =>
    apply ChainL.of (some 2) rfl rfl
    case h => exact step_assign rfl
    exact .nil
  show Cwp _ _ _ _
  refine cwp_seq ?_
  apply one_region
  case hc =>
    apply ChainL.of (some 5) rfl rfl
    case h => exact step_move rfl
    apply ChainL.of (some 6) rfl rfl
    case h => (first | exact step_nilCheck rfl rfl | exact step_nilCheck_elt rfl rfl)
    apply ChainL.of (some 7) rfl rfl
    case h => (first | exact w_fieldAddr tab rfl rfl rfl rfl (by decide) rfl rfl | exact w_fieldAddr_elt tab rfl rfl rfl rfl (by decide) rfl rfl)
    apply ChainL.of (some 8) rfl rfl
    case h => (first | exact w_load tab rfl rfl rfl rfl rfl rfl rfl | exact w_load tab rfl rfl rfl rfl rfl (by assumption) rfl | exact w_load_elt tab rfl rfl rfl rfl rfl | exact w_loads tab rfl rfl rfl rfl rfl rfl rfl rfl | exact w_load_tab tab rfl rfl rfl rfl (.head _) (by kernel_rfl) | exact w_loads_elt tab rfl rfl rfl rfl rfl rfl)
    apply ChainL.of (some 9) rfl rfl
    case h => (first | exact w_bin rfl rfl rfl (add_i64 rfl (by omega) (by omega)) | exact w_bin rfl rfl rfl rfl)
    apply ChainL.of (some 10) rfl rfl
    case h => (first | exact step_nilCheck rfl rfl | exact step_nilCheck_elt rfl rfl)
    apply ChainL.of (some 11) rfl rfl
    case h => (first | exact w_fieldAddr tab rfl rfl rfl rfl (by decide) rfl rfl | exact w_fieldAddr_elt tab rfl rfl rfl rfl (by decide) rfl rfl)
    apply ChainL.of none rfl rfl
    case h => (first | exact w_store tab rfl rfl rfl rfl rfl rfl rfl rfl rfl (Nat.le_of_ble_eq_true rfl) rfl rfl | exact w_store tab rfl rfl rfl rfl rfl (by assumption) rfl rfl rfl (Nat.le_of_ble_eq_true rfl) rfl rfl)
    exact .nil
  show Cwp _ _ _ _
  refine cwp_seq ?_
  apply one_region
  case hc =>
    apply ChainL.of (some 12) rfl rfl
    case h => exact step_move rfl
    apply ChainL.of (some 13) rfl rfl
    case h => (first | exact step_nilCheck rfl rfl | exact step_nilCheck_elt rfl rfl)
    apply ChainL.of (some 14) rfl rfl
    case h => (first | exact w_fieldAddr tab rfl rfl rfl rfl (by decide) rfl rfl | exact w_fieldAddr_elt tab rfl rfl rfl rfl (by decide) rfl rfl)
    apply ChainL.of (some 15) rfl rfl
    case h => (first | exact w_load tab rfl rfl rfl rfl rfl rfl rfl | exact w_load tab rfl rfl rfl rfl rfl (by assumption) rfl | exact w_load_elt tab rfl rfl rfl rfl rfl | exact w_loads tab rfl rfl rfl rfl rfl rfl rfl rfl | exact w_load_tab tab rfl rfl rfl rfl (.head _) (by kernel_rfl) | exact w_loads_elt tab rfl rfl rfl rfl rfl rfl)
    apply ChainL.of (some 16) rfl rfl
    case h => (first | exact w_bin rfl rfl rfl (add_i64 rfl (by omega) (by omega)) | exact w_bin rfl rfl rfl rfl)
    apply ChainL.of (some 17) rfl rfl
    case h => (first | exact step_nilCheck rfl rfl | exact step_nilCheck_elt rfl rfl)
    apply ChainL.of (some 18) rfl rfl
    case h => (first | exact w_fieldAddr tab rfl rfl rfl rfl (by decide) rfl rfl | exact w_fieldAddr_elt tab rfl rfl rfl rfl (by decide) rfl rfl)
    apply ChainL.of none rfl rfl
    case h => (first | exact w_store tab rfl rfl rfl rfl rfl rfl rfl rfl rfl (Nat.le_of_ble_eq_true rfl) rfl rfl | exact w_store tab rfl rfl rfl rfl rfl (by assumption) rfl rfl rfl (Nat.le_of_ble_eq_true rfl) rfl rfl)
    exact .nil
  show Cwp _ _ _ _
  refine cwp_seq ?_
  refine cwp_seq ?_
  apply one_region_draw [0, 1, 3, 7, 15, 31, 63, 127, 255, 511, 1023, 127, 2175, 6271, 14463, 30847, 63615, 129151, 260223, 524287, 1048575] rfl
  case hc =>
    apply ChainL.of (some 19) rfl rfl
    case h => exact step_move rfl
    apply ChainL.of (some 20) rfl rfl
    case h => (first | exact step_nilCheck rfl rfl | exact step_nilCheck_elt rfl rfl)
    apply ChainL.of (some 21) rfl rfl
    case h => (first | exact w_fieldAddr tab rfl rfl rfl rfl (by decide) rfl rfl | exact w_fieldAddr_elt tab rfl rfl rfl rfl (by decide) rfl rfl)
    apply ChainL.of (some 22) rfl rfl
    case h => (first | exact w_load tab rfl rfl rfl rfl rfl rfl rfl | exact w_load tab rfl rfl rfl rfl rfl (by assumption) rfl | exact w_load_elt tab rfl rfl rfl rfl rfl | exact w_loads tab rfl rfl rfl rfl rfl rfl rfl rfl | exact w_load_tab tab rfl rfl rfl rfl (.head _) (by kernel_rfl) | exact w_loads_elt tab rfl rfl rfl rfl rfl rfl)
    apply ChainL.of (some 23) rfl rfl
    case h => exact w_len tab rfl rfl rfl (.own rfl rfl rfl) (n := 1) (by kernel_rfl)
    apply ChainL.of (some 24) rfl rfl
    case h => (first | exact w_bin rfl rfl rfl (eql_t (by omega)) | exact w_bin rfl rfl rfl (eql_f (by omega)) | exact w_bin rfl rfl rfl rfl)
    apply ChainL.of (some 25) rfl rfl
    case h => exact step_move rfl
    first
    | apply ChainL.off (some 26) 6 25 false rfl rfl rfl rfl
    | apply ChainL.on (some 26) 6 25 false rfl rfl rfl rfl
      case h => exact step_move rfl
    first
    | apply ChainL.off (some 27) 6 25 false rfl rfl rfl rfl
    | apply ChainL.on (some 27) 6 25 false rfl rfl rfl rfl
      case h => (first | exact step_nilCheck rfl rfl | exact step_nilCheck_elt rfl rfl)
    first
    | apply ChainL.off (some 28) 6 25 false rfl rfl rfl rfl
    | apply ChainL.on (some 28) 6 25 false rfl rfl rfl rfl
      case h => (first | exact w_fieldAddr tab rfl rfl rfl rfl (by decide) rfl rfl | exact w_fieldAddr_elt tab rfl rfl rfl rfl (by decide) rfl rfl)
    first
    | apply ChainL.off (some 29) 6 25 false rfl rfl rfl rfl
    | apply ChainL.on (some 29) 6 25 false rfl rfl rfl rfl
      case h => (first | exact w_load tab rfl rfl rfl rfl rfl rfl rfl | exact w_load tab rfl rfl rfl rfl rfl (by assumption) rfl | exact w_load_elt tab rfl rfl rfl rfl rfl | exact w_loads tab rfl rfl rfl rfl rfl rfl rfl rfl | exact w_load_tab tab rfl rfl rfl rfl (.head _) (by kernel_rfl) | exact w_loads_elt tab rfl rfl rfl rfl rfl rfl)
    first
    | apply ChainL.off (some 30) 6 25 false rfl rfl rfl rfl
    | apply ChainL.on (some 30) 6 25 false rfl rfl rfl rfl
      case h => exact step_move rfl
    first
    | apply ChainL.off (some 31) 6 25 false rfl rfl rfl rfl
    | apply ChainL.on (some 31) 6 25 false rfl rfl rfl rfl
      case h => (first | exact step_nilCheck rfl rfl | exact step_nilCheck_elt rfl rfl)
    first
    | apply ChainL.off (some 32) 6 25 false rfl rfl rfl rfl
    | apply ChainL.on (some 32) 6 25 false rfl rfl rfl rfl
      case h => (first | exact w_fieldAddr tab rfl rfl rfl rfl (by decide) rfl rfl | exact w_fieldAddr_elt tab rfl rfl rfl rfl (by decide) rfl rfl)
    first
    | apply ChainL.off (some 33) 6 25 false rfl rfl rfl rfl
    | apply ChainL.on (some 33) 6 25 false rfl rfl rfl rfl
      case h => (first | exact w_load tab rfl rfl rfl rfl rfl rfl rfl | exact w_load tab rfl rfl rfl rfl rfl (by assumption) rfl | exact w_load_elt tab rfl rfl rfl rfl rfl | exact w_loads tab rfl rfl rfl rfl rfl rfl rfl rfl | exact w_load_tab tab rfl rfl rfl rfl (.head _) (by kernel_rfl) | exact w_loads_elt tab rfl rfl rfl rfl rfl rfl)
    first
    | apply ChainL.off (some 34) 6 25 false rfl rfl rfl rfl
    | apply ChainL.on (some 34) 6 25 false rfl rfl rfl rfl
      case h => (first | exact w_index_own tab rfl rfl rfl rfl rfl rfl rfl rfl (by omega) (by omega) rfl | exact w_index_lst tab rfl rfl rfl rfl rfl rfl rfl (by omega) (by assumption))
    first
    | apply ChainL.off (some 35) 6 25 false rfl rfl rfl rfl
    | apply ChainL.on (some 35) 6 25 false rfl rfl rfl rfl
      case h => (first | exact w_fieldAddr tab rfl rfl rfl rfl (by decide) rfl rfl | exact w_fieldAddr_elt tab rfl rfl rfl rfl (by decide) rfl rfl)
    first
    | apply ChainL.off (some 36) 6 25 false rfl rfl rfl rfl
    | apply ChainL.on (some 36) 6 25 false rfl rfl rfl rfl
      case h => (first | exact w_load tab rfl rfl rfl rfl rfl rfl rfl | exact w_load tab rfl rfl rfl rfl rfl (by assumption) rfl | exact w_load_elt tab rfl rfl rfl rfl rfl | exact w_loads tab rfl rfl rfl rfl rfl rfl rfl rfl | exact w_load_tab tab rfl rfl rfl rfl (.head _) (by kernel_rfl) | exact w_loads_elt tab rfl rfl rfl rfl rfl rfl)
    first
    | apply ChainL.off (some 37) 6 25 false rfl rfl rfl rfl
    | apply ChainL.on (some 37) 6 25 false rfl rfl rfl rfl
      case h => (first | exact w_max rfl rfl rfl (if_pos (by omega)) | exact w_max rfl rfl rfl (if_neg (by omega)) | exact w_max rfl rfl rfl rfl)
    first
    | apply ChainL.off (some 38) 6 25 false rfl rfl rfl rfl
    | apply ChainL.on (some 38) 6 25 false rfl rfl rfl rfl
      case h => (first | exact w_bin rfl rfl rfl (leq_t (by omega)) | exact w_bin rfl rfl rfl (leq_f (by omega)) | exact w_bin rfl rfl rfl rfl)
    apply ChainL.of (some 39) rfl rfl
    case h => exact step_pick rfl rfl
    exact .nil
  case hB => decide +kernel
  case hI => kernel_rfl
  show Cwp _ _ _ _
  refine cond_f (by first | rfl | kernel_rfl) ?_
  refine cwp_skip ?_
  show Cwp _ _ _ _
  refine cwp_seq ?_
  refine cwp_seq ?_
  apply one_region
  case hc =>
    apply ChainL.of (some 40) rfl rfl
    case h => exact step_move rfl
    apply ChainL.of (some 41) rfl rfl
    case h => (first | exact step_nilCheck rfl rfl | exact step_nilCheck_elt rfl rfl)
    apply ChainL.of (some 42) rfl rfl
    case h => (first | exact w_fieldAddr tab rfl rfl rfl rfl (by decide) rfl rfl | exact w_fieldAddr_elt tab rfl rfl rfl rfl (by decide) rfl rfl)
    apply ChainL.of (some 43) rfl rfl
    case h => (first | exact w_load tab rfl rfl rfl rfl rfl rfl rfl | exact w_load tab rfl rfl rfl rfl rfl (by assumption) rfl | exact w_load_elt tab rfl rfl rfl rfl rfl | exact w_loads tab rfl rfl rfl rfl rfl rfl rfl rfl | exact w_load_tab tab rfl rfl rfl rfl (.head _) (by kernel_rfl) | exact w_loads_elt tab rfl rfl rfl rfl rfl rfl)
    apply ChainL.of (some 44) rfl rfl
    case h => exact w_len tab rfl rfl rfl (.own rfl rfl rfl) (n := 3) (by kernel_rfl)
    apply ChainL.of (some 45) rfl rfl
    case h => exact step_move rfl
    exact .nil
  show Cwp _ _ _ _
  refine cwp_block ?_
  refine cwp_loopN 4 ?_
  refine loop_round ?_
  refine cwp_seq ?_
  apply one_region
  case hc =>
    apply ChainL.of (some 46) rfl rfl
    case h => (first | exact w_bin rfl rfl rfl (lss_t (by omega)) | exact w_bin rfl rfl rfl (lss_f (by omega)) | exact w_bin rfl rfl rfl rfl)
    exact .nil
  show Cwp _ _ _ _
  refine cwp_seq ?_
  refine cond_t (by first | rfl | kernel_rfl) ?_
  refine cwp_skip ?_
  show Cwp _ _ _ _
  refine cwp_seq ?_
  refine cwp_block ?_
  refine cwp_seq ?_
  apply one_region
  case hc =>
    apply ChainL.of (some 47) rfl rfl
    case h => exact step_move rfl
    apply ChainL.of (some 48) rfl rfl
    case h => (first | exact w_index_own tab rfl rfl rfl rfl rfl rfl rfl rfl (by omega) (by omega) rfl | exact w_index_lst tab rfl rfl rfl rfl rfl rfl rfl (by omega) (by assumption))
    apply ChainL.of (some 49) rfl rfl
    case h => (first | exact w_load tab rfl rfl rfl rfl rfl rfl rfl | exact w_load tab rfl rfl rfl rfl rfl (by assumption) rfl | exact w_load_elt tab rfl rfl rfl rfl rfl | exact w_loads tab rfl rfl rfl rfl rfl rfl rfl rfl | exact w_load_tab tab rfl rfl rfl rfl (.head _) (by kernel_rfl) | exact w_loads_elt tab rfl rfl rfl rfl rfl rfl)
    apply ChainL.of (some 4) rfl rfl
    case h => exact w_alloc tab rfl rfl 103 rfl
    apply ChainL.of (some 3) rfl rfl
    case h => exact step_assign rfl
    apply ChainL.of none rfl rfl
    case h => (first | exact w_store tab rfl rfl rfl rfl rfl rfl rfl rfl rfl (Nat.le_of_ble_eq_true rfl) rfl rfl | exact w_store tab rfl rfl rfl rfl rfl (by assumption) rfl rfl rfl (Nat.le_of_ble_eq_true rfl) rfl rfl)
    exact .nil
  show Cwp _ _ _ _
  apply one_region_draw [0, 0, 0, 4, 12, 28, 60, 124, 252, 0, 1020, 2047] rfl
  case hc =>
    apply ChainL.of (some 50) rfl rfl
    case h => exact step_move rfl
    apply ChainL.of (some 51) rfl rfl
    case h => (first | exact w_load tab rfl rfl rfl rfl rfl rfl rfl | exact w_load tab rfl rfl rfl rfl rfl (by assumption) rfl | exact w_load_elt tab rfl rfl rfl rfl rfl | exact w_loads tab rfl rfl rfl rfl rfl rfl rfl rfl | exact w_load_tab tab rfl rfl rfl rfl (.head _) (by kernel_rfl) | exact w_loads_elt tab rfl rfl rfl rfl rfl rfl)
    apply ChainL.of (some 52) rfl rfl
    case h => exact step_move rfl
    apply ChainL.of (some 53) rfl rfl
    case h => (first | exact step_nilCheck rfl rfl | exact step_nilCheck_elt rfl rfl)
    apply ChainL.of (some 54) rfl rfl
    case h => (first | exact w_fieldAddr tab rfl rfl rfl rfl (by decide) rfl rfl | exact w_fieldAddr_elt tab rfl rfl rfl rfl (by decide) rfl rfl)
    apply ChainL.of (some 55) rfl rfl
    case h => (first | exact w_load tab rfl rfl rfl rfl rfl rfl rfl | exact w_load tab rfl rfl rfl rfl rfl (by assumption) rfl | exact w_load_elt tab rfl rfl rfl rfl rfl | exact w_loads tab rfl rfl rfl rfl rfl rfl rfl rfl | exact w_load_tab tab rfl rfl rfl rfl (.head _) (by kernel_rfl) | exact w_loads_elt tab rfl rfl rfl rfl rfl rfl)
    apply ChainL.of (some 56) rfl rfl
    case h => (first | exact w_index_own tab rfl rfl rfl rfl rfl rfl rfl rfl (by omega) (by omega) rfl | exact w_index_lst tab rfl rfl rfl rfl rfl rfl rfl (by omega) (by assumption))
    apply ChainL.of (some 57) rfl rfl
    case h => (first | exact w_fieldAddr tab rfl rfl rfl rfl (by decide) rfl rfl | exact w_fieldAddr_elt tab rfl rfl rfl rfl (by decide) rfl rfl)
    apply ChainL.of (some 58) rfl rfl
    case h => (first | exact w_load tab rfl rfl rfl rfl rfl rfl rfl | exact w_load tab rfl rfl rfl rfl rfl (by assumption) rfl | exact w_load_elt tab rfl rfl rfl rfl rfl | exact w_loads tab rfl rfl rfl rfl rfl rfl rfl rfl | exact w_load_tab tab rfl rfl rfl rfl (.head _) (by kernel_rfl) | exact w_loads_elt tab rfl rfl rfl rfl rfl rfl)
    apply ChainL.of (some 59) rfl rfl
    case h => exact step_move rfl
    apply ChainL.of (some 60) rfl rfl
    case h => (first | exact w_call f0 [] [] [] Try.func28 rfl (by decide +kernel) rfl rfl .nil (by decide) rfl rfl rfl rfl rfl rfl rfl rfl rfl rfl rfl | exact w_call f1 [] [] [] Try.func28 rfl (by decide +kernel) rfl rfl .nil (by decide) rfl rfl rfl rfl rfl rfl rfl rfl rfl rfl rfl | exact w_call f2 [] [] [] Try.func28 rfl (by decide +kernel) rfl rfl .nil (by decide) rfl rfl rfl rfl rfl rfl rfl rfl rfl rfl rfl)
    apply ChainL.of (some 61) rfl rfl
    case h => (first | exact w_call s0 [] [0, 1, 2, 3, 4] [] Try.func21 rfl (by decide +kernel) rfl rfl .nil (by decide) (map5 rfl (strs_ren _ _) (bools_ren _ _) rfl rfl) rfl rfl (all5 rfl (strs_lt _ _) (bools_lt _ _) rfl rfl) rfl (all5 rfl (strs_lt _ _) (bools_lt _ _) rfl rfl) rfl rfl rfl rfl (zip5 rfl (os_strs _ _) (os_bools _ _) rfl rfl) | exact w_call s1 [] [0, 1, 2, 3, 4] [] Try.func21 rfl (by decide +kernel) rfl rfl .nil (by decide) (map5 rfl (strs_ren _ _) (bools_ren _ _) rfl rfl) rfl rfl (all5 rfl (strs_lt _ _) (bools_lt _ _) rfl rfl) rfl (all5 rfl (strs_lt _ _) (bools_lt _ _) rfl rfl) rfl rfl rfl rfl (zip5 rfl (os_strs _ _) (os_bools _ _) rfl rfl) | exact w_call s2 [] [0, 1, 2, 3, 4] [] Try.func21 rfl (by decide +kernel) rfl rfl .nil (by decide) (map5 rfl (strs_ren _ _) (bools_ren _ _) rfl rfl) rfl rfl (all5 rfl (strs_lt _ _) (bools_lt _ _) rfl rfl) rfl (all5 rfl (strs_lt _ _) (bools_lt _ _) rfl rfl) rfl rfl rfl rfl (zip5 rfl (os_strs _ _) (os_bools _ _) rfl rfl))
    exact .nil
  case hB => decide +kernel
  case hI => kernel_rfl
  show Cwp _ _ _ _
  apply one_region
  case hc =>
    apply ChainL.of (some 62) rfl rfl
    case h => (first | exact w_bin rfl rfl rfl (add_i64 rfl (by omega) (by omega)) | exact w_bin rfl rfl rfl rfl)
    apply ChainL.of (some 45) rfl rfl
    case h => exact step_move rfl
    exact .nil
  show LoopN _ _ _ _ _
  refine loop_round ?_
  refine cwp_seq ?_
  apply one_region
  case hc =>
    apply ChainL.of (some 46) rfl rfl
    case h => (first | exact w_bin rfl rfl rfl (lss_t (by omega)) | exact w_bin rfl rfl rfl (lss_f (by omega)) | exact w_bin rfl rfl rfl rfl)
    exact .nil
  show Cwp _ _ _ _
  refine cwp_seq ?_
  refine cond_t (by first | rfl | kernel_rfl) ?_
  refine cwp_skip ?_
  show Cwp _ _ _ _
  refine cwp_seq ?_
  refine cwp_block ?_
  refine cwp_seq ?_
  apply one_region
  case hc =>
    apply ChainL.of (some 47) rfl rfl
    case h => exact step_move rfl
    apply ChainL.of (some 48) rfl rfl
    case h => (first | exact w_index_own tab rfl rfl rfl rfl rfl rfl rfl rfl (by omega) (by omega) rfl | exact w_index_lst tab rfl rfl rfl rfl rfl rfl rfl (by omega) (by assumption))
    apply ChainL.of (some 49) rfl rfl
    case h => (first | exact w_load tab rfl rfl rfl rfl rfl rfl rfl | exact w_load tab rfl rfl rfl rfl rfl (by assumption) rfl | exact w_load_elt tab rfl rfl rfl rfl rfl | exact w_loads tab rfl rfl rfl rfl rfl rfl rfl rfl | exact w_load_tab tab rfl rfl rfl rfl (.head _) (by kernel_rfl) | exact w_loads_elt tab rfl rfl rfl rfl rfl rfl)
    apply ChainL.of (some 4) rfl rfl
    case h => exact w_alloc tab rfl rfl 104 rfl
    apply ChainL.of (some 3) rfl rfl
    case h => exact step_assign rfl
    apply ChainL.of none rfl rfl
    case h => (first | exact w_store tab rfl rfl rfl rfl rfl rfl rfl rfl rfl (Nat.le_of_ble_eq_true rfl) rfl rfl | exact w_store tab rfl rfl rfl rfl rfl (by assumption) rfl rfl rfl (Nat.le_of_ble_eq_true rfl) rfl rfl)
    exact .nil
  show Cwp _ _ _ _
  apply one_region_draw [0, 0, 0, 4, 12, 28, 60, 124, 252, 0, 1020, 2047] rfl
  case hc =>
    apply ChainL.of (some 50) rfl rfl
    case h => exact step_move rfl
    apply ChainL.of (some 51) rfl rfl
    case h => (first | exact w_load tab rfl rfl rfl rfl rfl rfl rfl | exact w_load tab rfl rfl rfl rfl rfl (by assumption) rfl | exact w_load_elt tab rfl rfl rfl rfl rfl | exact w_loads tab rfl rfl rfl rfl rfl rfl rfl rfl | exact w_load_tab tab rfl rfl rfl rfl (.head _) (by kernel_rfl) | exact w_loads_elt tab rfl rfl rfl rfl rfl rfl)
    apply ChainL.of (some 52) rfl rfl
    case h => exact step_move rfl
    apply ChainL.of (some 53) rfl rfl
    case h => (first | exact step_nilCheck rfl rfl | exact step_nilCheck_elt rfl rfl)
    apply ChainL.of (some 54) rfl rfl
    case h => (first | exact w_fieldAddr tab rfl rfl rfl rfl (by decide) rfl rfl | exact w_fieldAddr_elt tab rfl rfl rfl rfl (by decide) rfl rfl)
    apply ChainL.of (some 55) rfl rfl
    case h => (first | exact w_load tab rfl rfl rfl rfl rfl rfl rfl | exact w_load tab rfl rfl rfl rfl rfl (by assumption) rfl | exact w_load_elt tab rfl rfl rfl rfl rfl | exact w_loads tab rfl rfl rfl rfl rfl rfl rfl rfl | exact w_load_tab tab rfl rfl rfl rfl (.head _) (by kernel_rfl) | exact w_loads_elt tab rfl rfl rfl rfl rfl rfl)
    apply ChainL.of (some 56) rfl rfl
    case h => (first | exact w_index_own tab rfl rfl rfl rfl rfl rfl rfl rfl (by omega) (by omega) rfl | exact w_index_lst tab rfl rfl rfl rfl rfl rfl rfl (by omega) (by assumption))
    apply ChainL.of (some 57) rfl rfl
    case h => (first | exact w_fieldAddr tab rfl rfl rfl rfl (by decide) rfl rfl | exact w_fieldAddr_elt tab rfl rfl rfl rfl (by decide) rfl rfl)
    apply ChainL.of (some 58) rfl rfl
    case h => (first | exact w_load tab rfl rfl rfl rfl rfl rfl rfl | exact w_load tab rfl rfl rfl rfl rfl (by assumption) rfl | exact w_load_elt tab rfl rfl rfl rfl rfl | exact w_loads tab rfl rfl rfl rfl rfl rfl rfl rfl | exact w_load_tab tab rfl rfl rfl rfl (.head _) (by kernel_rfl) | exact w_loads_elt tab rfl rfl rfl rfl rfl rfl)
    apply ChainL.of (some 59) rfl rfl
    case h => exact step_move rfl
    apply ChainL.of (some 60) rfl rfl
    case h => (first | exact w_call f0 [] [] [] Try.func28 rfl (by decide +kernel) rfl rfl .nil (by decide) rfl rfl rfl rfl rfl rfl rfl rfl rfl rfl rfl | exact w_call f1 [] [] [] Try.func28 rfl (by decide +kernel) rfl rfl .nil (by decide) rfl rfl rfl rfl rfl rfl rfl rfl rfl rfl rfl | exact w_call f2 [] [] [] Try.func28 rfl (by decide +kernel) rfl rfl .nil (by decide) rfl rfl rfl rfl rfl rfl rfl rfl rfl rfl rfl)
    apply ChainL.of (some 61) rfl rfl
    case h => (first | exact w_call s0 [] [0, 1, 2, 3, 4] [] Try.func21 rfl (by decide +kernel) rfl rfl .nil (by decide) (map5 rfl (strs_ren _ _) (bools_ren _ _) rfl rfl) rfl rfl (all5 rfl (strs_lt _ _) (bools_lt _ _) rfl rfl) rfl (all5 rfl (strs_lt _ _) (bools_lt _ _) rfl rfl) rfl rfl rfl rfl (zip5 rfl (os_strs _ _) (os_bools _ _) rfl rfl) | exact w_call s1 [] [0, 1, 2, 3, 4] [] Try.func21 rfl (by decide +kernel) rfl rfl .nil (by decide) (map5 rfl (strs_ren _ _) (bools_ren _ _) rfl rfl) rfl rfl (all5 rfl (strs_lt _ _) (bools_lt _ _) rfl rfl) rfl (all5 rfl (strs_lt _ _) (bools_lt _ _) rfl rfl) rfl rfl rfl rfl (zip5 rfl (os_strs _ _) (os_bools _ _) rfl rfl) | exact w_call s2 [] [0, 1, 2, 3, 4] [] Try.func21 rfl (by decide +kernel) rfl rfl .nil (by decide) (map5 rfl (strs_ren _ _) (bools_ren _ _) rfl rfl) rfl rfl (all5 rfl (strs_lt _ _) (bools_lt _ _) rfl rfl) rfl (all5 rfl (strs_lt _ _) (bools_lt _ _) rfl rfl) rfl rfl rfl rfl (zip5 rfl (os_strs _ _) (os_bools _ _) rfl rfl))
    exact .nil
  case hB => decide +kernel
  case hI => kernel_rfl
  show Cwp _ _ _ _
  apply one_region
  case hc =>
    apply ChainL.of (some 62) rfl rfl
    case h => (first | exact w_bin rfl rfl rfl (add_i64 rfl (by omega) (by omega)) | exact w_bin rfl rfl rfl rfl)
    apply ChainL.of (some 45) rfl rfl
    case h => exact step_move rfl
    exact .nil
  show LoopN _ _ _ _ _
  refine loop_round ?_
  refine cwp_seq ?_
  apply one_region
  case hc =>
    apply ChainL.of (some 46) rfl rfl
    case h => (first | exact w_bin rfl rfl rfl (lss_t (by omega)) | exact w_bin rfl rfl rfl (lss_f (by omega)) | exact w_bin rfl rfl rfl rfl)
    exact .nil
  show Cwp _ _ _ _
  refine cwp_seq ?_
  refine cond_t (by first | rfl | kernel_rfl) ?_
  refine cwp_skip ?_
  show Cwp _ _ _ _
  refine cwp_seq ?_
  refine cwp_block ?_
  refine cwp_seq ?_
  apply one_region
  case hc =>
    apply ChainL.of (some 47) rfl rfl
    case h => exact step_move rfl
    apply ChainL.of (some 48) rfl rfl
    case h => (first | exact w_index_own tab rfl rfl rfl rfl rfl rfl rfl rfl (by omega) (by omega) rfl | exact w_index_lst tab rfl rfl rfl rfl rfl rfl rfl (by omega) (by assumption))
    apply ChainL.of (some 49) rfl rfl
    case h => (first | exact w_load tab rfl rfl rfl rfl rfl rfl rfl | exact w_load tab rfl rfl rfl rfl rfl (by assumption) rfl | exact w_load_elt tab rfl rfl rfl rfl rfl | exact w_loads tab rfl rfl rfl rfl rfl rfl rfl rfl | exact w_load_tab tab rfl rfl rfl rfl (.head _) (by kernel_rfl) | exact w_loads_elt tab rfl rfl rfl rfl rfl rfl)
    apply ChainL.of (some 4) rfl rfl
    case h => exact w_alloc tab rfl rfl 105 rfl
    apply ChainL.of (some 3) rfl rfl
    case h => exact step_assign rfl
    apply ChainL.of none rfl rfl
    case h => (first | exact w_store tab rfl rfl rfl rfl rfl rfl rfl rfl rfl (Nat.le_of_ble_eq_true rfl) rfl rfl | exact w_store tab rfl rfl rfl rfl rfl (by assumption) rfl rfl rfl (Nat.le_of_ble_eq_true rfl) rfl rfl)
    exact .nil
  show Cwp _ _ _ _
  apply one_region_draw [0, 0, 0, 4, 12, 28, 60, 124, 252, 0, 1020, 2047] rfl
  case hc =>
    apply ChainL.of (some 50) rfl rfl
    case h => exact step_move rfl
    apply ChainL.of (some 51) rfl rfl
    case h => (first | exact w_load tab rfl rfl rfl rfl rfl rfl rfl | exact w_load tab rfl rfl rfl rfl rfl (by assumption) rfl | exact w_load_elt tab rfl rfl rfl rfl rfl | exact w_loads tab rfl rfl rfl rfl rfl rfl rfl rfl | exact w_load_tab tab rfl rfl rfl rfl (.head _) (by kernel_rfl) | exact w_loads_elt tab rfl rfl rfl rfl rfl rfl)
    apply ChainL.of (some 52) rfl rfl
    case h => exact step_move rfl
    apply ChainL.of (some 53) rfl rfl
    case h => (first | exact step_nilCheck rfl rfl | exact step_nilCheck_elt rfl rfl)
    apply ChainL.of (some 54) rfl rfl
    case h => (first | exact w_fieldAddr tab rfl rfl rfl rfl (by decide) rfl rfl | exact w_fieldAddr_elt tab rfl rfl rfl rfl (by decide) rfl rfl)
    apply ChainL.of (some 55) rfl rfl
    case h => (first | exact w_load tab rfl rfl rfl rfl rfl rfl rfl | exact w_load tab rfl rfl rfl rfl rfl (by assumption) rfl | exact w_load_elt tab rfl rfl rfl rfl rfl | exact w_loads tab rfl rfl rfl rfl rfl rfl rfl rfl | exact w_load_tab tab rfl rfl rfl rfl (.head _) (by kernel_rfl) | exact w_loads_elt tab rfl rfl rfl rfl rfl rfl)
    apply ChainL.of (some 56) rfl rfl
    case h => (first | exact w_index_own tab rfl rfl rfl rfl rfl rfl rfl rfl (by omega) (by omega) rfl | exact w_index_lst tab rfl rfl rfl rfl rfl rfl rfl (by omega) (by assumption))
    apply ChainL.of (some 57) rfl rfl
    case h => (first | exact w_fieldAddr tab rfl rfl rfl rfl (by decide) rfl rfl | exact w_fieldAddr_elt tab rfl rfl rfl rfl (by decide) rfl rfl)
    apply ChainL.of (some 58) rfl rfl
    case h => (first | exact w_load tab rfl rfl rfl rfl rfl rfl rfl | exact w_load tab rfl rfl rfl rfl rfl (by assumption) rfl | exact w_load_elt tab rfl rfl rfl rfl rfl | exact w_loads tab rfl rfl rfl rfl rfl rfl rfl rfl | exact w_load_tab tab rfl rfl rfl rfl (.head _) (by kernel_rfl) | exact w_loads_elt tab rfl rfl rfl rfl rfl rfl)
    apply ChainL.of (some 59) rfl rfl
    case h => exact step_move rfl
    apply ChainL.of (some 60) rfl rfl
    case h => (first | exact w_call f0 [] [] [] Try.func28 rfl (by decide +kernel) rfl rfl .nil (by decide) rfl rfl rfl rfl rfl rfl rfl rfl rfl rfl rfl | exact w_call f1 [] [] [] Try.func28 rfl (by decide +kernel) rfl rfl .nil (by decide) rfl rfl rfl rfl rfl rfl rfl rfl rfl rfl rfl | exact w_call f2 [] [] [] Try.func28 rfl (by decide +kernel) rfl rfl .nil (by decide) rfl rfl rfl rfl rfl rfl rfl rfl rfl rfl rfl)
    apply ChainL.of (some 61) rfl rfl
    case h => (first | exact w_call s0 [] [0, 1, 2, 3, 4] [] Try.func21 rfl (by decide +kernel) rfl rfl .nil (by decide) (map5 rfl (strs_ren _ _) (bools_ren _ _) rfl rfl) rfl rfl (all5 rfl (strs_lt _ _) (bools_lt _ _) rfl rfl) rfl (all5 rfl (strs_lt _ _) (bools_lt _ _) rfl rfl) rfl rfl rfl rfl (zip5 rfl (os_strs _ _) (os_bools _ _) rfl rfl) | exact w_call s1 [] [0, 1, 2, 3, 4] [] Try.func21 rfl (by decide +kernel) rfl rfl .nil (by decide) (map5 rfl (strs_ren _ _) (bools_ren _ _) rfl rfl) rfl rfl (all5 rfl (strs_lt _ _) (bools_lt _ _) rfl rfl) rfl (all5 rfl (strs_lt _ _) (bools_lt _ _) rfl rfl) rfl rfl rfl rfl (zip5 rfl (os_strs _ _) (os_bools _ _) rfl rfl) | exact w_call s2 [] [0, 1, 2, 3, 4] [] Try.func21 rfl (by decide +kernel) rfl rfl .nil (by decide) (map5 rfl (strs_ren _ _) (bools_ren _ _) rfl rfl) rfl rfl (all5 rfl (strs_lt _ _) (bools_lt _ _) rfl rfl) rfl (all5 rfl (strs_lt _ _) (bools_lt _ _) rfl rfl) rfl rfl rfl rfl (zip5 rfl (os_strs _ _) (os_bools _ _) rfl rfl))
    exact .nil
  case hB => decide +kernel
  case hI => kernel_rfl
  show Cwp _ _ _ _
  apply one_region
  case hc =>
    apply ChainL.of (some 62) rfl rfl
    case h => (first | exact w_bin rfl rfl rfl (add_i64 rfl (by omega) (by omega)) | exact w_bin rfl rfl rfl rfl)
    apply ChainL.of (some 45) rfl rfl
    case h => exact step_move rfl
    exact .nil
  show LoopN _ _ _ _ _
  refine loop_round ?_
  refine cwp_seq ?_
  apply one_region
  case hc =>
    apply ChainL.of (some 46) rfl rfl
    case h => (first | exact w_bin rfl rfl rfl (lss_t (by omega)) | exact w_bin rfl rfl rfl (lss_f (by omega)) | exact w_bin rfl rfl rfl rfl)
    exact .nil
  show Cwp _ _ _ _
  refine cwp_seq ?_
  refine cond_f (by first | rfl | kernel_rfl) ?_
  refine cwp_exit ?_
  show Cwp _ _ _ _
  refine cwp_seq ?_
  apply one_region_draw [0, 0, 0, 0, 8, 24, 56, 120, 121, 377, 889, 2043, 4091, 8187, 16383, 32767, 65535] rfl
  case hc =>
    apply ChainL.of (some 63) rfl rfl
    case h => exact step_move rfl
    apply ChainL.of (some 64) rfl rfl
    case h => exact step_move rfl
    apply ChainL.of (some 65) rfl rfl
    case h => exact step_move rfl
    apply ChainL.of (some 66) rfl rfl
    case h => exact step_move rfl
    apply ChainL.of (some 67) rfl rfl
    case h => (first | exact step_nilCheck rfl rfl | exact step_nilCheck_elt rfl rfl)
    apply ChainL.of (some 68) rfl rfl
    case h => (first | exact w_fieldAddr tab rfl rfl rfl rfl (by decide) rfl rfl | exact w_fieldAddr_elt tab rfl rfl rfl rfl (by decide) rfl rfl)
    apply ChainL.of (some 69) rfl rfl
    case h => (first | exact w_load tab rfl rfl rfl rfl rfl rfl rfl | exact w_load tab rfl rfl rfl rfl rfl (by assumption) rfl | exact w_load_elt tab rfl rfl rfl rfl rfl | exact w_loads tab rfl rfl rfl rfl rfl rfl rfl rfl | exact w_load_tab tab rfl rfl rfl rfl (.head _) (by kernel_rfl) | exact w_loads_elt tab rfl rfl rfl rfl rfl rfl)
    apply ChainL.of (some 70) rfl rfl
    case h => exact w_cut_own_none (lo := some (.const (.int .i64 1))) (hi := none) tab rfl rfl rfl rfl rfl 1 ⟨.i64, rfl⟩ rfl (Nat.le_refl 1)
    apply ChainL.of (some 71) rfl rfl
    case h => (first | exact step_nilCheck rfl rfl | exact step_nilCheck_elt rfl rfl)
    apply ChainL.of (some 72) rfl rfl
    case h => (first | exact w_fieldAddr tab rfl rfl rfl rfl (by decide) rfl rfl | exact w_fieldAddr_elt tab rfl rfl rfl rfl (by decide) rfl rfl)
    apply ChainL.of none rfl rfl
    case h => (first | exact w_store tab rfl rfl rfl rfl rfl rfl rfl rfl rfl (Nat.le_of_ble_eq_true rfl) rfl rfl | exact w_store tab rfl rfl rfl rfl rfl (by assumption) rfl rfl rfl (Nat.le_of_ble_eq_true rfl) rfl rfl)
    apply ChainL.of (some 73) rfl rfl
    case h => (first | exact step_nilCheck rfl rfl | exact step_nilCheck_elt rfl rfl)
    apply ChainL.of (some 74) rfl rfl
    case h => (first | exact w_fieldAddr tab rfl rfl rfl rfl (by decide) rfl rfl | exact w_fieldAddr_elt tab rfl rfl rfl rfl (by decide) rfl rfl)
    apply ChainL.of none rfl rfl
    case h => (first | exact w_store tab rfl rfl rfl rfl rfl rfl rfl rfl rfl (Nat.le_of_ble_eq_true rfl) rfl rfl | exact w_store tab rfl rfl rfl rfl rfl (by assumption) rfl rfl rfl (Nat.le_of_ble_eq_true rfl) rfl rfl)
    apply ChainL.of (some 75) rfl rfl
    case h => (first | exact step_nilCheck rfl rfl | exact step_nilCheck_elt rfl rfl)
    apply ChainL.of (some 76) rfl rfl
    case h => (first | exact w_fieldAddr tab rfl rfl rfl rfl (by decide) rfl rfl | exact w_fieldAddr_elt tab rfl rfl rfl rfl (by decide) rfl rfl)
    apply ChainL.of none rfl rfl
    case h => (first | exact w_store tab rfl rfl rfl rfl rfl rfl rfl rfl rfl (Nat.le_of_ble_eq_true rfl) rfl rfl | exact w_store tab rfl rfl rfl rfl rfl (by assumption) rfl rfl rfl (Nat.le_of_ble_eq_true rfl) rfl rfl)
    exact .nil
  case hB => decide +kernel
  case hI => kernel_rfl
  show Cwp _ _ _ _
  refine cwp_seq ?_
  apply one_region
  case hc =>
    apply ChainL.of (some 77) rfl rfl
    case h => exact step_move rfl
    apply ChainL.of (some 78) rfl rfl
    case h => (first | exact step_nilCheck rfl rfl | exact step_nilCheck_elt rfl rfl)
    apply ChainL.of (some 79) rfl rfl
    case h => (first | exact w_fieldAddr tab rfl rfl rfl rfl (by decide) rfl rfl | exact w_fieldAddr_elt tab rfl rfl rfl rfl (by decide) rfl rfl)
    apply ChainL.of (some 80) rfl rfl
    case h => (first | exact w_load tab rfl rfl rfl rfl rfl rfl rfl | exact w_load tab rfl rfl rfl rfl rfl (by assumption) rfl | exact w_load_elt tab rfl rfl rfl rfl rfl | exact w_loads tab rfl rfl rfl rfl rfl rfl rfl rfl | exact w_load_tab tab rfl rfl rfl rfl (.head _) (by kernel_rfl) | exact w_loads_elt tab rfl rfl rfl rfl rfl rfl)
    apply ChainL.of (some 81) rfl rfl
    case h => (first | exact w_bin rfl rfl rfl (add_i64 rfl (by omega) (by omega)) | exact w_bin rfl rfl rfl rfl)
    apply ChainL.of (some 82) rfl rfl
    case h => (first | exact step_nilCheck rfl rfl | exact step_nilCheck_elt rfl rfl)
    apply ChainL.of (some 83) rfl rfl
    case h => (first | exact w_fieldAddr tab rfl rfl rfl rfl (by decide) rfl rfl | exact w_fieldAddr_elt tab rfl rfl rfl rfl (by decide) rfl rfl)
    apply ChainL.of none rfl rfl
    case h => (first | exact w_store tab rfl rfl rfl rfl rfl rfl rfl rfl rfl (Nat.le_of_ble_eq_true rfl) rfl rfl | exact w_store tab rfl rfl rfl rfl rfl (by assumption) rfl rfl rfl (Nat.le_of_ble_eq_true rfl) rfl rfl)
    exact .nil
  show Cwp _ _ _ _
  refine cwp_seq ?_
  apply one_region
  case hc =>
    apply ChainL.of (some 2) rfl rfl
    case h => exact step_assign rfl
    exact .nil
  show Cwp _ _ _ _
  refine cwp_ret ?_
  exact ⟨.inl rfl, resH_one rfl rfl, objs_ok rfl⟩
theorem actfail_5_4 (n a fails : Int) (h0 : 0 ≤ n) (h1 : a < n + 1) (h2 : 0 < a) (h3 : n ≤ 100) (h4 : 0 ≤ fails) (h5 : fails ≤ 100) (D : List ByteArray) (T : List Bool) (hD : D.length = 9) (hT : T.length = 9) :
    HCall Try.prog 20 [dsk (.own 3 0 4) (.own 4 0 1) n n fails false, strs D, bools T, othO 4, cutO a (.v (.slice none 0 0))] [.ref 0 0 0]
    [.ob (dsk (.v (.slice none 0 0)) (.lst 2 []) (n + 1) (n + 1) (fails + 1) true), .ob (strs (itD [] D 4)), .ob (bools (itT [] T 4)), .ob (othO 4), .ob (cutO a (.v (.slice none 0 0)))] (.v (.bool true)) := by
  have s0 := settle_5 [] 0 (.own 3 0 4) (.own 4 0 1) (n + 1) (n + 1) fails false D T (othO 4) (cutO a (.v (.slice none 0 0))) hD hT
  have f0 := fate_nil 0
  have s1 := settle_5 [] 1 (.own 3 0 4) (.own 4 0 1) (n + 1) (n + 1) fails false D T (othO 4) (cutO a (.v (.slice none 0 0))) hD hT
  have f1 := fate_nil 1
  have s2 := settle_5 [] 2 (.own 3 0 4) (.own 4 0 1) (n + 1) (n + 1) fails false D T (othO 4) (cutO a (.v (.slice none 0 0))) hD hT
  have f2 := fate_nil 2
  have s3 := settle_5 [] 3 (.own 3 0 4) (.own 4 0 1) (n + 1) (n + 1) fails false D T (othO 4) (cutO a (.v (.slice none 0 0))) hD hT
  have f3 := fate_nil 3
  refine HCall.of Try.func20 rfl (by decide +kernel) (Nat.le_of_ble_eq_true rfl) ?_
  refine cwp_seq ?_
  apply one_region
  case hc =>
    apply ChainL.of (some 2) rfl rfl
    case h => exact step_assign rfl
    exact .nil
  show Cwp _ _ _ _
  refine cwp_seq ?_
  apply one_region
  case hc =>
    apply ChainL.of (some 5) rfl rfl
    case h => exact step_move rfl
    apply ChainL.of (some 6) rfl rfl
    case h => (first | exact step_nilCheck rfl rfl | exact step_nilCheck_elt rfl rfl)
    apply ChainL.of (some 7) rfl rfl
    case h => (first | exact w_fieldAddr tab rfl rfl rfl rfl (by decide) rfl rfl | exact w_fieldAddr_elt tab rfl rfl rfl rfl (by decide) rfl rfl)
    apply ChainL.of (some 8) rfl rfl
    case h => (first | exact w_load tab rfl rfl rfl rfl rfl rfl rfl | exact w_load tab rfl rfl rfl rfl rfl (by assumption) rfl | exact w_load_elt tab rfl rfl rfl rfl rfl | exact w_loads tab rfl rfl rfl rfl rfl rfl rfl rfl | exact w_load_tab tab rfl rfl rfl rfl (.head _) (by kernel_rfl) | exact w_loads_elt tab rfl rfl rfl rfl rfl rfl)
    apply ChainL.of (some 9) rfl rfl
    case h => (first | exact w_bin rfl rfl rfl (add_i64 rfl (by omega) (by omega)) | exact w_bin rfl rfl rfl rfl)
    apply ChainL.of (some 10) rfl rfl
    case h => (first | exact step_nilCheck rfl rfl | exact step_nilCheck_elt rfl rfl)
    apply ChainL.of (some 11) rfl rfl
    case h => (first | exact w_fieldAddr tab rfl rfl rfl rfl (by decide) rfl rfl | exact w_fieldAddr_elt tab rfl rfl rfl rfl (by decide) rfl rfl)
    apply ChainL.of none rfl rfl
    case h => (first | exact w_store tab rfl rfl rfl rfl rfl rfl rfl rfl rfl (Nat.le_of_ble_eq_true rfl) rfl rfl | exact w_store tab rfl rfl rfl rfl rfl (by assumption) rfl rfl rfl (Nat.le_of_ble_eq_true rfl) rfl rfl)
    exact .nil
  show Cwp _ _ _ _
  refine cwp_seq ?_
  apply one_region
  case hc =>
    apply ChainL.of (some 12) rfl rfl
    case h => exact step_move rfl
    apply ChainL.of (some 13) rfl rfl
    case h => (first | exact step_nilCheck rfl rfl | exact step_nilCheck_elt rfl rfl)
    apply ChainL.of (some 14) rfl rfl
    case h => (first | exact w_fieldAddr tab rfl rfl rfl rfl (by decide) rfl rfl | exact w_fieldAddr_elt tab rfl rfl rfl rfl (by decide) rfl rfl)
    apply ChainL.of (some 15) rfl rfl
    case h => (first | exact w_load tab rfl rfl rfl rfl rfl rfl rfl | exact w_load tab rfl rfl rfl rfl rfl (by assumption) rfl | exact w_load_elt tab rfl rfl rfl rfl rfl | exact w_loads tab rfl rfl rfl rfl rfl rfl rfl rfl | exact w_load_tab tab rfl rfl rfl rfl (.head _) (by kernel_rfl) | exact w_loads_elt tab rfl rfl rfl rfl rfl rfl)
    apply ChainL.of (some 16) rfl rfl
    case h => (first | exact w_bin rfl rfl rfl (add_i64 rfl (by omega) (by omega)) | exact w_bin rfl rfl rfl rfl)
    apply ChainL.of (some 17) rfl rfl
    case h => (first | exact step_nilCheck rfl rfl | exact step_nilCheck_elt rfl rfl)
    apply ChainL.of (some 18) rfl rfl
    case h => (first | exact w_fieldAddr tab rfl rfl rfl rfl (by decide) rfl rfl | exact w_fieldAddr_elt tab rfl rfl rfl rfl (by decide) rfl rfl)
    apply ChainL.of none rfl rfl
    case h => (first | exact w_store tab rfl rfl rfl rfl rfl rfl rfl rfl rfl (Nat.le_of_ble_eq_true rfl) rfl rfl | exact w_store tab rfl rfl rfl rfl rfl (by assumption) rfl rfl rfl (Nat.le_of_ble_eq_true rfl) rfl rfl)
    exact .nil
  show Cwp _ _ _ _
  refine cwp_seq ?_
  refine cwp_seq ?_
  apply one_region_draw [0, 1, 3, 7, 15, 31, 63, 127, 255, 511, 1023, 127, 2175, 6271, 14463, 30847, 63615, 129151, 260223, 524287, 1048575] rfl
  case hc =>
    apply ChainL.of (some 19) rfl rfl
    case h => exact step_move rfl
    apply ChainL.of (some 20) rfl rfl
    case h => (first | exact step_nilCheck rfl rfl | exact step_nilCheck_elt rfl rfl)
    apply ChainL.of (some 21) rfl rfl
    case h => (first | exact w_fieldAddr tab rfl rfl rfl rfl (by decide) rfl rfl | exact w_fieldAddr_elt tab rfl rfl rfl rfl (by decide) rfl rfl)
    apply ChainL.of (some 22) rfl rfl
    case h => (first | exact w_load tab rfl rfl rfl rfl rfl rfl rfl | exact w_load tab rfl rfl rfl rfl rfl (by assumption) rfl | exact w_load_elt tab rfl rfl rfl rfl rfl | exact w_loads tab rfl rfl rfl rfl rfl rfl rfl rfl | exact w_load_tab tab rfl rfl rfl rfl (.head _) (by kernel_rfl) | exact w_loads_elt tab rfl rfl rfl rfl rfl rfl)
    apply ChainL.of (some 23) rfl rfl
    case h => exact w_len tab rfl rfl rfl (.own rfl rfl rfl) (n := 1) (by kernel_rfl)
    apply ChainL.of (some 24) rfl rfl
    case h => (first | exact w_bin rfl rfl rfl (eql_t (by omega)) | exact w_bin rfl rfl rfl (eql_f (by omega)) | exact w_bin rfl rfl rfl rfl)
    apply ChainL.of (some 25) rfl rfl
    case h => exact step_move rfl
    first
    | apply ChainL.off (some 26) 6 25 false rfl rfl rfl rfl
    | apply ChainL.on (some 26) 6 25 false rfl rfl rfl rfl
      case h => exact step_move rfl
    first
    | apply ChainL.off (some 27) 6 25 false rfl rfl rfl rfl
    | apply ChainL.on (some 27) 6 25 false rfl rfl rfl rfl
      case h => (first | exact step_nilCheck rfl rfl | exact step_nilCheck_elt rfl rfl)
    first
    | apply ChainL.off (some 28) 6 25 false rfl rfl rfl rfl
    | apply ChainL.on (some 28) 6 25 false rfl rfl rfl rfl
      case h => (first | exact w_fieldAddr tab rfl rfl rfl rfl (by decide) rfl rfl | exact w_fieldAddr_elt tab rfl rfl rfl rfl (by decide) rfl rfl)
    first
    | apply ChainL.off (some 29) 6 25 false rfl rfl rfl rfl
    | apply ChainL.on (some 29) 6 25 false rfl rfl rfl rfl
      case h => (first | exact w_load tab rfl rfl rfl rfl rfl rfl rfl | exact w_load tab rfl rfl rfl rfl rfl (by assumption) rfl | exact w_load_elt tab rfl rfl rfl rfl rfl | exact w_loads tab rfl rfl rfl rfl rfl rfl rfl rfl | exact w_load_tab tab rfl rfl rfl rfl (.head _) (by kernel_rfl) | exact w_loads_elt tab rfl rfl rfl rfl rfl rfl)
    first
    | apply ChainL.off (some 30) 6 25 false rfl rfl rfl rfl
    | apply ChainL.on (some 30) 6 25 false rfl rfl rfl rfl
      case h => exact step_move rfl
    first
    | apply ChainL.off (some 31) 6 25 false rfl rfl rfl rfl
    | apply ChainL.on (some 31) 6 25 false rfl rfl rfl rfl
      case h => (first | exact step_nilCheck rfl rfl | exact step_nilCheck_elt rfl rfl)
    first
    | apply ChainL.off (some 32) 6 25 false rfl rfl rfl rfl
    | apply ChainL.on (some 32) 6 25 false rfl rfl rfl rfl
      case h => (first | exact w_fieldAddr tab rfl rfl rfl rfl (by decide) rfl rfl | exact w_fieldAddr_elt tab rfl rfl rfl rfl (by decide) rfl rfl)
    first
    | apply ChainL.off (some 33) 6 25 false rfl rfl rfl rfl
    | apply ChainL.on (some 33) 6 25 false rfl rfl rfl rfl
      case h => (first | exact w_load tab rfl rfl rfl rfl rfl rfl rfl | exact w_load tab rfl rfl rfl rfl rfl (by assumption) rfl | exact w_load_elt tab rfl rfl rfl rfl rfl | exact w_loads tab rfl rfl rfl rfl rfl rfl rfl rfl | exact w_load_tab tab rfl rfl rfl rfl (.head _) (by kernel_rfl) | exact w_loads_elt tab rfl rfl rfl rfl rfl rfl)
    first
    | apply ChainL.off (some 34) 6 25 false rfl rfl rfl rfl
    | apply ChainL.on (some 34) 6 25 false rfl rfl rfl rfl
      case h => (first | exact w_index_own tab rfl rfl rfl rfl rfl rfl rfl rfl (by omega) (by omega) rfl | exact w_index_lst tab rfl rfl rfl rfl rfl rfl rfl (by omega) (by assumption))
    first
    | apply ChainL.off (some 35) 6 25 false rfl rfl rfl rfl
    | apply ChainL.on (some 35) 6 25 false rfl rfl rfl rfl
      case h => (first | exact w_fieldAddr tab rfl rfl rfl rfl (by decide) rfl rfl | exact w_fieldAddr_elt tab rfl rfl rfl rfl (by decide) rfl rfl)
    first
    | apply ChainL.off (some 36) 6 25 false rfl rfl rfl rfl
    | apply ChainL.on (some 36) 6 25 false rfl rfl rfl rfl
      case h => (first | exact w_load tab rfl rfl rfl rfl rfl rfl rfl | exact w_load tab rfl rfl rfl rfl rfl (by assumption) rfl | exact w_load_elt tab rfl rfl rfl rfl rfl | exact w_loads tab rfl rfl rfl rfl rfl rfl rfl rfl | exact w_load_tab tab rfl rfl rfl rfl (.head _) (by kernel_rfl) | exact w_loads_elt tab rfl rfl rfl rfl rfl rfl)
    first
    | apply ChainL.off (some 37) 6 25 false rfl rfl rfl rfl
    | apply ChainL.on (some 37) 6 25 false rfl rfl rfl rfl
      case h => (first | exact w_max rfl rfl rfl (if_pos (by omega)) | exact w_max rfl rfl rfl (if_neg (by omega)) | exact w_max rfl rfl rfl rfl)
    first
    | apply ChainL.off (some 38) 6 25 false rfl rfl rfl rfl
    | apply ChainL.on (some 38) 6 25 false rfl rfl rfl rfl
      case h => (first | exact w_bin rfl rfl rfl (leq_t (by omega)) | exact w_bin rfl rfl rfl (leq_f (by omega)) | exact w_bin rfl rfl rfl rfl)
    apply ChainL.of (some 39) rfl rfl
    case h => exact step_pick rfl rfl
    exact .nil
  case hB => decide +kernel
  case hI => kernel_rfl
  show Cwp _ _ _ _
  refine cond_f (by first | rfl | kernel_rfl) ?_
  refine cwp_skip ?_
  show Cwp _ _ _ _
  refine cwp_seq ?_
  refine cwp_seq ?_
  apply one_region
  case hc =>
    apply ChainL.of (some 40) rfl rfl
    case h => exact step_move rfl
    apply ChainL.of (some 41) rfl rfl
    case h => (first | exact step_nilCheck rfl rfl | exact step_nilCheck_elt rfl rfl)
    apply ChainL.of (some 42) rfl rfl
    case h => (first | exact w_fieldAddr tab rfl rfl rfl rfl (by decide) rfl rfl | exact w_fieldAddr_elt tab rfl rfl rfl rfl (by decide) rfl rfl)
    apply ChainL.of (some 43) rfl rfl
    case h => (first | exact w_load tab rfl rfl rfl rfl rfl rfl rfl | exact w_load tab rfl rfl rfl rfl rfl (by assumption) rfl | exact w_load_elt tab rfl rfl rfl rfl rfl | exact w_loads tab rfl rfl rfl rfl rfl rfl rfl rfl | exact w_load_tab tab rfl rfl rfl rfl (.head _) (by kernel_rfl) | exact w_loads_elt tab rfl rfl rfl rfl rfl rfl)
    apply ChainL.of (some 44) rfl rfl
    case h => exact w_len tab rfl rfl rfl (.own rfl rfl rfl) (n := 4) (by kernel_rfl)
    apply ChainL.of (some 45) rfl rfl
    case h => exact step_move rfl
    exact .nil
  show Cwp _ _ _ _
  refine cwp_block ?_
  refine cwp_loopN 5 ?_
  refine loop_round ?_
  refine cwp_seq ?_
  apply one_region
  case hc =>
    apply ChainL.of (some 46) rfl rfl
    case h => (first | exact w_bin rfl rfl rfl (lss_t (by omega)) | exact w_bin rfl rfl rfl (lss_f (by omega)) | exact w_bin rfl rfl rfl rfl)
    exact .nil
  show Cwp _ _ _ _
  refine cwp_seq ?_
  refine cond_t (by first | rfl | kernel_rfl) ?_
  refine cwp_skip ?_
  show Cwp _ _ _ _
  refine cwp_seq ?_
  refine cwp_block ?_
  refine cwp_seq ?_
  apply one_region
  case hc =>
    apply ChainL.of (some 47) rfl rfl
    case h => exact step_move rfl
    apply ChainL.of (some 48) rfl rfl
    case h => (first | exact w_index_own tab rfl rfl rfl rfl rfl rfl rfl rfl (by omega) (by omega) rfl | exact w_index_lst tab rfl rfl rfl rfl rfl rfl rfl (by omega) (by assumption))
    apply ChainL.of (some 49) rfl rfl
    case h => (first | exact w_load tab rfl rfl rfl rfl rfl rfl rfl | exact w_load tab rfl rfl rfl rfl rfl (by assumption) rfl | exact w_load_elt tab rfl rfl rfl rfl rfl | exact w_loads tab rfl rfl rfl rfl rfl rfl rfl rfl | exact w_load_tab tab rfl rfl rfl rfl (.head _) (by kernel_rfl) | exact w_loads_elt tab rfl rfl rfl rfl rfl rfl)
    apply ChainL.of (some 4) rfl rfl
    case h => exact w_alloc tab rfl rfl 106 rfl
    apply ChainL.of (some 3) rfl rfl
    case h => exact step_assign rfl
    apply ChainL.of none rfl rfl
    case h => (first | exact w_store tab rfl rfl rfl rfl rfl rfl rfl rfl rfl (Nat.le_of_ble_eq_true rfl) rfl rfl | exact w_store tab rfl rfl rfl rfl rfl (by assumption) rfl rfl rfl (Nat.le_of_ble_eq_true rfl) rfl rfl)
    exact .nil
  show Cwp _ _ _ _
  apply one_region_draw [0, 0, 0, 4, 12, 28, 60, 124, 252, 0, 1020, 2047] rfl
  case hc =>
    apply ChainL.of (some 50) rfl rfl
    case h => exact step_move rfl
    apply ChainL.of (some 51) rfl rfl
    case h => (first | exact w_load tab rfl rfl rfl rfl rfl rfl rfl | exact w_load tab rfl rfl rfl rfl rfl (by assumption) rfl | exact w_load_elt tab rfl rfl rfl rfl rfl | exact w_loads tab rfl rfl rfl rfl rfl rfl rfl rfl | exact w_load_tab tab rfl rfl rfl rfl (.head _) (by kernel_rfl) | exact w_loads_elt tab rfl rfl rfl rfl rfl rfl)
    apply ChainL.of (some 52) rfl rfl
    case h => exact step_move rfl
    apply ChainL.of (some 53) rfl rfl
    case h => (first | exact step_nilCheck rfl rfl | exact step_nilCheck_elt rfl rfl)
    apply ChainL.of (some 54) rfl rfl
    case h => (first | exact w_fieldAddr tab rfl rfl rfl rfl (by decide) rfl rfl | exact w_fieldAddr_elt tab rfl rfl rfl rfl (by decide) rfl rfl)
    apply ChainL.of (some 55) rfl rfl
    case h => (first | exact w_load tab rfl rfl rfl rfl rfl rfl rfl | exact w_load tab rfl rfl rfl rfl rfl (by assumption) rfl | exact w_load_elt tab rfl rfl rfl rfl rfl | exact w_loads tab rfl rfl rfl rfl rfl rfl rfl rfl | exact w_load_tab tab rfl rfl rfl rfl (.head _) (by kernel_rfl) | exact w_loads_elt tab rfl rfl rfl rfl rfl rfl)
    apply ChainL.of (some 56) rfl rfl
    case h => (first | exact w_index_own tab rfl rfl rfl rfl rfl rfl rfl rfl (by omega) (by omega) rfl | exact w_index_lst tab rfl rfl rfl rfl rfl rfl rfl (by omega) (by assumption))
    apply ChainL.of (some 57) rfl rfl
    case h => (first | exact w_fieldAddr tab rfl rfl rfl rfl (by decide) rfl rfl | exact w_fieldAddr_elt tab rfl rfl rfl rfl (by decide) rfl rfl)
    apply ChainL.of (some 58) rfl rfl
    case h => (first | exact w_load tab rfl rfl rfl rfl rfl rfl rfl | exact w_load tab rfl rfl rfl rfl rfl (by assumption) rfl | exact w_load_elt tab rfl rfl rfl rfl rfl | exact w_loads tab rfl rfl rfl rfl rfl rfl rfl rfl | exact w_load_tab tab rfl rfl rfl rfl (.head _) (by kernel_rfl) | exact w_loads_elt tab rfl rfl rfl rfl rfl rfl)
    apply ChainL.of (some 59) rfl rfl
    case h => exact step_move rfl
    apply ChainL.of (some 60) rfl rfl
    case h => (first | exact w_call f0 [] [] [] Try.func28 rfl (by decide +kernel) rfl rfl .nil (by decide) rfl rfl rfl rfl rfl rfl rfl rfl rfl rfl rfl | exact w_call f1 [] [] [] Try.func28 rfl (by decide +kernel) rfl rfl .nil (by decide) rfl rfl rfl rfl rfl rfl rfl rfl rfl rfl rfl | exact w_call f2 [] [] [] Try.func28 rfl (by decide +kernel) rfl rfl .nil (by decide) rfl rfl rfl rfl rfl rfl rfl rfl rfl rfl rfl | exact w_call f3 [] [] [] Try.func28 rfl (by decide +kernel) rfl rfl .nil (by decide) rfl rfl rfl rfl rfl rfl rfl rfl rfl rfl rfl)
    apply ChainL.of (some 61) rfl rfl
    case h => (first | exact w_call s0 [] [0, 1, 2, 3, 4] [] Try.func21 rfl (by decide +kernel) rfl rfl .nil (by decide) (map5 rfl (strs_ren _ _) (bools_ren _ _) rfl rfl) rfl rfl (all5 rfl (strs_lt _ _) (bools_lt _ _) rfl rfl) rfl (all5 rfl (strs_lt _ _) (bools_lt _ _) rfl rfl) rfl rfl rfl rfl (zip5 rfl (os_strs _ _) (os_bools _ _) rfl rfl) | exact w_call s1 [] [0, 1, 2, 3, 4] [] Try.func21 rfl (by decide +kernel) rfl rfl .nil (by decide) (map5 rfl (strs_ren _ _) (bools_ren _ _) rfl rfl) rfl rfl (all5 rfl (strs_lt _ _) (bools_lt _ _) rfl rfl) rfl (all5 rfl (strs_lt _ _) (bools_lt _ _) rfl rfl) rfl rfl rfl rfl (zip5 rfl (os_strs _ _) (os_bools _ _) rfl rfl) | exact w_call s2 [] [0, 1, 2, 3, 4] [] Try.func21 rfl (by decide +kernel) rfl rfl .nil (by decide) (map5 rfl (strs_ren _ _) (bools_ren _ _) rfl rfl) rfl rfl (all5 rfl (strs_lt _ _) (bools_lt _ _) rfl rfl) rfl (all5 rfl (strs_lt _ _) (bools_lt _ _) rfl rfl) rfl rfl rfl rfl (zip5 rfl (os_strs _ _) (os_bools _ _) rfl rfl) | exact w_call s3 [] [0, 1, 2, 3, 4] [] Try.func21 rfl (by decide +kernel) rfl rfl .nil (by decide) (map5 rfl (strs_ren _ _) (bools_ren _ _) rfl rfl) rfl rfl (all5 rfl (strs_lt _ _) (bools_lt _ _) rfl rfl) rfl (all5 rfl (strs_lt _ _) (bools_lt _ _) rfl rfl) rfl rfl rfl rfl (zip5 rfl (os_strs _ _) (os_bools _ _) rfl rfl))
    exact .nil
  case hB => decide +kernel
  case hI => kernel_rfl
  show Cwp _ _ _ _
  apply one_region
  case hc =>
    apply ChainL.of (some 62) rfl rfl
    case h => (first | exact w_bin rfl rfl rfl (add_i64 rfl (by omega) (by omega)) | exact w_bin rfl rfl rfl rfl)
    apply ChainL.of (some 45) rfl rfl
    case h => exact step_move rfl
    exact .nil
  show LoopN _ _ _ _ _
  refine loop_round ?_
  refine cwp_seq ?_
  apply one_region
  case hc =>
    apply ChainL.of (some 46) rfl rfl
    case h => (first | exact w_bin rfl rfl rfl (lss_t (by omega)) | exact w_bin rfl rfl rfl (lss_f (by omega)) | exact w_bin rfl rfl rfl rfl)
    exact .nil
  show Cwp _ _ _ _
  refine cwp_seq ?_
  refine cond_t (by first | rfl | kernel_rfl) ?_
  refine cwp_skip ?_
  show Cwp _ _ _ _
  refine cwp_seq ?_
  refine cwp_block ?_
  refine cwp_seq ?_
  apply one_region
  case hc =>
    apply ChainL.of (some 47) rfl rfl
    case h => exact step_move rfl
    apply ChainL.of (some 48) rfl rfl
    case h => (first | exact w_index_own tab rfl rfl rfl rfl rfl rfl rfl rfl (by omega) (by omega) rfl | exact w_index_lst tab rfl rfl rfl rfl rfl rfl rfl (by omega) (by assumption))
    apply ChainL.of (some 49) rfl rfl
    case h => (first | exact w_load tab rfl rfl rfl rfl rfl rfl rfl | exact w_load tab rfl rfl rfl rfl rfl (by assumption) rfl | exact w_load_elt tab rfl rfl rfl rfl rfl | exact w_loads tab rfl rfl rfl rfl rfl rfl rfl rfl | exact w_load_tab tab rfl rfl rfl rfl (.head _) (by kernel_rfl) | exact w_loads_elt tab rfl rfl rfl rfl rfl rfl)
    apply ChainL.of (some 4) rfl rfl
    case h => exact w_alloc tab rfl rfl 107 rfl
    apply ChainL.of (some 3) rfl rfl
    case h => exact step_assign rfl
    apply ChainL.of none rfl rfl
    case h => (first | exact w_store tab rfl rfl rfl rfl rfl rfl rfl rfl rfl (Nat.le_of_ble_eq_true rfl) rfl rfl | exact w_store tab rfl rfl rfl rfl rfl (by assumption) rfl rfl rfl (Nat.le_of_ble_eq_true rfl) rfl rfl)
    exact .nil
  show Cwp _ _ _ _
  apply one_region_draw [0, 0, 0, 4, 12, 28, 60, 124, 252, 0, 1020, 2047] rfl
  case hc =>
    apply ChainL.of (some 50) rfl rfl
    case h => exact step_move rfl
    apply ChainL.of (some 51) rfl rfl
    case h => (first | exact w_load tab rfl rfl rfl rfl rfl rfl rfl | exact w_load tab rfl rfl rfl rfl rfl (by assumption) rfl | exact w_load_elt tab rfl rfl rfl rfl rfl | exact w_loads tab rfl rfl rfl rfl rfl rfl rfl rfl | exact w_load_tab tab rfl rfl rfl rfl (.head _) (by kernel_rfl) | exact w_loads_elt tab rfl rfl rfl rfl rfl rfl)
    apply ChainL.of (some 52) rfl rfl
    case h => exact step_move rfl
    apply ChainL.of (some 53) rfl rfl
    case h => (first | exact step_nilCheck rfl rfl | exact step_nilCheck_elt rfl rfl)
    apply ChainL.of (some 54) rfl rfl
    case h => (first | exact w_fieldAddr tab rfl rfl rfl rfl (by decide) rfl rfl | exact w_fieldAddr_elt tab rfl rfl rfl rfl (by decide) rfl rfl)
    apply ChainL.of (some 55) rfl rfl
    case h => (first | exact w_load tab rfl rfl rfl rfl rfl rfl rfl | exact w_load tab rfl rfl rfl rfl rfl (by assumption) rfl | exact w_load_elt tab rfl rfl rfl rfl rfl | exact w_loads tab rfl rfl rfl rfl rfl rfl rfl rfl | exact w_load_tab tab rfl rfl rfl rfl (.head _) (by kernel_rfl) | exact w_loads_elt tab rfl rfl rfl rfl rfl rfl)
    apply ChainL.of (some 56) rfl rfl
    case h => (first | exact w_index_own tab rfl rfl rfl rfl rfl rfl rfl rfl (by omega) (by omega) rfl | exact w_index_lst tab rfl rfl rfl rfl rfl rfl rfl (by omega) (by assumption))
    apply ChainL.of (some 57) rfl rfl
    case h => (first | exact w_fieldAddr tab rfl rfl rfl rfl (by decide) rfl rfl | exact w_fieldAddr_elt tab rfl rfl rfl rfl (by decide) rfl rfl)
    apply ChainL.of (some 58) rfl rfl
    case h => (first | exact w_load tab rfl rfl rfl rfl rfl rfl rfl | exact w_load tab rfl rfl rfl rfl rfl (by assumption) rfl | exact w_load_elt tab rfl rfl rfl rfl rfl | exact w_loads tab rfl rfl rfl rfl rfl rfl rfl rfl | exact w_load_tab tab rfl rfl rfl rfl (.head _) (by kernel_rfl) | exact w_loads_elt tab rfl rfl rfl rfl rfl rfl)
    apply ChainL.of (some 59) rfl rfl
    case h => exact step_move rfl
    apply ChainL.of (some 60) rfl rfl
    case h => (first | exact w_call f0 [] [] [] Try.func28 rfl (by decide +kernel) rfl rfl .nil (by decide) rfl rfl rfl rfl rfl rfl rfl rfl rfl rfl rfl | exact w_call f1 [] [] [] Try.func28 rfl (by decide +kernel) rfl rfl .nil (by decide) rfl rfl rfl rfl rfl rfl rfl rfl rfl rfl rfl | exact w_call f2 [] [] [] Try.func28 rfl (by decide +kernel) rfl rfl .nil (by decide) rfl rfl rfl rfl rfl rfl rfl rfl rfl rfl rfl | exact w_call f3 [] [] [] Try.func28 rfl (by decide +kernel) rfl rfl .nil (by decide) rfl rfl rfl rfl rfl rfl rfl rfl rfl rfl rfl)
    apply ChainL.of (some 61) rfl rfl
    case h => (first | exact w_call s0 [] [0, 1, 2, 3, 4] [] Try.func21 rfl (by decide +kernel) rfl rfl .nil (by decide) (map5 rfl (strs_ren _ _) (bools_ren _ _) rfl rfl) rfl rfl (all5 rfl (strs_lt _ _) (bools_lt _ _) rfl rfl) rfl (all5 rfl (strs_lt _ _) (bools_lt _ _) rfl rfl) rfl rfl rfl rfl (zip5 rfl (os_strs _ _) (os_bools _ _) rfl rfl) | exact w_call s1 [] [0, 1, 2, 3, 4] [] Try.func21 rfl (by decide +kernel) rfl rfl .nil (by decide) (map5 rfl (strs_ren _ _) (bools_ren _ _) rfl rfl) rfl rfl (all5 rfl (strs_lt _ _) (bools_lt _ _) rfl rfl) rfl (all5 rfl (strs_lt _ _) (bools_lt _ _) rfl rfl) rfl rfl rfl rfl (zip5 rfl (os_strs _ _) (os_bools _ _) rfl rfl) | exact w_call s2 [] [0, 1, 2, 3, 4] [] Try.func21 rfl (by decide +kernel) rfl rfl .nil (by decide) (map5 rfl (strs_ren _ _) (bools_ren _ _) rfl rfl) rfl rfl (all5 rfl (strs_lt _ _) (bools_lt _ _) rfl rfl) rfl (all5 rfl (strs_lt _ _) (bools_lt _ _) rfl rfl) rfl rfl rfl rfl (zip5 rfl (os_strs _ _) (os_bools _ _) rfl rfl) | exact w_call s3 [] [0, 1, 2, 3, 4] [] Try.func21 rfl (by decide +kernel) rfl rfl .nil (by decide) (map5 rfl (strs_ren _ _) (bools_ren _ _) rfl rfl) rfl rfl (all5 rfl (strs_lt _ _) (bools_lt _ _) rfl rfl) rfl (all5 rfl (strs_lt _ _) (bools_lt _ _) rfl rfl) rfl rfl rfl rfl (zip5 rfl (os_strs _ _) (os_bools _ _) rfl rfl))
    exact .nil
  case hB => decide +kernel
  case hI => kernel_rfl
  show Cwp _ _ _ _
  apply one_region
  case hc =>
    apply ChainL.of (some 62) rfl rfl
    case h => (first | exact w_bin rfl rfl rfl (add_i64 rfl (by omega) (by omega)) | exact w_bin rfl rfl rfl rfl)
    apply ChainL.of (some 45) rfl rfl
    case h => exact step_move rfl
    exact .nil
  show LoopN _ _ _ _ _
  refine loop_round ?_
  refine cwp_seq ?_
  apply one_region
  case hc =>
    apply ChainL.of (some 46) rfl rfl
    case h => (first | exact w_bin rfl rfl rfl (lss_t (by omega)) | exact w_bin rfl rfl rfl (lss_f (by omega)) | exact w_bin rfl rfl rfl rfl)
    exact .nil
  show Cwp _ _ _ _
  refine cwp_seq ?_
  refine cond_t (by first | rfl | kernel_rfl) ?_
  refine cwp_skip ?_
  show Cwp _ _ _ _
  refine cwp_seq ?_
  refine cwp_block ?_
  refine cwp_seq ?_
  apply one_region
  case hc =>
    apply ChainL.of (some 47) rfl rfl
    case h => exact step_move rfl
    apply ChainL.of (some 48) rfl rfl
    case h => (first | exact w_index_own tab rfl rfl rfl rfl rfl rfl rfl rfl (by omega) (by omega) rfl | exact w_index_lst tab rfl rfl rfl rfl rfl rfl rfl (by omega) (by assumption))
    apply ChainL.of (some 49) rfl rfl
    case h => (first | exact w_load tab rfl rfl rfl rfl rfl rfl rfl | exact w_load tab rfl rfl rfl rfl rfl (by assumption) rfl | exact w_load_elt tab rfl rfl rfl rfl rfl | exact w_loads tab rfl rfl rfl rfl rfl rfl rfl rfl | exact w_load_tab tab rfl rfl rfl rfl (.head _) (by kernel_rfl) | exact w_loads_elt tab rfl rfl rfl rfl rfl rfl)
    apply ChainL.of (some 4) rfl rfl
    case h => exact w_alloc tab rfl rfl 108 rfl
    apply ChainL.of (some 3) rfl rfl
    case h => exact step_assign rfl
    apply ChainL.of none rfl rfl
    case h => (first | exact w_store tab rfl rfl rfl rfl rfl rfl rfl rfl rfl (Nat.le_of_ble_eq_true rfl) rfl rfl | exact w_store tab rfl rfl rfl rfl rfl (by assumption) rfl rfl rfl (Nat.le_of_ble_eq_true rfl) rfl rfl)
    exact .nil
  show Cwp _ _ _ _
  apply one_region_draw [0, 0, 0, 4, 12, 28, 60, 124, 252, 0, 1020, 2047] rfl
  case hc =>
    apply ChainL.of (some 50) rfl rfl
    case h => exact step_move rfl
    apply ChainL.of (some 51) rfl rfl
    case h => (first | exact w_load tab rfl rfl rfl rfl rfl rfl rfl | exact w_load tab rfl rfl rfl rfl rfl (by assumption) rfl | exact w_load_elt tab rfl rfl rfl rfl rfl | exact w_loads tab rfl rfl rfl rfl rfl rfl rfl rfl | exact w_load_tab tab rfl rfl rfl rfl (.head _) (by kernel_rfl) | exact w_loads_elt tab rfl rfl rfl rfl rfl rfl)
    apply ChainL.of (some 52) rfl rfl
    case h => exact step_move rfl
    apply ChainL.of (some 53) rfl rfl
    case h => (first | exact step_nilCheck rfl rfl | exact step_nilCheck_elt rfl rfl)
    apply ChainL.of (some 54) rfl rfl
    case h => (first | exact w_fieldAddr tab rfl rfl rfl rfl (by decide) rfl rfl | exact w_fieldAddr_elt tab rfl rfl rfl rfl (by decide) rfl rfl)
    apply ChainL.of (some 55) rfl rfl
    case h => (first | exact w_load tab rfl rfl rfl rfl rfl rfl rfl | exact w_load tab rfl rfl rfl rfl rfl (by assumption) rfl | exact w_load_elt tab rfl rfl rfl rfl rfl | exact w_loads tab rfl rfl rfl rfl rfl rfl rfl rfl | exact w_load_tab tab rfl rfl rfl rfl (.head _) (by kernel_rfl) | exact w_loads_elt tab rfl rfl rfl rfl rfl rfl)
    apply ChainL.of (some 56) rfl rfl
    case h => (first | exact w_index_own tab rfl rfl rfl rfl rfl rfl rfl rfl (by omega) (by omega) rfl | exact w_index_lst tab rfl rfl rfl rfl rfl rfl rfl (by omega) (by assumption))
    apply ChainL.of (some 57) rfl rfl
    case h => (first | exact w_fieldAddr tab rfl rfl rfl rfl (by decide) rfl rfl | exact w_fieldAddr_elt tab rfl rfl rfl rfl (by decide) rfl rfl)
    apply ChainL.of (some 58) rfl rfl
    case h => (first | exact w_load tab rfl rfl rfl rfl rfl rfl rfl | exact w_load tab rfl rfl rfl rfl rfl (by assumption) rfl | exact w_load_elt tab rfl rfl rfl rfl rfl | exact w_loads tab rfl rfl rfl rfl rfl rfl rfl rfl | exact w_load_tab tab rfl rfl rfl rfl (.head _) (by kernel_rfl) | exact w_loads_elt tab rfl rfl rfl rfl rfl rfl)
    apply ChainL.of (some 59) rfl rfl
    case h => exact step_move rfl
    apply ChainL.of (some 60) rfl rfl
    case h => (first | exact w_call f0 [] [] [] Try.func28 rfl (by decide +kernel) rfl rfl .nil (by decide) rfl rfl rfl rfl rfl rfl rfl rfl rfl rfl rfl | exact w_call f1 [] [] [] Try.func28 rfl (by decide +kernel) rfl rfl .nil (by decide) rfl rfl rfl rfl rfl rfl rfl rfl rfl rfl rfl | exact w_call f2 [] [] [] Try.func28 rfl (by decide +kernel) rfl rfl .nil (by decide) rfl rfl rfl rfl rfl rfl rfl rfl rfl rfl rfl | exact w_call f3 [] [] [] Try.func28 rfl (by decide +kernel) rfl rfl .nil (by decide) rfl rfl rfl rfl rfl rfl rfl rfl rfl rfl rfl)
    apply ChainL.of (some 61) rfl rfl
    case h => (first | exact w_call s0 [] [0, 1, 2, 3, 4] [] Try.func21 rfl (by decide +kernel) rfl rfl .nil (by decide) (map5 rfl (strs_ren _ _) (bools_ren _ _) rfl rfl) rfl rfl (all5 rfl (strs_lt _ _) (bools_lt _ _) rfl rfl) rfl (all5 rfl (strs_lt _ _) (bools_lt _ _) rfl rfl) rfl rfl rfl rfl (zip5 rfl (os_strs _ _) (os_bools _ _) rfl rfl) | exact w_call s1 [] [0, 1, 2, 3, 4] [] Try.func21 rfl (by decide +kernel) rfl rfl .nil (by decide) (map5 rfl (strs_ren _ _) (bools_ren _ _) rfl rfl) rfl rfl (all5 rfl (strs_lt _ _) (bools_lt _ _) rfl rfl) rfl (all5 rfl (strs_lt _ _) (bools_lt _ _) rfl rfl) rfl rfl rfl rfl (zip5 rfl (os_strs _ _) (os_bools _ _) rfl rfl) | exact w_call s2 [] [0, 1, 2, 3, 4] [] Try.func21 rfl (by decide +kernel) rfl rfl .nil (by decide) (map5 rfl (strs_ren _ _) (bools_ren _ _) rfl rfl) rfl rfl (all5 rfl (strs_lt _ _) (bools_lt _ _) rfl rfl) rfl (all5 rfl (strs_lt _ _) (bools_lt _ _) rfl rfl) rfl rfl rfl rfl (zip5 rfl (os_strs _ _) (os_bools _ _) rfl rfl) | exact w_call s3 [] [0, 1, 2, 3, 4] [] Try.func21 rfl (by decide +kernel) rfl rfl .nil (by decide) (map5 rfl (strs_ren _ _) (bools_ren _ _) rfl rfl) rfl rfl (all5 rfl (strs_lt _ _) (bools_lt _ _) rfl rfl) rfl (all5 rfl (strs_lt _ _) (bools_lt _ _) rfl rfl) rfl rfl rfl rfl (zip5 rfl (os_strs _ _) (os_bools _ _) rfl rfl))
    exact .nil
  case hB => decide +kernel
  case hI => kernel_rfl
  show Cwp _ _ _ _
  apply one_region
  case hc =>
    apply ChainL.of (some 62) rfl rfl
    case h => (first | exact w_bin rfl rfl rfl (add_i64 rfl (by omega) (by omega)) | exact w_bin rfl rfl rfl rfl)
    apply ChainL.of (some 45) rfl rfl
    case h => exact step_move rfl
    exact .nil
  show LoopN _ _ _ _ _
  refine loop_round ?_
  refine cwp_seq ?_
  apply one_region
  case hc =>
    apply ChainL.of (some 46) rfl rfl
    case h => (first | exact w_bin rfl rfl rfl (lss_t (by omega)) | exact w_bin rfl rfl rfl (lss_f (by omega)) | exact w_bin rfl rfl rfl rfl)
    exact .nil
  show Cwp _ _ _ _
  refine cwp_seq ?_
  refine cond_t (by first | rfl | kernel_rfl) ?_
  refine cwp_skip ?_
  show Cwp _ _ _ _
  refine cwp_seq ?_
  refine cwp_block ?_
  refine cwp_seq ?_
  apply one_region
  case hc =>
    apply ChainL.of (some 47) rfl rfl
    case h => exact step_move rfl
    apply ChainL.of (some 48) rfl rfl
    case h => (first | exact w_index_own tab rfl rfl rfl rfl rfl rfl rfl rfl (by omega) (by omega) rfl | exact w_index_lst tab rfl rfl rfl rfl rfl rfl rfl (by omega) (by assumption))
    apply ChainL.of (some 49) rfl rfl
    case h => (first | exact w_load tab rfl rfl rfl rfl rfl rfl rfl | exact w_load tab rfl rfl rfl rfl rfl (by assumption) rfl | exact w_load_elt tab rfl rfl rfl rfl rfl | exact w_loads tab rfl rfl rfl rfl rfl rfl rfl rfl | exact w_load_tab tab rfl rfl rfl rfl (.head _) (by kernel_rfl) | exact w_loads_elt tab rfl rfl rfl rfl rfl rfl)
    apply ChainL.of (some 4) rfl rfl
    case h => exact w_alloc tab rfl rfl 109 rfl
    apply ChainL.of (some 3) rfl rfl
    case h => exact step_assign rfl
    apply ChainL.of none rfl rfl
    case h => (first | exact w_store tab rfl rfl rfl rfl rfl rfl rfl rfl rfl (Nat.le_of_ble_eq_true rfl) rfl rfl | exact w_store tab rfl rfl rfl rfl rfl (by assumption) rfl rfl rfl (Nat.le_of_ble_eq_true rfl) rfl rfl)
    exact .nil
  show Cwp _ _ _ _
  apply one_region_draw [0, 0, 0, 4, 12, 28, 60, 124, 252, 0, 1020, 2047] rfl
  case hc =>
    apply ChainL.of (some 50) rfl rfl
    case h => exact step_move rfl
    apply ChainL.of (some 51) rfl rfl
    case h => (first | exact w_load tab rfl rfl rfl rfl rfl rfl rfl | exact w_load tab rfl rfl rfl rfl rfl (by assumption) rfl | exact w_load_elt tab rfl rfl rfl rfl rfl | exact w_loads tab rfl rfl rfl rfl rfl rfl rfl rfl | exact w_load_tab tab rfl rfl rfl rfl (.head _) (by kernel_rfl) | exact w_loads_elt tab rfl rfl rfl rfl rfl rfl)
    apply ChainL.of (some 52) rfl rfl
    case h => exact step_move rfl
    apply ChainL.of (some 53) rfl rfl
    case h => (first | exact step_nilCheck rfl rfl | exact step_nilCheck_elt rfl rfl)
    apply ChainL.of (some 54) rfl rfl
    case h => (first | exact w_fieldAddr tab rfl rfl rfl rfl (by decide) rfl rfl | exact w_fieldAddr_elt tab rfl rfl rfl rfl (by decide) rfl rfl)
    apply ChainL.of (some 55) rfl rfl
    case h => (first | exact w_load tab rfl rfl rfl rfl rfl rfl rfl | exact w_load tab rfl rfl rfl rfl rfl (by assumption) rfl | exact w_load_elt tab rfl rfl rfl rfl rfl | exact w_loads tab rfl rfl rfl rfl rfl rfl rfl rfl | exact w_load_tab tab rfl rfl rfl rfl (.head _) (by kernel_rfl) | exact w_loads_elt tab rfl rfl rfl rfl rfl rfl)
    apply ChainL.of (some 56) rfl rfl
    case h => (first | exact w_index_own tab rfl rfl rfl rfl rfl rfl rfl rfl (by omega) (by omega) rfl | exact w_index_lst tab rfl rfl rfl rfl rfl rfl rfl (by omega) (by assumption))
    apply ChainL.of (some 57) rfl rfl
    case h => (first | exact w_fieldAddr tab rfl rfl rfl rfl (by decide) rfl rfl | exact w_fieldAddr_elt tab rfl rfl rfl rfl (by decide) rfl rfl)
    apply ChainL.of (some 58) rfl rfl
    case h => (first | exact w_load tab rfl rfl rfl rfl rfl rfl rfl | exact w_load tab rfl rfl rfl rfl rfl (by assumption) rfl | exact w_load_elt tab rfl rfl rfl rfl rfl | exact w_loads tab rfl rfl rfl rfl rfl rfl rfl rfl | exact w_load_tab tab rfl rfl rfl rfl (.head _) (by kernel_rfl) | exact w_loads_elt tab rfl rfl rfl rfl rfl rfl)
    apply ChainL.of (some 59) rfl rfl
    case h => exact step_move rfl
    apply ChainL.of (some 60) rfl rfl
    case h => (first | exact w_call f0 [] [] [] Try.func28 rfl (by decide +kernel) rfl rfl .nil (by decide) rfl rfl rfl rfl rfl rfl rfl rfl rfl rfl rfl | exact w_call f1 [] [] [] Try.func28 rfl (by decide +kernel) rfl rfl .nil (by decide) rfl rfl rfl rfl rfl rfl rfl rfl rfl rfl rfl | exact w_call f2 [] [] [] Try.func28 rfl (by decide +kernel) rfl rfl .nil (by decide) rfl rfl rfl rfl rfl rfl rfl rfl rfl rfl rfl | exact w_call f3 [] [] [] Try.func28 rfl (by decide +kernel) rfl rfl .nil (by decide) rfl rfl rfl rfl rfl rfl rfl rfl rfl rfl rfl)
    apply ChainL.of (some 61) rfl rfl
    case h => (first | exact w_call s0 [] [0, 1, 2, 3, 4] [] Try.func21 rfl (by decide +kernel) rfl rfl .nil (by decide) (map5 rfl (strs_ren _ _) (bools_ren _ _) rfl rfl) rfl rfl (all5 rfl (strs_lt _ _) (bools_lt _ _) rfl rfl) rfl (all5 rfl (strs_lt _ _) (bools_lt _ _) rfl rfl) rfl rfl rfl rfl (zip5 rfl (os_strs _ _) (os_bools _ _) rfl rfl) | exact w_call s1 [] [0, 1, 2, 3, 4] [] Try.func21 rfl (by decide +kernel) rfl rfl .nil (by decide) (map5 rfl (strs_ren _ _) (bools_ren _ _) rfl rfl) rfl rfl (all5 rfl (strs_lt _ _) (bools_lt _ _) rfl rfl) rfl (all5 rfl (strs_lt _ _) (bools_lt _ _) rfl rfl) rfl rfl rfl rfl (zip5 rfl (os_strs _ _) (os_bools _ _) rfl rfl) | exact w_call s2 [] [0, 1, 2, 3, 4] [] Try.func21 rfl (by decide +kernel) rfl rfl .nil (by decide) (map5 rfl (strs_ren _ _) (bools_ren _ _) rfl rfl) rfl rfl (all5 rfl (strs_lt _ _) (bools_lt _ _) rfl rfl) rfl (all5 rfl (strs_lt _ _) (bools_lt _ _) rfl rfl) rfl rfl rfl rfl (zip5 rfl (os_strs _ _) (os_bools _ _) rfl rfl) | exact w_call s3 [] [0, 1, 2, 3, 4] [] Try.func21 rfl (by decide +kernel) rfl rfl .nil (by decide) (map5 rfl (strs_ren _ _) (bools_ren _ _) rfl rfl) rfl rfl (all5 rfl (strs_lt _ _) (bools_lt _ _) rfl rfl) rfl (all5 rfl (strs_lt _ _) (bools_lt _ _) rfl rfl) rfl rfl rfl rfl (zip5 rfl (os_strs _ _) (os_bools _ _) rfl rfl))
    exact .nil
  case hB => decide +kernel
  case hI => kernel_rfl
  show Cwp _ _ _ _
  apply one_region
  case hc =>
    apply ChainL.of (some 62) rfl rfl
    case h => (first | exact w_bin rfl rfl rfl (add_i64 rfl (by omega) (by omega)) | exact w_bin rfl rfl rfl rfl)
    apply ChainL.of (some 45) rfl rfl
    case h => exact step_move rfl
    exact .nil
  show LoopN _ _ _ _ _
  refine loop_round ?_
  refine cwp_seq ?_
  apply one_region
  case hc =>
    apply ChainL.of (some 46) rfl rfl
    case h => (first | exact w_bin rfl rfl rfl (lss_t (by omega)) | exact w_bin rfl rfl rfl (lss_f (by omega)) | exact w_bin rfl rfl rfl rfl)
    exact .nil
  show Cwp _ _ _ _
  refine cwp_seq ?_
  refine cond_f (by first | rfl | kernel_rfl) ?_
  refine cwp_exit ?_
  show Cwp _ _ _ _
  refine cwp_seq ?_
  apply one_region_draw [0, 0, 0, 0, 8, 24, 56, 120, 121, 377, 889, 2043, 4091, 8187, 16383, 32767, 65535] rfl
  case hc =>
    apply ChainL.of (some 63) rfl rfl
    case h => exact step_move rfl
    apply ChainL.of (some 64) rfl rfl
    case h => exact step_move rfl
    apply ChainL.of (some 65) rfl rfl
    case h => exact step_move rfl
    apply ChainL.of (some 66) rfl rfl
    case h => exact step_move rfl
    apply ChainL.of (some 67) rfl rfl
    case h => (first | exact step_nilCheck rfl rfl | exact step_nilCheck_elt rfl rfl)
    apply ChainL.of (some 68) rfl rfl
    case h => (first | exact w_fieldAddr tab rfl rfl rfl rfl (by decide) rfl rfl | exact w_fieldAddr_elt tab rfl rfl rfl rfl (by decide) rfl rfl)
    apply ChainL.of (some 69) rfl rfl
    case h => (first | exact w_load tab rfl rfl rfl rfl rfl rfl rfl | exact w_load tab rfl rfl rfl rfl rfl (by assumption) rfl | exact w_load_elt tab rfl rfl rfl rfl rfl | exact w_loads tab rfl rfl rfl rfl rfl rfl rfl rfl | exact w_load_tab tab rfl rfl rfl rfl (.head _) (by kernel_rfl) | exact w_loads_elt tab rfl rfl rfl rfl rfl rfl)
    apply ChainL.of (some 70) rfl rfl
    case h => exact w_cut_own_none (lo := some (.const (.int .i64 1))) (hi := none) tab rfl rfl rfl rfl rfl 1 ⟨.i64, rfl⟩ rfl (Nat.le_refl 1)
    apply ChainL.of (some 71) rfl rfl
    case h => (first | exact step_nilCheck rfl rfl | exact step_nilCheck_elt rfl rfl)
    apply ChainL.of (some 72) rfl rfl
    case h => (first | exact w_fieldAddr tab rfl rfl rfl rfl (by decide) rfl rfl | exact w_fieldAddr_elt tab rfl rfl rfl rfl (by decide) rfl rfl)
    apply ChainL.of none rfl rfl
    case h => (first | exact w_store tab rfl rfl rfl rfl rfl rfl rfl rfl rfl (Nat.le_of_ble_eq_true rfl) rfl rfl | exact w_store tab rfl rfl rfl rfl rfl (by assumption) rfl rfl rfl (Nat.le_of_ble_eq_true rfl) rfl rfl)
    apply ChainL.of (some 73) rfl rfl
    case h => (first | exact step_nilCheck rfl rfl | exact step_nilCheck_elt rfl rfl)
    apply ChainL.of (some 74) rfl rfl
    case h => (first | exact w_fieldAddr tab rfl rfl rfl rfl (by decide) rfl rfl | exact w_fieldAddr_elt tab rfl rfl rfl rfl (by decide) rfl rfl)
    apply ChainL.of none rfl rfl
    case h => (first | exact w_store tab rfl rfl rfl rfl rfl rfl rfl rfl rfl (Nat.le_of_ble_eq_true rfl) rfl rfl | exact w_store tab rfl rfl rfl rfl rfl (by assumption) rfl rfl rfl (Nat.le_of_ble_eq_true rfl) rfl rfl)
    apply ChainL.of (some 75) rfl rfl
    case h => (first | exact step_nilCheck rfl rfl | exact step_nilCheck_elt rfl rfl)
    apply ChainL.of (some 76) rfl rfl
    case h => (first | exact w_fieldAddr tab rfl rfl rfl rfl (by decide) rfl rfl | exact w_fieldAddr_elt tab rfl rfl rfl rfl (by decide) rfl rfl)
    apply ChainL.of none rfl rfl
    case h => (first | exact w_store tab rfl rfl rfl rfl rfl rfl rfl rfl rfl (Nat.le_of_ble_eq_true rfl) rfl rfl | exact w_store tab rfl rfl rfl rfl rfl (by assumption) rfl rfl rfl (Nat.le_of_ble_eq_true rfl) rfl rfl)
    exact .nil
  case hB => decide +kernel
  case hI => kernel_rfl
  show Cwp _ _ _ _
  refine cwp_seq ?_
  apply one_region
  case hc =>
    apply ChainL.of (some 77) rfl rfl
    case h => exact step_move rfl
    apply ChainL.of (some 78) rfl rfl
    case h => (first | exact step_nilCheck rfl rfl | exact step_nilCheck_elt rfl rfl)
    apply ChainL.of (some 79) rfl rfl
    case h => (first | exact w_fieldAddr tab rfl rfl rfl rfl (by decide) rfl rfl | exact w_fieldAddr_elt tab rfl rfl rfl rfl (by decide) rfl rfl)
    apply ChainL.of (some 80) rfl rfl
    case h => (first | exact w_load tab rfl rfl rfl rfl rfl rfl rfl | exact w_load tab rfl rfl rfl rfl rfl (by assumption) rfl | exact w_load_elt tab rfl rfl rfl rfl rfl | exact w_loads tab rfl rfl rfl rfl rfl rfl rfl rfl | exact w_load_tab tab rfl rfl rfl rfl (.head _) (by kernel_rfl) | exact w_loads_elt tab rfl rfl rfl rfl rfl rfl)
    apply ChainL.of (some 81) rfl rfl
    case h => (first | exact w_bin rfl rfl rfl (add_i64 rfl (by omega) (by omega)) | exact w_bin rfl rfl rfl rfl)
    apply ChainL.of (some 82) rfl rfl
    case h => (first | exact step_nilCheck rfl rfl | exact step_nilCheck_elt rfl rfl)
    apply ChainL.of (some 83) rfl rfl
    case h => (first | exact w_fieldAddr tab rfl rfl rfl rfl (by decide) rfl rfl | exact w_fieldAddr_elt tab rfl rfl rfl rfl (by decide) rfl rfl)
    apply ChainL.of none rfl rfl
    case h => (first | exact w_store tab rfl rfl rfl rfl rfl rfl rfl rfl rfl (Nat.le_of_ble_eq_true rfl) rfl rfl | exact w_store tab rfl rfl rfl rfl rfl (by assumption) rfl rfl rfl (Nat.le_of_ble_eq_true rfl) rfl rfl)
    exact .nil
  show Cwp _ _ _ _
  refine cwp_seq ?_
  apply one_region
  case hc =>
    apply ChainL.of (some 2) rfl rfl
    case h => exact step_assign rfl
    exact .nil
  show Cwp _ _ _ _
  refine cwp_ret ?_
  exact ⟨.inl rfl, resH_one rfl rfl, objs_ok rfl⟩
theorem actfail_6_1 (n a fails : Int) (h0 : 0 ≤ n) (h1 : a < n + 1) (h2 : 0 < a) (h3 : n ≤ 100) (h4 : 0 ≤ fails) (h5 : fails ≤ 100) (D : List ByteArray) (T : List Bool) (F : List Int) (hD : D.length = 9) (hT : T.length = 9) :
    HCall Try.prog 20 [dsk (.own 3 0 1) (.own 4 0 1) n n fails false, strs D, bools T, othO 1, cutO a (.own 5 0 F.length), ints F] [.ref 0 0 0]
    [.ob (dsk (.v (.slice none 0 0)) (.lst 2 []) (n + 1) (n + 1) (fails + 1) true), .ob (strs (itD F D 1)), .ob (bools (itT F T 1)), .ob (othO 1), .ob (cutO a (.own 5 0 F.length)), .ob (ints F)] (.v (.bool true)) := by
  have s0 := settle_6 F 0 (.own 3 0 1) (.own 4 0 1) (n + 1) (n + 1) fails false D T (othO 1) (cutO a (.own 5 0 F.length)) (ints F) hD hT
  have f0 := fate_any F 0
  refine HCall.of Try.func20 rfl (by decide +kernel) (Nat.le_of_ble_eq_true rfl) ?_
  refine cwp_seq ?_
  apply one_region
  case hc =>
    apply ChainL.of (some 2) rfl rfl
    case h => exact step_assign rfl
    exact .nil
  show Cwp _ _ _ _
  refine cwp_seq ?_
  apply one_region
  case hc =>
    apply ChainL.of (some 5) rfl rfl
    case h => exact step_move rfl
    apply ChainL.of (some 6) rfl rfl
    case h => (first | exact step_nilCheck rfl rfl | exact step_nilCheck_elt rfl rfl)
    apply ChainL.of (some 7) rfl rfl
    case h => (first | exact w_fieldAddr tab rfl rfl rfl rfl (by decide) rfl rfl | exact w_fieldAddr_elt tab rfl rfl rfl rfl (by decide) rfl rfl)
    apply ChainL.of (some 8) rfl rfl
    case h => (first | exact w_load tab rfl rfl rfl rfl rfl rfl rfl | exact w_load tab rfl rfl rfl rfl rfl (by assumption) rfl | exact w_load_elt tab rfl rfl rfl rfl rfl | exact w_loads tab rfl rfl rfl rfl rfl rfl rfl rfl | exact w_load_tab tab rfl rfl rfl rfl (.head _) (by kernel_rfl) | exact w_loads_elt tab rfl rfl rfl rfl rfl rfl)
    apply ChainL.of (some 9) rfl rfl
    case h => (first | exact w_bin rfl rfl rfl (add_i64 rfl (by omega) (by omega)) | exact w_bin rfl rfl rfl rfl)
    apply ChainL.of (some 10) rfl rfl
    case h => (first | exact step_nilCheck rfl rfl | exact step_nilCheck_elt rfl rfl)
    apply ChainL.of (some 11) rfl rfl
    case h => (first | exact w_fieldAddr tab rfl rfl rfl rfl (by decide) rfl rfl | exact w_fieldAddr_elt tab rfl rfl rfl rfl (by decide) rfl rfl)
    apply ChainL.of none rfl rfl
    case h => (first | exact w_store tab rfl rfl rfl rfl rfl rfl rfl rfl rfl (Nat.le_of_ble_eq_true rfl) rfl rfl | exact w_store tab rfl rfl rfl rfl rfl (by assumption) rfl rfl rfl (Nat.le_of_ble_eq_true rfl) rfl rfl)
    exact .nil
  show Cwp _ _ _ _
  refine cwp_seq ?_
  apply one_region
  case hc =>
    apply ChainL.of (some 12) rfl rfl
    case h => exact step_move rfl
    apply ChainL.of (some 13) rfl rfl
    case h => (first | exact step_nilCheck rfl rfl | exact step_nilCheck_elt rfl rfl)
    apply ChainL.of (some 14) rfl rfl
    case h => (first | exact w_fieldAddr tab rfl rfl rfl rfl (by decide) rfl rfl | exact w_fieldAddr_elt tab rfl rfl rfl rfl (by decide) rfl rfl)
    apply ChainL.of (some 15) rfl rfl
    case h => (first | exact w_load tab rfl rfl rfl rfl rfl rfl rfl | exact w_load tab rfl rfl rfl rfl rfl (by assumption) rfl | exact w_load_elt tab rfl rfl rfl rfl rfl | exact w_loads tab rfl rfl rfl rfl rfl rfl rfl rfl | exact w_load_tab tab rfl rfl rfl rfl (.head _) (by kernel_rfl) | exact w_loads_elt tab rfl rfl rfl rfl rfl rfl)
    apply ChainL.of (some 16) rfl rfl
    case h => (first | exact w_bin rfl rfl rfl (add_i64 rfl (by omega) (by omega)) | exact w_bin rfl rfl rfl rfl)
    apply ChainL.of (some 17) rfl rfl
    case h => (first | exact step_nilCheck rfl rfl | exact step_nilCheck_elt rfl rfl)
    apply ChainL.of (some 18) rfl rfl
    case h => (first | exact w_fieldAddr tab rfl rfl rfl rfl (by decide) rfl rfl | exact w_fieldAddr_elt tab rfl rfl rfl rfl (by decide) rfl rfl)
    apply ChainL.of none rfl rfl
    case h => (first | exact w_store tab rfl rfl rfl rfl rfl rfl rfl rfl rfl (Nat.le_of_ble_eq_true rfl) rfl rfl | exact w_store tab rfl rfl rfl rfl rfl (by assumption) rfl rfl rfl (Nat.le_of_ble_eq_true rfl) rfl rfl)
    exact .nil
  show Cwp _ _ _ _
  refine cwp_seq ?_
  refine cwp_seq ?_
  apply one_region_draw [0, 1, 3, 7, 15, 31, 63, 127, 255, 511, 1023, 127, 2175, 6271, 14463, 30847, 63615, 129151, 260223, 524287, 1048575] rfl
  case hc =>
    apply ChainL.of (some 19) rfl rfl
    case h => exact step_move rfl
    apply ChainL.of (some 20) rfl rfl
    case h => (first | exact step_nilCheck rfl rfl | exact step_nilCheck_elt rfl rfl)
    apply ChainL.of (some 21) rfl rfl
    case h => (first | exact w_fieldAddr tab rfl rfl rfl rfl (by decide) rfl rfl | exact w_fieldAddr_elt tab rfl rfl rfl rfl (by decide) rfl rfl)
    apply ChainL.of (some 22) rfl rfl
    case h => (first | exact w_load tab rfl rfl rfl rfl rfl rfl rfl | exact w_load tab rfl rfl rfl rfl rfl (by assumption) rfl | exact w_load_elt tab rfl rfl rfl rfl rfl | exact w_loads tab rfl rfl rfl rfl rfl rfl rfl rfl | exact w_load_tab tab rfl rfl rfl rfl (.head _) (by kernel_rfl) | exact w_loads_elt tab rfl rfl rfl rfl rfl rfl)
    apply ChainL.of (some 23) rfl rfl
    case h => exact w_len tab rfl rfl rfl (.own rfl rfl rfl) (n := 1) (by kernel_rfl)
    apply ChainL.of (some 24) rfl rfl
    case h => (first | exact w_bin rfl rfl rfl (eql_t (by omega)) | exact w_bin rfl rfl rfl (eql_f (by omega)) | exact w_bin rfl rfl rfl rfl)
    apply ChainL.of (some 25) rfl rfl
    case h => exact step_move rfl
    first
    | apply ChainL.off (some 26) 6 25 false rfl rfl rfl rfl
    | apply ChainL.on (some 26) 6 25 false rfl rfl rfl rfl
      case h => exact step_move rfl
    first
    | apply ChainL.off (some 27) 6 25 false rfl rfl rfl rfl
    | apply ChainL.on (some 27) 6 25 false rfl rfl rfl rfl
      case h => (first | exact step_nilCheck rfl rfl | exact step_nilCheck_elt rfl rfl)
    first
    | apply ChainL.off (some 28) 6 25 false rfl rfl rfl rfl
    | apply ChainL.on (some 28) 6 25 false rfl rfl rfl rfl
      case h => (first | exact w_fieldAddr tab rfl rfl rfl rfl (by decide) rfl rfl | exact w_fieldAddr_elt tab rfl rfl rfl rfl (by decide) rfl rfl)
    first
    | apply ChainL.off (some 29) 6 25 false rfl rfl rfl rfl
    | apply ChainL.on (some 29) 6 25 false rfl rfl rfl rfl
      case h => (first | exact w_load tab rfl rfl rfl rfl rfl rfl rfl | exact w_load tab rfl rfl rfl rfl rfl (by assumption) rfl | exact w_load_elt tab rfl rfl rfl rfl rfl | exact w_loads tab rfl rfl rfl rfl rfl rfl rfl rfl | exact w_load_tab tab rfl rfl rfl rfl (.head _) (by kernel_rfl) | exact w_loads_elt tab rfl rfl rfl rfl rfl rfl)
    first
    | apply ChainL.off (some 30) 6 25 false rfl rfl rfl rfl
    | apply ChainL.on (some 30) 6 25 false rfl rfl rfl rfl
      case h => exact step_move rfl
    first
    | apply ChainL.off (some 31) 6 25 false rfl rfl rfl rfl
    | apply ChainL.on (some 31) 6 25 false rfl rfl rfl rfl
      case h => (first | exact step_nilCheck rfl rfl | exact step_nilCheck_elt rfl rfl)
    first
    | apply ChainL.off (some 32) 6 25 false rfl rfl rfl rfl
    | apply ChainL.on (some 32) 6 25 false rfl rfl rfl rfl
      case h => (first | exact w_fieldAddr tab rfl rfl rfl rfl (by decide) rfl rfl | exact w_fieldAddr_elt tab rfl rfl rfl rfl (by decide) rfl rfl)
    first
    | apply ChainL.off (some 33) 6 25 false rfl rfl rfl rfl
    | apply ChainL.on (some 33) 6 25 false rfl rfl rfl rfl
      case h => (first | exact w_load tab rfl rfl rfl rfl rfl rfl rfl | exact w_load tab rfl rfl rfl rfl rfl (by assumption) rfl | exact w_load_elt tab rfl rfl rfl rfl rfl | exact w_loads tab rfl rfl rfl rfl rfl rfl rfl rfl | exact w_load_tab tab rfl rfl rfl rfl (.head _) (by kernel_rfl) | exact w_loads_elt tab rfl rfl rfl rfl rfl rfl)
    first
    | apply ChainL.off (some 34) 6 25 false rfl rfl rfl rfl
    | apply ChainL.on (some 34) 6 25 false rfl rfl rfl rfl
      case h => (first | exact w_index_own tab rfl rfl rfl rfl rfl rfl rfl rfl (by omega) (by omega) rfl | exact w_index_lst tab rfl rfl rfl rfl rfl rfl rfl (by omega) (by assumption))
    first
    | apply ChainL.off (some 35) 6 25 false rfl rfl rfl rfl
    | apply ChainL.on (some 35) 6 25 false rfl rfl rfl rfl
      case h => (first | exact w_fieldAddr tab rfl rfl rfl rfl (by decide) rfl rfl | exact w_fieldAddr_elt tab rfl rfl rfl rfl (by decide) rfl rfl)
    first
    | apply ChainL.off (some 36) 6 25 false rfl rfl rfl rfl
    | apply ChainL.on (some 36) 6 25 false rfl rfl rfl rfl
      case h => (first | exact w_load tab rfl rfl rfl rfl rfl rfl rfl | exact w_load tab rfl rfl rfl rfl rfl (by assumption) rfl | exact w_load_elt tab rfl rfl rfl rfl rfl | exact w_loads tab rfl rfl rfl rfl rfl rfl rfl rfl | exact w_load_tab tab rfl rfl rfl rfl (.head _) (by kernel_rfl) | exact w_loads_elt tab rfl rfl rfl rfl rfl rfl)
    first
    | apply ChainL.off (some 37) 6 25 false rfl rfl rfl rfl
    | apply ChainL.on (some 37) 6 25 false rfl rfl rfl rfl
      case h => (first | exact w_max rfl rfl rfl (if_pos (by omega)) | exact w_max rfl rfl rfl (if_neg (by omega)) | exact w_max rfl rfl rfl rfl)
    first
    | apply ChainL.off (some 38) 6 25 false rfl rfl rfl rfl
    | apply ChainL.on (some 38) 6 25 false rfl rfl rfl rfl
      case h => (first | exact w_bin rfl rfl rfl (leq_t (by omega)) | exact w_bin rfl rfl rfl (leq_f (by omega)) | exact w_bin rfl rfl rfl rfl)
    apply ChainL.of (some 39) rfl rfl
    case h => exact step_pick rfl rfl
    exact .nil
  case hB => decide +kernel
  case hI => kernel_rfl
  show Cwp _ _ _ _
  refine cond_f (by first | rfl | kernel_rfl) ?_
  refine cwp_skip ?_
  show Cwp _ _ _ _
  refine cwp_seq ?_
  refine cwp_seq ?_
  apply one_region
  case hc =>
    apply ChainL.of (some 40) rfl rfl
    case h => exact step_move rfl
    apply ChainL.of (some 41) rfl rfl
    case h => (first | exact step_nilCheck rfl rfl | exact step_nilCheck_elt rfl rfl)
    apply ChainL.of (some 42) rfl rfl
    case h => (first | exact w_fieldAddr tab rfl rfl rfl rfl (by decide) rfl rfl | exact w_fieldAddr_elt tab rfl rfl rfl rfl (by decide) rfl rfl)
    apply ChainL.of (some 43) rfl rfl
    case h => (first | exact w_load tab rfl rfl rfl rfl rfl rfl rfl | exact w_load tab rfl rfl rfl rfl rfl (by assumption) rfl | exact w_load_elt tab rfl rfl rfl rfl rfl | exact w_loads tab rfl rfl rfl rfl rfl rfl rfl rfl | exact w_load_tab tab rfl rfl rfl rfl (.head _) (by kernel_rfl) | exact w_loads_elt tab rfl rfl rfl rfl rfl rfl)
    apply ChainL.of (some 44) rfl rfl
    case h => exact w_len tab rfl rfl rfl (.own rfl rfl rfl) (n := 1) (by kernel_rfl)
    apply ChainL.of (some 45) rfl rfl
    case h => exact step_move rfl
    exact .nil
  show Cwp _ _ _ _
  refine cwp_block ?_
  refine cwp_loopN 2 ?_
  refine loop_round ?_
  refine cwp_seq ?_
  apply one_region
  case hc =>
    apply ChainL.of (some 46) rfl rfl
    case h => (first | exact w_bin rfl rfl rfl (lss_t (by omega)) | exact w_bin rfl rfl rfl (lss_f (by omega)) | exact w_bin rfl rfl rfl rfl)
    exact .nil
  show Cwp _ _ _ _
  refine cwp_seq ?_
  refine cond_t (by first | rfl | kernel_rfl) ?_
  refine cwp_skip ?_
  show Cwp _ _ _ _
  refine cwp_seq ?_
  refine cwp_block ?_
  refine cwp_seq ?_
  apply one_region
  case hc =>
    apply ChainL.of (some 47) rfl rfl
    case h => exact step_move rfl
    apply ChainL.of (some 48) rfl rfl
    case h => (first | exact w_index_own tab rfl rfl rfl rfl rfl rfl rfl rfl (by omega) (by omega) rfl | exact w_index_lst tab rfl rfl rfl rfl rfl rfl rfl (by omega) (by assumption))
    apply ChainL.of (some 49) rfl rfl
    case h => (first | exact w_load tab rfl rfl rfl rfl rfl rfl rfl | exact w_load tab rfl rfl rfl rfl rfl (by assumption) rfl | exact w_load_elt tab rfl rfl rfl rfl rfl | exact w_loads tab rfl rfl rfl rfl rfl rfl rfl rfl | exact w_load_tab tab rfl rfl rfl rfl (.head _) (by kernel_rfl) | exact w_loads_elt tab rfl rfl rfl rfl rfl rfl)
    apply ChainL.of (some 4) rfl rfl
    case h => exact w_alloc tab rfl rfl 110 rfl
    apply ChainL.of (some 3) rfl rfl
    case h => exact step_assign rfl
    apply ChainL.of none rfl rfl
    case h => (first | exact w_store tab rfl rfl rfl rfl rfl rfl rfl rfl rfl (Nat.le_of_ble_eq_true rfl) rfl rfl | exact w_store tab rfl rfl rfl rfl rfl (by assumption) rfl rfl rfl (Nat.le_of_ble_eq_true rfl) rfl rfl)
    exact .nil
  show Cwp _ _ _ _
  apply one_region_draw [0, 0, 0, 4, 12, 28, 60, 124, 252, 0, 1020, 2047] rfl
  case hc =>
    apply ChainL.of (some 50) rfl rfl
    case h => exact step_move rfl
    apply ChainL.of (some 51) rfl rfl
    case h => (first | exact w_load tab rfl rfl rfl rfl rfl rfl rfl | exact w_load tab rfl rfl rfl rfl rfl (by assumption) rfl | exact w_load_elt tab rfl rfl rfl rfl rfl | exact w_loads tab rfl rfl rfl rfl rfl rfl rfl rfl | exact w_load_tab tab rfl rfl rfl rfl (.head _) (by kernel_rfl) | exact w_loads_elt tab rfl rfl rfl rfl rfl rfl)
    apply ChainL.of (some 52) rfl rfl
    case h => exact step_move rfl
    apply ChainL.of (some 53) rfl rfl
    case h => (first | exact step_nilCheck rfl rfl | exact step_nilCheck_elt rfl rfl)
    apply ChainL.of (some 54) rfl rfl
    case h => (first | exact w_fieldAddr tab rfl rfl rfl rfl (by decide) rfl rfl | exact w_fieldAddr_elt tab rfl rfl rfl rfl (by decide) rfl rfl)
    apply ChainL.of (some 55) rfl rfl
    case h => (first | exact w_load tab rfl rfl rfl rfl rfl rfl rfl | exact w_load tab rfl rfl rfl rfl rfl (by assumption) rfl | exact w_load_elt tab rfl rfl rfl rfl rfl | exact w_loads tab rfl rfl rfl rfl rfl rfl rfl rfl | exact w_load_tab tab rfl rfl rfl rfl (.head _) (by kernel_rfl) | exact w_loads_elt tab rfl rfl rfl rfl rfl rfl)
    apply ChainL.of (some 56) rfl rfl
    case h => (first | exact w_index_own tab rfl rfl rfl rfl rfl rfl rfl rfl (by omega) (by omega) rfl | exact w_index_lst tab rfl rfl rfl rfl rfl rfl rfl (by omega) (by assumption))
    apply ChainL.of (some 57) rfl rfl
    case h => (first | exact w_fieldAddr tab rfl rfl rfl rfl (by decide) rfl rfl | exact w_fieldAddr_elt tab rfl rfl rfl rfl (by decide) rfl rfl)
    apply ChainL.of (some 58) rfl rfl
    case h => (first | exact w_load tab rfl rfl rfl rfl rfl rfl rfl | exact w_load tab rfl rfl rfl rfl rfl (by assumption) rfl | exact w_load_elt tab rfl rfl rfl rfl rfl | exact w_loads tab rfl rfl rfl rfl rfl rfl rfl rfl | exact w_load_tab tab rfl rfl rfl rfl (.head _) (by kernel_rfl) | exact w_loads_elt tab rfl rfl rfl rfl rfl rfl)
    apply ChainL.of (some 59) rfl rfl
    case h => exact step_move rfl
    apply ChainL.of (some 60) rfl rfl
    case h => exact w_call f0 [] [5] [] Try.func28 rfl (by decide +kernel) rfl rfl .nil (by decide) (map1 (ints_ren _ _)) rfl rfl (all1 (ints_lt _ _)) rfl (all1 (ints_lt _ _)) rfl rfl rfl rfl (zip1 (os_ints _ _))
    apply ChainL.of (some 61) rfl rfl
    case h => exact w_call s0 [] [0, 1, 2, 3, 4, 5] [] Try.func21 rfl (by decide +kernel) rfl rfl .nil (by decide) (map6 rfl (strs_ren _ _) (bools_ren _ _) rfl rfl (ints_ren _ _)) rfl rfl (all6 rfl (strs_lt _ _) (bools_lt _ _) rfl rfl (ints_lt _ _)) rfl (all6 rfl (strs_lt _ _) (bools_lt _ _) rfl rfl (ints_lt _ _)) rfl rfl rfl rfl (zip6 rfl (os_strs _ _) (os_bools _ _) rfl rfl (os_ints _ _))
    exact .nil
  case hB => decide +kernel
  case hI => kernel_rfl
  show Cwp _ _ _ _
  apply one_region
  case hc =>
    apply ChainL.of (some 62) rfl rfl
    case h => (first | exact w_bin rfl rfl rfl (add_i64 rfl (by omega) (by omega)) | exact w_bin rfl rfl rfl rfl)
    apply ChainL.of (some 45) rfl rfl
    case h => exact step_move rfl
    exact .nil
  show LoopN _ _ _ _ _
  refine loop_round ?_
  refine cwp_seq ?_
  apply one_region
  case hc =>
    apply ChainL.of (some 46) rfl rfl
    case h => (first | exact w_bin rfl rfl rfl (lss_t (by omega)) | exact w_bin rfl rfl rfl (lss_f (by omega)) | exact w_bin rfl rfl rfl rfl)
    exact .nil
  show Cwp _ _ _ _
  refine cwp_seq ?_
  refine cond_f (by first | rfl | kernel_rfl) ?_
  refine cwp_exit ?_
  show Cwp _ _ _ _
  refine cwp_seq ?_
  apply one_region_draw [0, 0, 0, 0, 8, 24, 56, 120, 121, 377, 889, 2043, 4091, 8187, 16383, 32767, 65535] rfl
  case hc =>
    apply ChainL.of (some 63) rfl rfl
    case h => exact step_move rfl
    apply ChainL.of (some 64) rfl rfl
    case h => exact step_move rfl
    apply ChainL.of (some 65) rfl rfl
    case h => exact step_move rfl
    apply ChainL.of (some 66) rfl rfl
    case h => exact step_move rfl
    apply ChainL.of (some 67) rfl rfl
    case h => (first | exact step_nilCheck rfl rfl | exact step_nilCheck_elt rfl rfl)
    apply ChainL.of (some 68) rfl rfl
    case h => (first | exact w_fieldAddr tab rfl rfl rfl rfl (by decide) rfl rfl | exact w_fieldAddr_elt tab rfl rfl rfl rfl (by decide) rfl rfl)
    apply ChainL.of (some 69) rfl rfl
    case h => (first | exact w_load tab rfl rfl rfl rfl rfl rfl rfl | exact w_load tab rfl rfl rfl rfl rfl (by assumption) rfl | exact w_load_elt tab rfl rfl rfl rfl rfl | exact w_loads tab rfl rfl rfl rfl rfl rfl rfl rfl | exact w_load_tab tab rfl rfl rfl rfl (.head _) (by kernel_rfl) | exact w_loads_elt tab rfl rfl rfl rfl rfl rfl)
    apply ChainL.of (some 70) rfl rfl
    case h => exact w_cut_own_none (lo := some (.const (.int .i64 1))) (hi := none) tab rfl rfl rfl rfl rfl 1 ⟨.i64, rfl⟩ rfl (Nat.le_refl 1)
    apply ChainL.of (some 71) rfl rfl
    case h => (first | exact step_nilCheck rfl rfl | exact step_nilCheck_elt rfl rfl)
    apply ChainL.of (some 72) rfl rfl
    case h => (first | exact w_fieldAddr tab rfl rfl rfl rfl (by decide) rfl rfl | exact w_fieldAddr_elt tab rfl rfl rfl rfl (by decide) rfl rfl)
    apply ChainL.of none rfl rfl
    case h => (first | exact w_store tab rfl rfl rfl rfl rfl rfl rfl rfl rfl (Nat.le_of_ble_eq_true rfl) rfl rfl | exact w_store tab rfl rfl rfl rfl rfl (by assumption) rfl rfl rfl (Nat.le_of_ble_eq_true rfl) rfl rfl)
    apply ChainL.of (some 73) rfl rfl
    case h => (first | exact step_nilCheck rfl rfl | exact step_nilCheck_elt rfl rfl)
    apply ChainL.of (some 74) rfl rfl
    case h => (first | exact w_fieldAddr tab rfl rfl rfl rfl (by decide) rfl rfl | exact w_fieldAddr_elt tab rfl rfl rfl rfl (by decide) rfl rfl)
    apply ChainL.of none rfl rfl
    case h => (first | exact w_store tab rfl rfl rfl rfl rfl rfl rfl rfl rfl (Nat.le_of_ble_eq_true rfl) rfl rfl | exact w_store tab rfl rfl rfl rfl rfl (by assumption) rfl rfl rfl (Nat.le_of_ble_eq_true rfl) rfl rfl)
    apply ChainL.of (some 75) rfl rfl
    case h => (first | exact step_nilCheck rfl rfl | exact step_nilCheck_elt rfl rfl)
    apply ChainL.of (some 76) rfl rfl
    case h => (first | exact w_fieldAddr tab rfl rfl rfl rfl (by decide) rfl rfl | exact w_fieldAddr_elt tab rfl rfl rfl rfl (by decide) rfl rfl)
    apply ChainL.of none rfl rfl
    case h => (first | exact w_store tab rfl rfl rfl rfl rfl rfl rfl rfl rfl (Nat.le_of_ble_eq_true rfl) rfl rfl | exact w_store tab rfl rfl rfl rfl rfl (by assumption) rfl rfl rfl (Nat.le_of_ble_eq_true rfl) rfl rfl)
    exact .nil
  case hB => decide +kernel
  case hI => kernel_rfl
  show Cwp _ _ _ _
  refine cwp_seq ?_
  apply one_region
  case hc =>
    apply ChainL.of (some 77) rfl rfl
    case h => exact step_move rfl
    apply ChainL.of (some 78) rfl rfl
    case h => (first | exact step_nilCheck rfl rfl | exact step_nilCheck_elt rfl rfl)
    apply ChainL.of (some 79) rfl rfl
    case h => (first | exact w_fieldAddr tab rfl rfl rfl rfl (by decide) rfl rfl | exact w_fieldAddr_elt tab rfl rfl rfl rfl (by decide) rfl rfl)
    apply ChainL.of (some 80) rfl rfl
    case h => (first | exact w_load tab rfl rfl rfl rfl rfl rfl rfl | exact w_load tab rfl rfl rfl rfl rfl (by assumption) rfl | exact w_load_elt tab rfl rfl rfl rfl rfl | exact w_loads tab rfl rfl rfl rfl rfl rfl rfl rfl | exact w_load_tab tab rfl rfl rfl rfl (.head _) (by kernel_rfl) | exact w_loads_elt tab rfl rfl rfl rfl rfl rfl)
    apply ChainL.of (some 81) rfl rfl
    case h => (first | exact w_bin rfl rfl rfl (add_i64 rfl (by omega) (by omega)) | exact w_bin rfl rfl rfl rfl)
    apply ChainL.of (some 82) rfl rfl
    case h => (first | exact step_nilCheck rfl rfl | exact step_nilCheck_elt rfl rfl)
    apply ChainL.of (some 83) rfl rfl
    case h => (first | exact w_fieldAddr tab rfl rfl rfl rfl (by decide) rfl rfl | exact w_fieldAddr_elt tab rfl rfl rfl rfl (by decide) rfl rfl)
    apply ChainL.of none rfl rfl
    case h => (first | exact w_store tab rfl rfl rfl rfl rfl rfl rfl rfl rfl (Nat.le_of_ble_eq_true rfl) rfl rfl | exact w_store tab rfl rfl rfl rfl rfl (by assumption) rfl rfl rfl (Nat.le_of_ble_eq_true rfl) rfl rfl)
    exact .nil
  show Cwp _ _ _ _
  refine cwp_seq ?_
  apply one_region
  case hc =>
    apply ChainL.of (some 2) rfl rfl
    case h => exact step_assign rfl
    exact .nil
  show Cwp _ _ _ _
  refine cwp_ret ?_
  exact ⟨.inl rfl, resH_one rfl rfl, objs_ok rfl⟩
theorem actfail_6_2 (n a fails : Int) (h0 : 0 ≤ n) (h1 : a < n + 1) (h2 : 0 < a) (h3 : n ≤ 100) (h4 : 0 ≤ fails) (h5 : fails ≤ 100) (D : List ByteArray) (T : List Bool) (F : List Int) (hD : D.length = 9) (hT : T.length = 9) :
    HCall Try.prog 20 [dsk (.own 3 0 2) (.own 4 0 1) n n fails false, strs D, bools T, othO 2, cutO a (.own 5 0 F.length), ints F] [.ref 0 0 0]
    [.ob (dsk (.v (.slice none 0 0)) (.lst 2 []) (n + 1) (n + 1) (fails + 1) true), .ob (strs (itD F D 2)), .ob (bools (itT F T 2)), .ob (othO 2), .ob (cutO a (.own 5 0 F.length)), .ob (ints F)] (.v (.bool true)) := by
  have s0 := settle_6 F 0 (.own 3 0 2) (.own 4 0 1) (n + 1) (n + 1) fails false D T (othO 2) (cutO a (.own 5 0 F.length)) (ints F) hD hT
  have f0 := fate_any F 0
  have s1 := settle_6 F 1 (.own 3 0 2) (.own 4 0 1) (n + 1) (n + 1) fails false D T (othO 2) (cutO a (.own 5 0 F.length)) (ints F) hD hT
  have f1 := fate_any F 1
  refine HCall.of Try.func20 rfl (by decide +kernel) (Nat.le_of_ble_eq_true rfl) ?_
  refine cwp_seq ?_
  apply one_region
  case hc =>
    apply ChainL.of (some 2) rfl rfl
    case h => exact step_assign rfl
    exact .nil
  show Cwp _ _ _ _
  refine cwp_seq ?_
  apply one_region
  case hc =>
    apply ChainL.of (some 5) rfl rfl
    case h => exact step_move rfl
    apply ChainL.of (some 6) rfl rfl
    case h => (first | exact step_nilCheck rfl rfl | exact step_nilCheck_elt rfl rfl)
    apply ChainL.of (some 7) rfl rfl
    case h => (first | exact w_fieldAddr tab rfl rfl rfl rfl (by decide) rfl rfl | exact w_fieldAddr_elt tab rfl rfl rfl rfl (by decide) rfl rfl)
    apply ChainL.of (some 8) rfl rfl
    case h => (first | exact w_load tab rfl rfl rfl rfl rfl rfl rfl | exact w_load tab rfl rfl rfl rfl rfl (by assumption) rfl | exact w_load_elt tab rfl rfl rfl rfl rfl | exact w_loads tab rfl rfl rfl rfl rfl rfl rfl rfl | exact w_load_tab tab rfl rfl rfl rfl (.head _) (by kernel_rfl) | exact w_loads_elt tab rfl rfl rfl rfl rfl rfl)
    apply ChainL.of (some 9) rfl rfl
    case h => (first | exact w_bin rfl rfl rfl (add_i64 rfl (by omega) (by omega)) | exact w_bin rfl rfl rfl rfl)
    apply ChainL.of (some 10) rfl rfl
    case h => (first | exact step_nilCheck rfl rfl | exact step_nilCheck_elt rfl rfl)
    apply ChainL.of (some 11) rfl rfl
    case h => (first | exact w_fieldAddr tab rfl rfl rfl rfl (by decide) rfl rfl | exact w_fieldAddr_elt tab rfl rfl rfl rfl (by decide) rfl rfl)
    apply ChainL.of none rfl rfl
    case h => (first | exact w_store tab rfl rfl rfl rfl rfl rfl rfl rfl rfl (Nat.le_of_ble_eq_true rfl) rfl rfl | exact w_store tab rfl rfl rfl rfl rfl (by assumption) rfl rfl rfl (Nat.le_of_ble_eq_true rfl) rfl rfl)
    exact .nil
  show Cwp _ _ _ _
  refine cwp_seq ?_
  apply one_region
  case hc =>
    apply ChainL.of (some 12) rfl rfl
    case h => exact step_move rfl
    apply ChainL.of (some 13) rfl rfl
    case h => (first | exact step_nilCheck rfl rfl | exact step_nilCheck_elt rfl rfl)
    apply ChainL.of (some 14) rfl rfl
    case h => (first | exact w_fieldAddr tab rfl rfl rfl rfl (by decide) rfl rfl | exact w_fieldAddr_elt tab rfl rfl rfl rfl (by decide) rfl rfl)
    apply ChainL.of (some 15) rfl rfl
    case h => (first | exact w_load tab rfl rfl rfl rfl rfl rfl rfl | exact w_load tab rfl rfl rfl rfl rfl (by assumption) rfl | exact w_load_elt tab rfl rfl rfl rfl rfl | exact w_loads tab rfl rfl rfl rfl rfl rfl rfl rfl | exact w_load_tab tab rfl rfl rfl rfl (.head _) (by kernel_rfl) | exact w_loads_elt tab rfl rfl rfl rfl rfl rfl)
    apply ChainL.of (some 16) rfl rfl
    case h => (first | exact w_bin rfl rfl rfl (add_i64 rfl (by omega) (by omega)) | exact w_bin rfl rfl rfl rfl)
    apply ChainL.of (some 17) rfl rfl
    case h => (first | exact step_nilCheck rfl rfl | exact step_nilCheck_elt rfl rfl)
    apply ChainL.of (some 18) rfl rfl
    case h => (first | exact w_fieldAddr tab rfl rfl rfl rfl (by decide) rfl rfl | exact w_fieldAddr_elt tab rfl rfl rfl rfl (by decide) rfl rfl)
    apply ChainL.of none rfl rfl
    case h => (first | exact w_store tab rfl rfl rfl rfl rfl rfl rfl rfl rfl (Nat.le_of_ble_eq_true rfl) rfl rfl | exact w_store tab rfl rfl rfl rfl rfl (by assumption) rfl rfl rfl (Nat.le_of_ble_eq_true rfl) rfl rfl)
    exact .nil
  show Cwp _ _ _ _
  refine cwp_seq ?_
  refine cwp_seq ?_
  apply one_region_draw [0, 1, 3, 7, 15, 31, 63, 127, 255, 511, 1023, 127, 2175, 6271, 14463, 30847, 63615, 129151, 260223, 524287, 1048575] rfl
  case hc =>
    apply ChainL.of (some 19) rfl rfl
    case h => exact step_move rfl
    apply ChainL.of (some 20) rfl rfl
    case h => (first | exact step_nilCheck rfl rfl | exact step_nilCheck_elt rfl rfl)
    apply ChainL.of (some 21) rfl rfl
    case h => (first | exact w_fieldAddr tab rfl rfl rfl rfl (by decide) rfl rfl | exact w_fieldAddr_elt tab rfl rfl rfl rfl (by decide) rfl rfl)
    apply ChainL.of (some 22) rfl rfl
    case h => (first | exact w_load tab rfl rfl rfl rfl rfl rfl rfl | exact w_load tab rfl rfl rfl rfl rfl (by assumption) rfl | exact w_load_elt tab rfl rfl rfl rfl rfl | exact w_loads tab rfl rfl rfl rfl rfl rfl rfl rfl | exact w_load_tab tab rfl rfl rfl rfl (.head _) (by kernel_rfl) | exact w_loads_elt tab rfl rfl rfl rfl rfl rfl)
    apply ChainL.of (some 23) rfl rfl
    case h => exact w_len tab rfl rfl rfl (.own rfl rfl rfl) (n := 1) (by kernel_rfl)
    apply ChainL.of (some 24) rfl rfl
    case h => (first | exact w_bin rfl rfl rfl (eql_t (by omega)) | exact w_bin rfl rfl rfl (eql_f (by omega)) | exact w_bin rfl rfl rfl rfl)
    apply ChainL.of (some 25) rfl rfl
    case h => exact step_move rfl
    first
    | apply ChainL.off (some 26) 6 25 false rfl rfl rfl rfl
    | apply ChainL.on (some 26) 6 25 false rfl rfl rfl rfl
      case h => exact step_move rfl
    first
    | apply ChainL.off (some 27) 6 25 false rfl rfl rfl rfl
    | apply ChainL.on (some 27) 6 25 false rfl rfl rfl rfl
      case h => (first | exact step_nilCheck rfl rfl | exact step_nilCheck_elt rfl rfl)
    first
    | apply ChainL.off (some 28) 6 25 false rfl rfl rfl rfl
    | apply ChainL.on (some 28) 6 25 false rfl rfl rfl rfl
      case h => (first | exact w_fieldAddr tab rfl rfl rfl rfl (by decide) rfl rfl | exact w_fieldAddr_elt tab rfl rfl rfl rfl (by decide) rfl rfl)
    first
    | apply ChainL.off (some 29) 6 25 false rfl rfl rfl rfl
    | apply ChainL.on (some 29) 6 25 false rfl rfl rfl rfl
      case h => (first | exact w_load tab rfl rfl rfl rfl rfl rfl rfl | exact w_load tab rfl rfl rfl rfl rfl (by assumption) rfl | exact w_load_elt tab rfl rfl rfl rfl rfl | exact w_loads tab rfl rfl rfl rfl rfl rfl rfl rfl | exact w_load_tab tab rfl rfl rfl rfl (.head _) (by kernel_rfl) | exact w_loads_elt tab rfl rfl rfl rfl rfl rfl)
    first
    | apply ChainL.off (some 30) 6 25 false rfl rfl rfl rfl
    | apply ChainL.on (some 30) 6 25 false rfl rfl rfl rfl
      case h => exact step_move rfl
    first
    | apply ChainL.off (some 31) 6 25 false rfl rfl rfl rfl
    | apply ChainL.on (some 31) 6 25 false rfl rfl rfl rfl
      case h => (first | exact step_nilCheck rfl rfl | exact step_nilCheck_elt rfl rfl)
    first
    | apply ChainL.off (some 32) 6 25 false rfl rfl rfl rfl
    | apply ChainL.on (some 32) 6 25 false rfl rfl rfl rfl
      case h => (first | exact w_fieldAddr tab rfl rfl rfl rfl (by decide) rfl rfl | exact w_fieldAddr_elt tab rfl rfl rfl rfl (by decide) rfl rfl)
    first
    | apply ChainL.off (some 33) 6 25 false rfl rfl rfl rfl
    | apply ChainL.on (some 33) 6 25 false rfl rfl rfl rfl
      case h => (first | exact w_load tab rfl rfl rfl rfl rfl rfl rfl | exact w_load tab rfl rfl rfl rfl rfl (by assumption) rfl | exact w_load_elt tab rfl rfl rfl rfl rfl | exact w_loads tab rfl rfl rfl rfl rfl rfl rfl rfl | exact w_load_tab tab rfl rfl rfl rfl (.head _) (by kernel_rfl) | exact w_loads_elt tab rfl rfl rfl rfl rfl rfl)
    first
    | apply ChainL.off (some 34) 6 25 false rfl rfl rfl rfl
    | apply ChainL.on (some 34) 6 25 false rfl rfl rfl rfl
      case h => (first | exact w_index_own tab rfl rfl rfl rfl rfl rfl rfl rfl (by omega) (by omega) rfl | exact w_index_lst tab rfl rfl rfl rfl rfl rfl rfl (by omega) (by assumption))
    first
    | apply ChainL.off (some 35) 6 25 false rfl rfl rfl rfl
    | apply ChainL.on (some 35) 6 25 false rfl rfl rfl rfl
      case h => (first | exact w_fieldAddr tab rfl rfl rfl rfl (by decide) rfl rfl | exact w_fieldAddr_elt tab rfl rfl rfl rfl (by decide) rfl rfl)
    first
    | apply ChainL.off (some 36) 6 25 false rfl rfl rfl rfl
    | apply ChainL.on (some 36) 6 25 false rfl rfl rfl rfl
      case h => (first | exact w_load tab rfl rfl rfl rfl rfl rfl rfl | exact w_load tab rfl rfl rfl rfl rfl (by assumption) rfl | exact w_load_elt tab rfl rfl rfl rfl rfl | exact w_loads tab rfl rfl rfl rfl rfl rfl rfl rfl | exact w_load_tab tab rfl rfl rfl rfl (.head _) (by kernel_rfl) | exact w_loads_elt tab rfl rfl rfl rfl rfl rfl)
    first
    | apply ChainL.off (some 37) 6 25 false rfl rfl rfl rfl
    | apply ChainL.on (some 37) 6 25 false rfl rfl rfl rfl
      case h => (first | exact w_max rfl rfl rfl (if_pos (by omega)) | exact w_max rfl rfl rfl (if_neg (by omega)) | exact w_max rfl rfl rfl rfl)
    first
    | apply ChainL.off (some 38) 6 25 false rfl rfl rfl rfl
    | apply ChainL.on (some 38) 6 25 false rfl rfl rfl rfl
      case h => (first | exact w_bin rfl rfl rfl (leq_t (by omega)) | exact w_bin rfl rfl rfl (leq_f (by omega)) | exact w_bin rfl rfl rfl rfl)
    apply ChainL.of (some 39) rfl rfl
    case h => exact step_pick rfl rfl
    exact .nil
  case hB => decide +kernel
  case hI => kernel_rfl
  show Cwp _ _ _ _
  refine cond_f (by first | rfl | kernel_rfl) ?_
  refine cwp_skip ?_
  show Cwp _ _ _ _
  refine cwp_seq ?_
  refine cwp_seq ?_
  apply one_region
  case hc =>
    apply ChainL.of (some 40) rfl rfl
    case h => exact step_move rfl
    apply ChainL.of (some 41) rfl rfl
    case h => (first | exact step_nilCheck rfl rfl | exact step_nilCheck_elt rfl rfl)
    apply ChainL.of (some 42) rfl rfl
    case h => (first | exact w_fieldAddr tab rfl rfl rfl rfl (by decide) rfl rfl | exact w_fieldAddr_elt tab rfl rfl rfl rfl (by decide) rfl rfl)
    apply ChainL.of (some 43) rfl rfl
    case h => (first | exact w_load tab rfl rfl rfl rfl rfl rfl rfl | exact w_load tab rfl rfl rfl rfl rfl (by assumption) rfl | exact w_load_elt tab rfl rfl rfl rfl rfl | exact w_loads tab rfl rfl rfl rfl rfl rfl rfl rfl | exact w_load_tab tab rfl rfl rfl rfl (.head _) (by kernel_rfl) | exact w_loads_elt tab rfl rfl rfl rfl rfl rfl)
    apply ChainL.of (some 44) rfl rfl
    case h => exact w_len tab rfl rfl rfl (.own rfl rfl rfl) (n := 2) (by kernel_rfl)
    apply ChainL.of (some 45) rfl rfl
    case h => exact step_move rfl
    exact .nil
  show Cwp _ _ _ _
  refine cwp_block ?_
  refine cwp_loopN 3 ?_
  refine loop_round ?_
  refine cwp_seq ?_
  apply one_region
  case hc =>
    apply ChainL.of (some 46) rfl rfl
    case h => (first | exact w_bin rfl rfl rfl (lss_t (by omega)) | exact w_bin rfl rfl rfl (lss_f (by omega)) | exact w_bin rfl rfl rfl rfl)
    exact .nil
  show Cwp _ _ _ _
  refine cwp_seq ?_
  refine cond_t (by first | rfl | kernel_rfl) ?_
  refine cwp_skip ?_
  show Cwp _ _ _ _
  refine cwp_seq ?_
  refine cwp_block ?_
  refine cwp_seq ?_
  apply one_region
  case hc =>
    apply ChainL.of (some 47) rfl rfl
    case h => exact step_move rfl
    apply ChainL.of (some 48) rfl rfl
    case h => (first | exact w_index_own tab rfl rfl rfl rfl rfl rfl rfl rfl (by omega) (by omega) rfl | exact w_index_lst tab rfl rfl rfl rfl rfl rfl rfl (by omega) (by assumption))
    apply ChainL.of (some 49) rfl rfl
    case h => (first | exact w_load tab rfl rfl rfl rfl rfl rfl rfl | exact w_load tab rfl rfl rfl rfl rfl (by assumption) rfl | exact w_load_elt tab rfl rfl rfl rfl rfl | exact w_loads tab rfl rfl rfl rfl rfl rfl rfl rfl | exact w_load_tab tab rfl rfl rfl rfl (.head _) (by kernel_rfl) | exact w_loads_elt tab rfl rfl rfl rfl rfl rfl)
    apply ChainL.of (some 4) rfl rfl
    case h => exact w_alloc tab rfl rfl 111 rfl
    apply ChainL.of (some 3) rfl rfl
    case h => exact step_assign rfl
    apply ChainL.of none rfl rfl
    case h => (first | exact w_store tab rfl rfl rfl rfl rfl rfl rfl rfl rfl (Nat.le_of_ble_eq_true rfl) rfl rfl | exact w_store tab rfl rfl rfl rfl rfl (by assumption) rfl rfl rfl (Nat.le_of_ble_eq_true rfl) rfl rfl)
    exact .nil
  show Cwp _ _ _ _
  apply one_region_draw [0, 0, 0, 4, 12, 28, 60, 124, 252, 0, 1020, 2047] rfl
  case hc =>
    apply ChainL.of (some 50) rfl rfl
    case h => exact step_move rfl
    apply ChainL.of (some 51) rfl rfl
    case h => (first | exact w_load tab rfl rfl rfl rfl rfl rfl rfl | exact w_load tab rfl rfl rfl rfl rfl (by assumption) rfl | exact w_load_elt tab rfl rfl rfl rfl rfl | exact w_loads tab rfl rfl rfl rfl rfl rfl rfl rfl | exact w_load_tab tab rfl rfl rfl rfl (.head _) (by kernel_rfl) | exact w_loads_elt tab rfl rfl rfl rfl rfl rfl)
    apply ChainL.of (some 52) rfl rfl
    case h => exact step_move rfl
    apply ChainL.of (some 53) rfl rfl
    case h => (first | exact step_nilCheck rfl rfl | exact step_nilCheck_elt rfl rfl)
    apply ChainL.of (some 54) rfl rfl
    case h => (first | exact w_fieldAddr tab rfl rfl rfl rfl (by decide) rfl rfl | exact w_fieldAddr_elt tab rfl rfl rfl rfl (by decide) rfl rfl)
    apply ChainL.of (some 55) rfl rfl
    case h => (first | exact w_load tab rfl rfl rfl rfl rfl rfl rfl | exact w_load tab rfl rfl rfl rfl rfl (by assumption) rfl | exact w_load_elt tab rfl rfl rfl rfl rfl | exact w_loads tab rfl rfl rfl rfl rfl rfl rfl rfl | exact w_load_tab tab rfl rfl rfl rfl (.head _) (by kernel_rfl) | exact w_loads_elt tab rfl rfl rfl rfl rfl rfl)
    apply ChainL.of (some 56) rfl rfl
    case h => (first | exact w_index_own tab rfl rfl rfl rfl rfl rfl rfl rfl (by omega) (by omega) rfl | exact w_index_lst tab rfl rfl rfl rfl rfl rfl rfl (by omega) (by assumption))
    apply ChainL.of (some 57) rfl rfl
    case h => (first | exact w_fieldAddr tab rfl rfl rfl rfl (by decide) rfl rfl | exact w_fieldAddr_elt tab rfl rfl rfl rfl (by decide) rfl rfl)
    apply ChainL.of (some 58) rfl rfl
    case h => (first | exact w_load tab rfl rfl rfl rfl rfl rfl rfl | exact w_load tab rfl rfl rfl rfl rfl (by assumption) rfl | exact w_load_elt tab rfl rfl rfl rfl rfl | exact w_loads tab rfl rfl rfl rfl rfl rfl rfl rfl | exact w_load_tab tab rfl rfl rfl rfl (.head _) (by kernel_rfl) | exact w_loads_elt tab rfl rfl rfl rfl rfl rfl)
    apply ChainL.of (some 59) rfl rfl
    case h => exact step_move rfl
    apply ChainL.of (some 60) rfl rfl
    case h => (first | exact w_call f0 [] [5] [] Try.func28 rfl (by decide +kernel) rfl rfl .nil (by decide) (map1 (ints_ren _ _)) rfl rfl (all1 (ints_lt _ _)) rfl (all1 (ints_lt _ _)) rfl rfl rfl rfl (zip1 (os_ints _ _)) | exact w_call f1 [] [5] [] Try.func28 rfl (by decide +kernel) rfl rfl .nil (by decide) (map1 (ints_ren _ _)) rfl rfl (all1 (ints_lt _ _)) rfl (all1 (ints_lt _ _)) rfl rfl rfl rfl (zip1 (os_ints _ _)))
    apply ChainL.of (some 61) rfl rfl
    case h => (first | exact w_call s0 [] [0, 1, 2, 3, 4, 5] [] Try.func21 rfl (by decide +kernel) rfl rfl .nil (by decide) (map6 rfl (strs_ren _ _) (bools_ren _ _) rfl rfl (ints_ren _ _)) rfl rfl (all6 rfl (strs_lt _ _) (bools_lt _ _) rfl rfl (ints_lt _ _)) rfl (all6 rfl (strs_lt _ _) (bools_lt _ _) rfl rfl (ints_lt _ _)) rfl rfl rfl rfl (zip6 rfl (os_strs _ _) (os_bools _ _) rfl rfl (os_ints _ _)) | exact w_call s1 [] [0, 1, 2, 3, 4, 5] [] Try.func21 rfl (by decide +kernel) rfl rfl .nil (by decide) (map6 rfl (strs_ren _ _) (bools_ren _ _) rfl rfl (ints_ren _ _)) rfl rfl (all6 rfl (strs_lt _ _) (bools_lt _ _) rfl rfl (ints_lt _ _)) rfl (all6 rfl (strs_lt _ _) (bools_lt _ _) rfl rfl (ints_lt _ _)) rfl rfl rfl rfl (zip6 rfl (os_strs _ _) (os_bools _ _) rfl rfl (os_ints _ _)))
    exact .nil
  case hB => decide +kernel
  case hI => kernel_rfl
  show Cwp _ _ _ _
  apply one_region
  case hc =>
    apply ChainL.of (some 62) rfl rfl
    case h => (first | exact w_bin rfl rfl rfl (add_i64 rfl (by omega) (by omega)) | exact w_bin rfl rfl rfl rfl)
    apply ChainL.of (some 45) rfl rfl
    case h => exact step_move rfl
    exact .nil
  show LoopN _ _ _ _ _
  refine loop_round ?_
  refine cwp_seq ?_
  apply one_region
  case hc =>
    apply ChainL.of (some 46) rfl rfl
    case h => (first | exact w_bin rfl rfl rfl (lss_t (by omega)) | exact w_bin rfl rfl rfl (lss_f (by omega)) | exact w_bin rfl rfl rfl rfl)
    exact .nil
  show Cwp _ _ _ _
  refine cwp_seq ?_
  refine cond_t (by first | rfl | kernel_rfl) ?_
  refine cwp_skip ?_
  show Cwp _ _ _ _
  refine cwp_seq ?_
  refine cwp_block ?_
  refine cwp_seq ?_
  apply one_region
  case hc =>
    apply ChainL.of (some 47) rfl rfl
    case h => exact step_move rfl
    apply ChainL.of (some 48) rfl rfl
    case h => (first | exact w_index_own tab rfl rfl rfl rfl rfl rfl rfl rfl (by omega) (by omega) rfl | exact w_index_lst tab rfl rfl rfl rfl rfl rfl rfl (by omega) (by assumption))
    apply ChainL.of (some 49) rfl rfl
    case h => (first | exact w_load tab rfl rfl rfl rfl rfl rfl rfl | exact w_load tab rfl rfl rfl rfl rfl (by assumption) rfl | exact w_load_elt tab rfl rfl rfl rfl rfl | exact w_loads tab rfl rfl rfl rfl rfl rfl rfl rfl | exact w_load_tab tab rfl rfl rfl rfl (.head _) (by kernel_rfl) | exact w_loads_elt tab rfl rfl rfl rfl rfl rfl)
    apply ChainL.of (some 4) rfl rfl
    case h => exact w_alloc tab rfl rfl 112 rfl
    apply ChainL.of (some 3) rfl rfl
    case h => exact step_assign rfl
    apply ChainL.of none rfl rfl
    case h => (first | exact w_store tab rfl rfl rfl rfl rfl rfl rfl rfl rfl (Nat.le_of_ble_eq_true rfl) rfl rfl | exact w_store tab rfl rfl rfl rfl rfl (by assumption) rfl rfl rfl (Nat.le_of_ble_eq_true rfl) rfl rfl)
    exact .nil
  show Cwp _ _ _ _
  apply one_region_draw [0, 0, 0, 4, 12, 28, 60, 124, 252, 0, 1020, 2047] rfl
  case hc =>
    apply ChainL.of (some 50) rfl rfl
    case h => exact step_move rfl
    apply ChainL.of (some 51) rfl rfl
    case h => (first | exact w_load tab rfl rfl rfl rfl rfl rfl rfl | exact w_load tab rfl rfl rfl rfl rfl (by assumption) rfl | exact w_load_elt tab rfl rfl rfl rfl rfl | exact w_loads tab rfl rfl rfl rfl rfl rfl rfl rfl | exact w_load_tab tab rfl rfl rfl rfl (.head _) (by kernel_rfl) | exact w_loads_elt tab rfl rfl rfl rfl rfl rfl)
    apply ChainL.of (some 52) rfl rfl
    case h => exact step_move rfl
    apply ChainL.of (some 53) rfl rfl
    case h => (first | exact step_nilCheck rfl rfl | exact step_nilCheck_elt rfl rfl)
    apply ChainL.of (some 54) rfl rfl
    case h => (first | exact w_fieldAddr tab rfl rfl rfl rfl (by decide) rfl rfl | exact w_fieldAddr_elt tab rfl rfl rfl rfl (by decide) rfl rfl)
    apply ChainL.of (some 55) rfl rfl
    case h => (first | exact w_load tab rfl rfl rfl rfl rfl rfl rfl | exact w_load tab rfl rfl rfl rfl rfl (by assumption) rfl | exact w_load_elt tab rfl rfl rfl rfl rfl | exact w_loads tab rfl rfl rfl rfl rfl rfl rfl rfl | exact w_load_tab tab rfl rfl rfl rfl (.head _) (by kernel_rfl) | exact w_loads_elt tab rfl rfl rfl rfl rfl rfl)
    apply ChainL.of (some 56) rfl rfl
    case h => (first | exact w_index_own tab rfl rfl rfl rfl rfl rfl rfl rfl (by omega) (by omega) rfl | exact w_index_lst tab rfl rfl rfl rfl rfl rfl rfl (by omega) (by assumption))
    apply ChainL.of (some 57) rfl rfl
    case h => (first | exact w_fieldAddr tab rfl rfl rfl rfl (by decide) rfl rfl | exact w_fieldAddr_elt tab rfl rfl rfl rfl (by decide) rfl rfl)
    apply ChainL.of (some 58) rfl rfl
    case h => (first | exact w_load tab rfl rfl rfl rfl rfl rfl rfl | exact w_load tab rfl rfl rfl rfl rfl (by assumption) rfl | exact w_load_elt tab rfl rfl rfl rfl rfl | exact w_loads tab rfl rfl rfl rfl rfl rfl rfl rfl | exact w_load_tab tab rfl rfl rfl rfl (.head _) (by kernel_rfl) | exact w_loads_elt tab rfl rfl rfl rfl rfl rfl)
    apply ChainL.of (some 59) rfl rfl
    case h => exact step_move rfl
    apply ChainL.of (some 60) rfl rfl
    case h => (first | exact w_call f0 [] [5] [] Try.func28 rfl (by decide +kernel) rfl rfl .nil (by decide) (map1 (ints_ren _ _)) rfl rfl (all1 (ints_lt _ _)) rfl (all1 (ints_lt _ _)) rfl rfl rfl rfl (zip1 (os_ints _ _)) | exact w_call f1 [] [5] [] Try.func28 rfl (by decide +kernel) rfl rfl .nil (by decide) (map1 (ints_ren _ _)) rfl rfl (all1 (ints_lt _ _)) rfl (all1 (ints_lt _ _)) rfl rfl rfl rfl (zip1 (os_ints _ _)))
    apply ChainL.of (some 61) rfl rfl
    case h => (first | exact w_call s0 [] [0, 1, 2, 3, 4, 5] [] Try.func21 rfl (by decide +kernel) rfl rfl .nil (by decide) (map6 rfl (strs_ren _ _) (bools_ren _ _) rfl rfl (ints_ren _ _)) rfl rfl (all6 rfl (strs_lt _ _) (bools_lt _ _) rfl rfl (ints_lt _ _)) rfl (all6 rfl (strs_lt _ _) (bools_lt _ _) rfl rfl (ints_lt _ _)) rfl rfl rfl rfl (zip6 rfl (os_strs _ _) (os_bools _ _) rfl rfl (os_ints _ _)) | exact w_call s1 [] [0, 1, 2, 3, 4, 5] [] Try.func21 rfl (by decide +kernel) rfl rfl .nil (by decide) (map6 rfl (strs_ren _ _) (bools_ren _ _) rfl rfl (ints_ren _ _)) rfl rfl (all6 rfl (strs_lt _ _) (bools_lt _ _) rfl rfl (ints_lt _ _)) rfl (all6 rfl (strs_lt _ _) (bools_lt _ _) rfl rfl (ints_lt _ _)) rfl rfl rfl rfl (zip6 rfl (os_strs _ _) (os_bools _ _) rfl rfl (os_ints _ _)))
    exact .nil
  case hB => decide +kernel
  case hI => kernel_rfl
  show Cwp _ _ _ _
  apply one_region
  case hc =>
    apply ChainL.of (some 62) rfl rfl
    case h => (first | exact w_bin rfl rfl rfl (add_i64 rfl (by omega) (by omega)) | exact w_bin rfl rfl rfl rfl)
    apply ChainL.of (some 45) rfl rfl
    case h => exact step_move rfl
    exact .nil
  show LoopN _ _ _ _ _
  refine loop_round ?_
  refine cwp_seq ?_
  apply one_region
  case hc =>
    apply ChainL.of (some 46) rfl rfl
    case h => (first | exact w_bin rfl rfl rfl (lss_t (by omega)) | exact w_bin rfl rfl rfl (lss_f (by omega)) | exact w_bin rfl rfl rfl rfl)
    exact .nil
  show Cwp _ _ _ _
  refine cwp_seq ?_
  refine cond_f (by first | rfl | kernel_rfl) ?_
  refine cwp_exit ?_
  show Cwp _ _ _ _
  refine cwp_seq ?_
  apply one_region_draw [0, 0, 0, 0, 8, 24, 56, 120, 121, 377, 889, 2043, 4091, 8187, 16383, 32767, 65535] rfl
  case hc =>
    apply ChainL.of (some 63) rfl rfl
    case h => exact step_move rfl
    apply ChainL.of (some 64) rfl rfl
    case h => exact step_move rfl
    apply ChainL.of (some 65) rfl rfl
    case h => exact step_move rfl
    apply ChainL.of (some 66) rfl rfl
    case h => exact step_move rfl
    apply ChainL.of (some 67) rfl rfl
    case h => (first | exact step_nilCheck rfl rfl | exact step_nilCheck_elt rfl rfl)
    apply ChainL.of (some 68) rfl rfl
    case h => (first | exact w_fieldAddr tab rfl rfl rfl rfl (by decide) rfl rfl | exact w_fieldAddr_elt tab rfl rfl rfl rfl (by decide) rfl rfl)
    apply ChainL.of (some 69) rfl rfl
    case h => (first | exact w_load tab rfl rfl rfl rfl rfl rfl rfl | exact w_load tab rfl rfl rfl rfl rfl (by assumption) rfl | exact w_load_elt tab rfl rfl rfl rfl rfl | exact w_loads tab rfl rfl rfl rfl rfl rfl rfl rfl | exact w_load_tab tab rfl rfl rfl rfl (.head _) (by kernel_rfl) | exact w_loads_elt tab rfl rfl rfl rfl rfl rfl)
    apply ChainL.of (some 70) rfl rfl
    case h => exact w_cut_own_none (lo := some (.const (.int .i64 1))) (hi := none) tab rfl rfl rfl rfl rfl 1 ⟨.i64, rfl⟩ rfl (Nat.le_refl 1)
    apply ChainL.of (some 71) rfl rfl
    case h => (first | exact step_nilCheck rfl rfl | exact step_nilCheck_elt rfl rfl)
    apply ChainL.of (some 72) rfl rfl
    case h => (first | exact w_fieldAddr tab rfl rfl rfl rfl (by decide) rfl rfl | exact w_fieldAddr_elt tab rfl rfl rfl rfl (by decide) rfl rfl)
    apply ChainL.of none rfl rfl
    case h => (first | exact w_store tab rfl rfl rfl rfl rfl rfl rfl rfl rfl (Nat.le_of_ble_eq_true rfl) rfl rfl | exact w_store tab rfl rfl rfl rfl rfl (by assumption) rfl rfl rfl (Nat.le_of_ble_eq_true rfl) rfl rfl)
    apply ChainL.of (some 73) rfl rfl
    case h => (first | exact step_nilCheck rfl rfl | exact step_nilCheck_elt rfl rfl)
    apply ChainL.of (some 74) rfl rfl
    case h => (first | exact w_fieldAddr tab rfl rfl rfl rfl (by decide) rfl rfl | exact w_fieldAddr_elt tab rfl rfl rfl rfl (by decide) rfl rfl)
    apply ChainL.of none rfl rfl
    case h => (first | exact w_store tab rfl rfl rfl rfl rfl rfl rfl rfl rfl (Nat.le_of_ble_eq_true rfl) rfl rfl | exact w_store tab rfl rfl rfl rfl rfl (by assumption) rfl rfl rfl (Nat.le_of_ble_eq_true rfl) rfl rfl)
    apply ChainL.of (some 75) rfl rfl
    case h => (first | exact step_nilCheck rfl rfl | exact step_nilCheck_elt rfl rfl)
    apply ChainL.of (some 76) rfl rfl
    case h => (first | exact w_fieldAddr tab rfl rfl rfl rfl (by decide) rfl rfl | exact w_fieldAddr_elt tab rfl rfl rfl rfl (by decide) rfl rfl)
    apply ChainL.of none rfl rfl
    case h => (first | exact w_store tab rfl rfl rfl rfl rfl rfl rfl rfl rfl (Nat.le_of_ble_eq_true rfl) rfl rfl | exact w_store tab rfl rfl rfl rfl rfl (by assumption) rfl rfl rfl (Nat.le_of_ble_eq_true rfl) rfl rfl)
    exact .nil
  case hB => decide +kernel
  case hI => kernel_rfl
  show Cwp _ _ _ _
  refine cwp_seq ?_
  apply one_region
  case hc =>
    apply ChainL.of (some 77) rfl rfl
    case h => exact step_move rfl
    apply ChainL.of (some 78) rfl rfl
    case h => (first | exact step_nilCheck rfl rfl | exact step_nilCheck_elt rfl rfl)
    apply ChainL.of (some 79) rfl rfl
    case h => (first | exact w_fieldAddr tab rfl rfl rfl rfl (by decide) rfl rfl | exact w_fieldAddr_elt tab rfl rfl rfl rfl (by decide) rfl rfl)
    apply ChainL.of (some 80) rfl rfl
    case h => (first | exact w_load tab rfl rfl rfl rfl rfl rfl rfl | exact w_load tab rfl rfl rfl rfl rfl (by assumption) rfl | exact w_load_elt tab rfl rfl rfl rfl rfl | exact w_loads tab rfl rfl rfl rfl rfl rfl rfl rfl | exact w_load_tab tab rfl rfl rfl rfl (.head _) (by kernel_rfl) | exact w_loads_elt tab rfl rfl rfl rfl rfl rfl)
    apply ChainL.of (some 81) rfl rfl
    case h => (first | exact w_bin rfl rfl rfl (add_i64 rfl (by omega) (by omega)) | exact w_bin rfl rfl rfl rfl)
    apply ChainL.of (some 82) rfl rfl
    case h => (first | exact step_nilCheck rfl rfl | exact step_nilCheck_elt rfl rfl)
    apply ChainL.of (some 83) rfl rfl
    case h => (first | exact w_fieldAddr tab rfl rfl rfl rfl (by decide) rfl rfl | exact w_fieldAddr_elt tab rfl rfl rfl rfl (by decide) rfl rfl)
    apply ChainL.of none rfl rfl
    case h => (first | exact w_store tab rfl rfl rfl rfl rfl rfl rfl rfl rfl (Nat.le_of_ble_eq_true rfl) rfl rfl | exact w_store tab rfl rfl rfl rfl rfl (by assumption) rfl rfl rfl (Nat.le_of_ble_eq_true rfl) rfl rfl)
    exact .nil
  show Cwp _ _ _ _
  refine cwp_seq ?_
  apply one_region
  case hc =>
    apply ChainL.of (some 2) rfl rfl
    case h => exact step_assign rfl
    exact .nil
  show Cwp _ _ _ _
  refine cwp_ret ?_
  exact ⟨.inl rfl, resH_one rfl rfl, objs_ok rfl⟩
theorem actfail_6_3 (n a fails : Int) (h0 : 0 ≤ n) (h1 : a < n + 1) (h2 : 0 < a) (h3 : n ≤ 100) (h4 : 0 ≤ fails) (h5 : fails ≤ 100) (D : List ByteArray) (T : List Bool) (F : List Int) (hD : D.length = 9) (hT : T.length = 9) :
    HCall Try.prog 20 [dsk (.own 3 0 3) (.own 4 0 1) n n fails false, strs D, bools T, othO 3, cutO a (.own 5 0 F.length), ints F] [.ref 0 0 0]
    [.ob (dsk (.v (.slice none 0 0)) (.lst 2 []) (n + 1) (n + 1) (fails + 1) true), .ob (strs (itD F D 3)), .ob (bools (itT F T 3)), .ob (othO 3), .ob (cutO a (.own 5 0 F.length)), .ob (ints F)] (.v (.bool true)) := by
  have s0 := settle_6 F 0 (.own 3 0 3) (.own 4 0 1) (n + 1) (n + 1) fails false D T (othO 3) (cutO a (.own 5 0 F.length)) (ints F) hD hT
  have f0 := fate_any F 0
  have s1 := settle_6 F 1 (.own 3 0 3) (.own 4 0 1) (n + 1) (n + 1) fails false D T (othO 3) (cutO a (.own 5 0 F.length)) (ints F) hD hT
  have f1 := fate_any F 1
  have s2 := settle_6 F 2 (.own 3 0 3) (.own 4 0 1) (n + 1) (n + 1) fails false D T (othO 3) (cutO a (.own 5 0 F.length)) (ints F) hD hT
  have f2 := fate_any F 2
  refine HCall.of Try.func20 rfl (by decide +kernel) (Nat.le_of_ble_eq_true rfl) ?_
  refine cwp_seq ?_
  apply one_region
  case hc =>
    apply ChainL.of (some 2) rfl rfl
    case h => exact step_assign rfl
    exact .nil
  show Cwp _ _ _ _
  refine cwp_seq ?_
  apply one_region
  case hc =>
    apply ChainL.of (some 5) rfl rfl
    case h => exact step_move rfl
    apply ChainL.of (some 6) rfl rfl
    case h => (first | exact step_nilCheck rfl rfl | exact step_nilCheck_elt rfl rfl)
    apply ChainL.of (some 7) rfl rfl
    case h => (first | exact w_fieldAddr tab rfl rfl rfl rfl (by decide) rfl rfl | exact w_fieldAddr_elt tab rfl rfl rfl rfl (by decide) rfl rfl)
    apply ChainL.of (some 8) rfl rfl
    case h => (first | exact w_load tab rfl rfl rfl rfl rfl rfl rfl | exact w_load tab rfl rfl rfl rfl rfl (by assumption) rfl | exact w_load_elt tab rfl rfl rfl rfl rfl | exact w_loads tab rfl rfl rfl rfl rfl rfl rfl rfl | exact w_load_tab tab rfl rfl rfl rfl (.head _) (by kernel_rfl) | exact w_loads_elt tab rfl rfl rfl rfl rfl rfl)
    apply ChainL.of (some 9) rfl rfl
    case h => (first | exact w_bin rfl rfl rfl (add_i64 rfl (by omega) (by omega)) | exact w_bin rfl rfl rfl rfl)
    apply ChainL.of (some 10) rfl rfl
    case h => (first | exact step_nilCheck rfl rfl | exact step_nilCheck_elt rfl rfl)
    apply ChainL.of (some 11) rfl rfl
    case h => (first | exact w_fieldAddr tab rfl rfl rfl rfl (by decide) rfl rfl | exact w_fieldAddr_elt tab rfl rfl rfl rfl (by decide) rfl rfl)
    apply ChainL.of none rfl rfl
    case h => (first | exact w_store tab rfl rfl rfl rfl rfl rfl rfl rfl rfl (Nat.le_of_ble_eq_true rfl) rfl rfl | exact w_store tab rfl rfl rfl rfl rfl (by assumption) rfl rfl rfl (Nat.le_of_ble_eq_true rfl) rfl rfl)
    exact .nil
  show Cwp _ _ _ _
  refine cwp_seq ?_
  apply one_region
  case hc =>
    apply ChainL.of (some 12) rfl rfl
    case h => exact step_move rfl
    apply ChainL.of (some 13) rfl rfl
    case h => (first | exact step_nilCheck rfl rfl | exact step_nilCheck_elt rfl rfl)
    apply ChainL.of (some 14) rfl rfl
    case h => (first | exact w_fieldAddr tab rfl rfl rfl rfl (by decide) rfl rfl | exact w_fieldAddr_elt tab rfl rfl rfl rfl (by decide) rfl rfl)
    apply ChainL.of (some 15) rfl rfl
    case h => (first | exact w_load tab rfl rfl rfl rfl rfl rfl rfl | exact w_load tab rfl rfl rfl rfl rfl (by assumption) rfl | exact w_load_elt tab rfl rfl rfl rfl rfl | exact w_loads tab rfl rfl rfl rfl rfl rfl rfl rfl | exact w_load_tab tab rfl rfl rfl rfl (.head _) (by kernel_rfl) | exact w_loads_elt tab rfl rfl rfl rfl rfl rfl)
    apply ChainL.of (some 16) rfl rfl
    case h => (first | exact w_bin rfl rfl rfl (add_i64 rfl (by omega) (by omega)) | exact w_bin rfl rfl rfl rfl)
    apply ChainL.of (some 17) rfl rfl
    case h => (first | exact step_nilCheck rfl rfl | exact step_nilCheck_elt rfl rfl)
    apply ChainL.of (some 18) rfl rfl
    case h => (first | exact w_fieldAddr tab rfl rfl rfl rfl (by decide) rfl rfl | exact w_fieldAddr_elt tab rfl rfl rfl rfl (by decide) rfl rfl)
    apply ChainL.of none rfl rfl
    case h => (first | exact w_store tab rfl rfl rfl rfl rfl rfl rfl rfl rfl (Nat.le_of_ble_eq_true rfl) rfl rfl | exact w_store tab rfl rfl rfl rfl rfl (by assumption) rfl rfl rfl (Nat.le_of_ble_eq_true rfl) rfl rfl)
    exact .nil
  show Cwp _ _ _ _
  refine cwp_seq ?_
  refine cwp_seq ?_
  apply one_region_draw [0, 1, 3, 7, 15, 31, 63, 127, 255, 511, 1023, 127, 2175, 6271, 14463, 30847, 63615, 129151, 260223, 524287, 1048575] rfl
  case hc =>
    apply ChainL.of (some 19) rfl rfl
    case h => exact step_move rfl
    apply ChainL.of (some 20) rfl rfl
    case h => (first | exact step_nilCheck rfl rfl | exact step_nilCheck_elt rfl rfl)
    apply ChainL.of (some 21) rfl rfl
    case h => (first | exact w_fieldAddr tab rfl rfl rfl rfl (by decide) rfl rfl | exact w_fieldAddr_elt tab rfl rfl rfl rfl (by decide) rfl rfl)
    apply ChainL.of (some 22) rfl rfl
    case h => (first | exact w_load tab rfl rfl rfl rfl rfl rfl rfl | exact w_load tab rfl rfl rfl rfl rfl (by assumption) rfl | exact w_load_elt tab rfl rfl rfl rfl rfl | exact w_loads tab rfl rfl rfl rfl rfl rfl rfl rfl | exact w_load_tab tab rfl rfl rfl rfl (.head _) (by kernel_rfl) | exact w_loads_elt tab rfl rfl rfl rfl rfl rfl)
    apply ChainL.of (some 23) rfl rfl
    case h => exact w_len tab rfl rfl rfl (.own rfl rfl rfl) (n := 1) (by kernel_rfl)
    apply ChainL.of (some 24) rfl rfl
    case h => (first | exact w_bin rfl rfl rfl (eql_t (by omega)) | exact w_bin rfl rfl rfl (eql_f (by omega)) | exact w_bin rfl rfl rfl rfl)
    apply ChainL.of (some 25) rfl rfl
    case h => exact step_move rfl
    first
    | apply ChainL.off (some 26) 6 25 false rfl rfl rfl rfl
    | apply ChainL.on (some 26) 6 25 false rfl rfl rfl rfl
      case h => exact step_move rfl
    first
    | apply ChainL.off (some 27) 6 25 false rfl rfl rfl rfl
    | apply ChainL.on (some 27) 6 25 false rfl rfl rfl rfl
      case h => (first | exact step_nilCheck rfl rfl | exact step_nilCheck_elt rfl rfl)
    first
    | apply ChainL.off (some 28) 6 25 false rfl rfl rfl rfl
    | apply ChainL.on (some 28) 6 25 false rfl rfl rfl rfl
      case h => (first | exact w_fieldAddr tab rfl rfl rfl rfl (by decide) rfl rfl | exact w_fieldAddr_elt tab rfl rfl rfl rfl (by decide) rfl rfl)
    first
    | apply ChainL.off (some 29) 6 25 false rfl rfl rfl rfl
    | apply ChainL.on (some 29) 6 25 false rfl rfl rfl rfl
      case h => (first | exact w_load tab rfl rfl rfl rfl rfl rfl rfl | exact w_load tab rfl rfl rfl rfl rfl (by assumption) rfl | exact w_load_elt tab rfl rfl rfl rfl rfl | exact w_loads tab rfl rfl rfl rfl rfl rfl rfl rfl | exact w_load_tab tab rfl rfl rfl rfl (.head _) (by kernel_rfl) | exact w_loads_elt tab rfl rfl rfl rfl rfl rfl)
    first
    | apply ChainL.off (some 30) 6 25 false rfl rfl rfl rfl
    | apply ChainL.on (some 30) 6 25 false rfl rfl rfl rfl
      case h => exact step_move rfl
    first
    | apply ChainL.off (some 31) 6 25 false rfl rfl rfl rfl
    | apply ChainL.on (some 31) 6 25 false rfl rfl rfl rfl
      case h => (first | exact step_nilCheck rfl rfl | exact step_nilCheck_elt rfl rfl)
    first
    | apply ChainL.off (some 32) 6 25 false rfl rfl rfl rfl
    | apply ChainL.on (some 32) 6 25 false rfl rfl rfl rfl
      case h => (first | exact w_fieldAddr tab rfl rfl rfl rfl (by decide) rfl rfl | exact w_fieldAddr_elt tab rfl rfl rfl rfl (by decide) rfl rfl)
    first
    | apply ChainL.off (some 33) 6 25 false rfl rfl rfl rfl
    | apply ChainL.on (some 33) 6 25 false rfl rfl rfl rfl
      case h => (first | exact w_load tab rfl rfl rfl rfl rfl rfl rfl | exact w_load tab rfl rfl rfl rfl rfl (by assumption) rfl | exact w_load_elt tab rfl rfl rfl rfl rfl | exact w_loads tab rfl rfl rfl rfl rfl rfl rfl rfl | exact w_load_tab tab rfl rfl rfl rfl (.head _) (by kernel_rfl) | exact w_loads_elt tab rfl rfl rfl rfl rfl rfl)
    first
    | apply ChainL.off (some 34) 6 25 false rfl rfl rfl rfl
    | apply ChainL.on (some 34) 6 25 false rfl rfl rfl rfl
      case h => (first | exact w_index_own tab rfl rfl rfl rfl rfl rfl rfl rfl (by omega) (by omega) rfl | exact w_index_lst tab rfl rfl rfl rfl rfl rfl rfl (by omega) (by assumption))
    first
    | apply ChainL.off (some 35) 6 25 false rfl rfl rfl rfl
    | apply ChainL.on (some 35) 6 25 false rfl rfl rfl rfl
      case h => (first | exact w_fieldAddr tab rfl rfl rfl rfl (by decide) rfl rfl | exact w_fieldAddr_elt tab rfl rfl rfl rfl (by decide) rfl rfl)
    first
    | apply ChainL.off (some 36) 6 25 false rfl rfl rfl rfl
    | apply ChainL.on (some 36) 6 25 false rfl rfl rfl rfl
      case h => (first | exact w_load tab rfl rfl rfl rfl rfl rfl rfl | exact w_load tab rfl rfl rfl rfl rfl (by assumption) rfl | exact w_load_elt tab rfl rfl rfl rfl rfl | exact w_loads tab rfl rfl rfl rfl rfl rfl rfl rfl | exact w_load_tab tab rfl rfl rfl rfl (.head _) (by kernel_rfl) | exact w_loads_elt tab rfl rfl rfl rfl rfl rfl)
    first
    | apply ChainL.off (some 37) 6 25 false rfl rfl rfl rfl
    | apply ChainL.on (some 37) 6 25 false rfl rfl rfl rfl
      case h => (first | exact w_max rfl rfl rfl (if_pos (by omega)) | exact w_max rfl rfl rfl (if_neg (by omega)) | exact w_max rfl rfl rfl rfl)
    first
    | apply ChainL.off (some 38) 6 25 false rfl rfl rfl rfl
    | apply ChainL.on (some 38) 6 25 false rfl rfl rfl rfl
      case h => (first | exact w_bin rfl rfl rfl (leq_t (by omega)) | exact w_bin rfl rfl rfl (leq_f (by omega)) | exact w_bin rfl rfl rfl rfl)
    apply ChainL.of (some 39) rfl rfl
    case h => exact step_pick rfl rfl
    exact .nil
  case hB => decide +kernel
  case hI => kernel_rfl
  show Cwp _ _ _ _
  refine cond_f (by first | rfl | kernel_rfl) ?_
  refine cwp_skip ?_
  show Cwp _ _ _ _
  refine cwp_seq ?_
  refine cwp_seq ?_
  apply one_region
  case hc =>
    apply ChainL.of (some 40) rfl rfl
    case h => exact step_move rfl
    apply ChainL.of (some 41) rfl rfl
    case h => (first | exact step_nilCheck rfl rfl | exact step_nilCheck_elt rfl rfl)
    apply ChainL.of (some 42) rfl rfl
    case h => (first | exact w_fieldAddr tab rfl rfl rfl rfl (by decide) rfl rfl | exact w_fieldAddr_elt tab rfl rfl rfl rfl (by decide) rfl rfl)
    apply ChainL.of (some 43) rfl rfl
    case h => (first | exact w_load tab rfl rfl rfl rfl rfl rfl rfl | exact w_load tab rfl rfl rfl rfl rfl (by assumption) rfl | exact w_load_elt tab rfl rfl rfl rfl rfl | exact w_loads tab rfl rfl rfl rfl rfl rfl rfl rfl | exact w_load_tab tab rfl rfl rfl rfl (.head _) (by kernel_rfl) | exact w_loads_elt tab rfl rfl rfl rfl rfl rfl)
    apply ChainL.of (some 44) rfl rfl
    case h => exact w_len tab rfl rfl rfl (.own rfl rfl rfl) (n := 3) (by kernel_rfl)
    apply ChainL.of (some 45) rfl rfl
    case h => exact step_move rfl
    exact .nil
  show Cwp _ _ _ _
  refine cwp_block ?_
  refine cwp_loopN 4 ?_
  refine loop_round ?_
  refine cwp_seq ?_
  apply one_region
  case hc =>
    apply ChainL.of (some 46) rfl rfl
    case h => (first | exact w_bin rfl rfl rfl (lss_t (by omega)) | exact w_bin rfl rfl rfl (lss_f (by omega)) | exact w_bin rfl rfl rfl rfl)
    exact .nil
  show Cwp _ _ _ _
  refine cwp_seq ?_
  refine cond_t (by first | rfl | kernel_rfl) ?_
  refine cwp_skip ?_
  show Cwp _ _ _ _
  refine cwp_seq ?_
  refine cwp_block ?_
  refine cwp_seq ?_
  apply one_region
  case hc =>
    apply ChainL.of (some 47) rfl rfl
    case h => exact step_move rfl
    apply ChainL.of (some 48) rfl rfl
    case h => (first | exact w_index_own tab rfl rfl rfl rfl rfl rfl rfl rfl (by omega) (by omega) rfl | exact w_index_lst tab rfl rfl rfl rfl rfl rfl rfl (by omega) (by assumption))
    apply ChainL.of (some 49) rfl rfl
    case h => (first | exact w_load tab rfl rfl rfl rfl rfl rfl rfl | exact w_load tab rfl rfl rfl rfl rfl (by assumption) rfl | exact w_load_elt tab rfl rfl rfl rfl rfl | exact w_loads tab rfl rfl rfl rfl rfl rfl rfl rfl | exact w_load_tab tab rfl rfl rfl rfl (.head _) (by kernel_rfl) | exact w_loads_elt tab rfl rfl rfl rfl rfl rfl)
    apply ChainL.of (some 4) rfl rfl
    case h => exact w_alloc tab rfl rfl 113 rfl
    apply ChainL.of (some 3) rfl rfl
    case h => exact step_assign rfl
    apply ChainL.of none rfl rfl
    case h => (first | exact w_store tab rfl rfl rfl rfl rfl rfl rfl rfl rfl (Nat.le_of_ble_eq_true rfl) rfl rfl | exact w_store tab rfl rfl rfl rfl rfl (by assumption) rfl rfl rfl (Nat.le_of_ble_eq_true rfl) rfl rfl)
    exact .nil
  show Cwp _ _ _ _
  apply one_region_draw [0, 0, 0, 4, 12, 28, 60, 124, 252, 0, 1020, 2047] rfl
  case hc =>
    apply ChainL.of (some 50) rfl rfl
    case h => exact step_move rfl
    apply ChainL.of (some 51) rfl rfl
    case h => (first | exact w_load tab rfl rfl rfl rfl rfl rfl rfl | exact w_load tab rfl rfl rfl rfl rfl (by assumption) rfl | exact w_load_elt tab rfl rfl rfl rfl rfl | exact w_loads tab rfl rfl rfl rfl rfl rfl rfl rfl | exact w_load_tab tab rfl rfl rfl rfl (.head _) (by kernel_rfl) | exact w_loads_elt tab rfl rfl rfl rfl rfl rfl)
    apply ChainL.of (some 52) rfl rfl
    case h => exact step_move rfl
    apply ChainL.of (some 53) rfl rfl
    case h => (first | exact step_nilCheck rfl rfl | exact step_nilCheck_elt rfl rfl)
    apply ChainL.of (some 54) rfl rfl
    case h => (first | exact w_fieldAddr tab rfl rfl rfl rfl (by decide) rfl rfl | exact w_fieldAddr_elt tab rfl rfl rfl rfl (by decide) rfl rfl)
    apply ChainL.of (some 55) rfl rfl
    case h => (first | exact w_load tab rfl rfl rfl rfl rfl rfl rfl | exact w_load tab rfl rfl rfl rfl rfl (by assumption) rfl | exact w_load_elt tab rfl rfl rfl rfl rfl | exact w_loads tab rfl rfl rfl rfl rfl rfl rfl rfl | exact w_load_tab tab rfl rfl rfl rfl (.head _) (by kernel_rfl) | exact w_loads_elt tab rfl rfl rfl rfl rfl rfl)
    apply ChainL.of (some 56) rfl rfl
    case h => (first | exact w_index_own tab rfl rfl rfl rfl rfl rfl rfl rfl (by omega) (by omega) rfl | exact w_index_lst tab rfl rfl rfl rfl rfl rfl rfl (by omega) (by assumption))
    apply ChainL.of (some 57) rfl rfl
    case h => (first | exact w_fieldAddr tab rfl rfl rfl rfl (by decide) rfl rfl | exact w_fieldAddr_elt tab rfl rfl rfl rfl (by decide) rfl rfl)
    apply ChainL.of (some 58) rfl rfl
    case h => (first | exact w_load tab rfl rfl rfl rfl rfl rfl rfl | exact w_load tab rfl rfl rfl rfl rfl (by assumption) rfl | exact w_load_elt tab rfl rfl rfl rfl rfl | exact w_loads tab rfl rfl rfl rfl rfl rfl rfl rfl | exact w_load_tab tab rfl rfl rfl rfl (.head _) (by kernel_rfl) | exact w_loads_elt tab rfl rfl rfl rfl rfl rfl)
    apply ChainL.of (some 59) rfl rfl
    case h => exact step_move rfl
    apply ChainL.of (some 60) rfl rfl
    case h => (first | exact w_call f0 [] [5] [] Try.func28 rfl (by decide +kernel) rfl rfl .nil (by decide) (map1 (ints_ren _ _)) rfl rfl (all1 (ints_lt _ _)) rfl (all1 (ints_lt _ _)) rfl rfl rfl rfl (zip1 (os_ints _ _)) | exact w_call f1 [] [5] [] Try.func28 rfl (by decide +kernel) rfl rfl .nil (by decide) (map1 (ints_ren _ _)) rfl rfl (all1 (ints_lt _ _)) rfl (all1 (ints_lt _ _)) rfl rfl rfl rfl (zip1 (os_ints _ _)) | exact w_call f2 [] [5] [] Try.func28 rfl (by decide +kernel) rfl rfl .nil (by decide) (map1 (ints_ren _ _)) rfl rfl (all1 (ints_lt _ _)) rfl (all1 (ints_lt _ _)) rfl rfl rfl rfl (zip1 (os_ints _ _)))
    apply ChainL.of (some 61) rfl rfl
    case h => (first | exact w_call s0 [] [0, 1, 2, 3, 4, 5] [] Try.func21 rfl (by decide +kernel) rfl rfl .nil (by decide) (map6 rfl (strs_ren _ _) (bools_ren _ _) rfl rfl (ints_ren _ _)) rfl rfl (all6 rfl (strs_lt _ _) (bools_lt _ _) rfl rfl (ints_lt _ _)) rfl (all6 rfl (strs_lt _ _) (bools_lt _ _) rfl rfl (ints_lt _ _)) rfl rfl rfl rfl (zip6 rfl (os_strs _ _) (os_bools _ _) rfl rfl (os_ints _ _)) | exact w_call s1 [] [0, 1, 2, 3, 4, 5] [] Try.func21 rfl (by decide +kernel) rfl rfl .nil (by decide) (map6 rfl (strs_ren _ _) (bools_ren _ _) rfl rfl (ints_ren _ _)) rfl rfl (all6 rfl (strs_lt _ _) (bools_lt _ _) rfl rfl (ints_lt _ _)) rfl (all6 rfl (strs_lt _ _) (bools_lt _ _) rfl rfl (ints_lt _ _)) rfl rfl rfl rfl (zip6 rfl (os_strs _ _) (os_bools _ _) rfl rfl (os_ints _ _)) | exact w_call s2 [] [0, 1, 2, 3, 4, 5] [] Try.func21 rfl (by decide +kernel) rfl rfl .nil (by decide) (map6 rfl (strs_ren _ _) (bools_ren _ _) rfl rfl (ints_ren _ _)) rfl rfl (all6 rfl (strs_lt _ _) (bools_lt _ _) rfl rfl (ints_lt _ _)) rfl (all6 rfl (strs_lt _ _) (bools_lt _ _) rfl rfl (ints_lt _ _)) rfl rfl rfl rfl (zip6 rfl (os_strs _ _) (os_bools _ _) rfl rfl (os_ints _ _)))
    exact .nil
  case hB => decide +kernel
  case hI => kernel_rfl
  show Cwp _ _ _ _
  apply one_region
  case hc =>
    apply ChainL.of (some 62) rfl rfl
    case h => (first | exact w_bin rfl rfl rfl (add_i64 rfl (by omega) (by omega)) | exact w_bin rfl rfl rfl rfl)
    apply ChainL.of (some 45) rfl rfl
    case h => exact step_move rfl
    exact .nil
  show LoopN _ _ _ _ _
  refine loop_round ?_
  refine cwp_seq ?_
  apply one_region
  case hc =>
    apply ChainL.of (some 46) rfl rfl
    case h => (first | exact w_bin rfl rfl rfl (lss_t (by omega)) | exact w_bin rfl rfl rfl (lss_f (by omega)) | exact w_bin rfl rfl rfl rfl)
    exact .nil
  show Cwp _ _ _ _
  refine cwp_seq ?_
  refine cond_t (by first | rfl | kernel_rfl) ?_
  refine cwp_skip ?_
  show Cwp _ _ _ _
  refine cwp_seq ?_
  refine cwp_block ?_
  refine cwp_seq ?_
  apply one_region
  case hc =>
    apply ChainL.of (some 47) rfl rfl
    case h => exact step_move rfl
    apply ChainL.of (some 48) rfl rfl
    case h => (first | exact w_index_own tab rfl rfl rfl rfl rfl rfl rfl rfl (by omega) (by omega) rfl | exact w_index_lst tab rfl rfl rfl rfl rfl rfl rfl (by omega) (by assumption))
    apply ChainL.of (some 49) rfl rfl
    case h => (first | exact w_load tab rfl rfl rfl rfl rfl rfl rfl | exact w_load tab rfl rfl rfl rfl rfl (by assumption) rfl | exact w_load_elt tab rfl rfl rfl rfl rfl | exact w_loads tab rfl rfl rfl rfl rfl rfl rfl rfl | exact w_load_tab tab rfl rfl rfl rfl (.head _) (by kernel_rfl) | exact w_loads_elt tab rfl rfl rfl rfl rfl rfl)
    apply ChainL.of (some 4) rfl rfl
    case h => exact w_alloc tab rfl rfl 114 rfl
    apply ChainL.of (some 3) rfl rfl
    case h => exact step_assign rfl
    apply ChainL.of none rfl rfl
    case h => (first | exact w_store tab rfl rfl rfl rfl rfl rfl rfl rfl rfl (Nat.le_of_ble_eq_true rfl) rfl rfl | exact w_store tab rfl rfl rfl rfl rfl (by assumption) rfl rfl rfl (Nat.le_of_ble_eq_true rfl) rfl rfl)
    exact .nil
  show Cwp _ _ _ _
  apply one_region_draw [0, 0, 0, 4, 12, 28, 60, 124, 252, 0, 1020, 2047] rfl
  case hc =>
    apply ChainL.of (some 50) rfl rfl
    case h => exact step_move rfl
    apply ChainL.of (some 51) rfl rfl
    case h => (first | exact w_load tab rfl rfl rfl rfl rfl rfl rfl | exact w_load tab rfl rfl rfl rfl rfl (by assumption) rfl | exact w_load_elt tab rfl rfl rfl rfl rfl | exact w_loads tab rfl rfl rfl rfl rfl rfl rfl rfl | exact w_load_tab tab rfl rfl rfl rfl (.head _) (by kernel_rfl) | exact w_loads_elt tab rfl rfl rfl rfl rfl rfl)
    apply ChainL.of (some 52) rfl rfl
    case h => exact step_move rfl
    apply ChainL.of (some 53) rfl rfl
    case h => (first | exact step_nilCheck rfl rfl | exact step_nilCheck_elt rfl rfl)
    apply ChainL.of (some 54) rfl rfl
    case h => (first | exact w_fieldAddr tab rfl rfl rfl rfl (by decide) rfl rfl | exact w_fieldAddr_elt tab rfl rfl rfl rfl (by decide) rfl rfl)
    apply ChainL.of (some 55) rfl rfl
    case h => (first | exact w_load tab rfl rfl rfl rfl rfl rfl rfl | exact w_load tab rfl rfl rfl rfl rfl (by assumption) rfl | exact w_load_elt tab rfl rfl rfl rfl rfl | exact w_loads tab rfl rfl rfl rfl rfl rfl rfl rfl | exact w_load_tab tab rfl rfl rfl rfl (.head _) (by kernel_rfl) | exact w_loads_elt tab rfl rfl rfl rfl rfl rfl)
    apply ChainL.of (some 56) rfl rfl
    case h => (first | exact w_index_own tab rfl rfl rfl rfl rfl rfl rfl rfl (by omega) (by omega) rfl | exact w_index_lst tab rfl rfl rfl rfl rfl rfl rfl (by omega) (by assumption))
    apply ChainL.of (some 57) rfl rfl
    case h => (first | exact w_fieldAddr tab rfl rfl rfl rfl (by decide) rfl rfl | exact w_fieldAddr_elt tab rfl rfl rfl rfl (by decide) rfl rfl)
    apply ChainL.of (some 58) rfl rfl
    case h => (first | exact w_load tab rfl rfl rfl rfl rfl rfl rfl | exact w_load tab rfl rfl rfl rfl rfl (by assumption) rfl | exact w_load_elt tab rfl rfl rfl rfl rfl | exact w_loads tab rfl rfl rfl rfl rfl rfl rfl rfl | exact w_load_tab tab rfl rfl rfl rfl (.head _) (by kernel_rfl) | exact w_loads_elt tab rfl rfl rfl rfl rfl rfl)
    apply ChainL.of (some 59) rfl rfl
    case h => exact step_move rfl
    apply ChainL.of (some 60) rfl rfl
    case h => (first | exact w_call f0 [] [5] [] Try.func28 rfl (by decide +kernel) rfl rfl .nil (by decide) (map1 (ints_ren _ _)) rfl rfl (all1 (ints_lt _ _)) rfl (all1 (ints_lt _ _)) rfl rfl rfl rfl (zip1 (os_ints _ _)) | exact w_call f1 [] [5] [] Try.func28 rfl (by decide +kernel) rfl rfl .nil (by decide) (map1 (ints_ren _ _)) rfl rfl (all1 (ints_lt _ _)) rfl (all1 (ints_lt _ _)) rfl rfl rfl rfl (zip1 (os_ints _ _)) | exact w_call f2 [] [5] [] Try.func28 rfl (by decide +kernel) rfl rfl .nil (by decide) (map1 (ints_ren _ _)) rfl rfl (all1 (ints_lt _ _)) rfl (all1 (ints_lt _ _)) rfl rfl rfl rfl (zip1 (os_ints _ _)))
    apply ChainL.of (some 61) rfl rfl
    case h => (first | exact w_call s0 [] [0, 1, 2, 3, 4, 5] [] Try.func21 rfl (by decide +kernel) rfl rfl .nil (by decide) (map6 rfl (strs_ren _ _) (bools_ren _ _) rfl rfl (ints_ren _ _)) rfl rfl (all6 rfl (strs_lt _ _) (bools_lt _ _) rfl rfl (ints_lt _ _)) rfl (all6 rfl (strs_lt _ _) (bools_lt _ _) rfl rfl (ints_lt _ _)) rfl rfl rfl rfl (zip6 rfl (os_strs _ _) (os_bools _ _) rfl rfl (os_ints _ _)) | exact w_call s1 [] [0, 1, 2, 3, 4, 5] [] Try.func21 rfl (by decide +kernel) rfl rfl .nil (by decide) (map6 rfl (strs_ren _ _) (bools_ren _ _) rfl rfl (ints_ren _ _)) rfl rfl (all6 rfl (strs_lt _ _) (bools_lt _ _) rfl rfl (ints_lt _ _)) rfl (all6 rfl (strs_lt _ _) (bools_lt _ _) rfl rfl (ints_lt _ _)) rfl rfl rfl rfl (zip6 rfl (os_strs _ _) (os_bools _ _) rfl rfl (os_ints _ _)) | exact w_call s2 [] [0, 1, 2, 3, 4, 5] [] Try.func21 rfl (by decide +kernel) rfl rfl .nil (by decide) (map6 rfl (strs_ren _ _) (bools_ren _ _) rfl rfl (ints_ren _ _)) rfl rfl (all6 rfl (strs_lt _ _) (bools_lt _ _) rfl rfl (ints_lt _ _)) rfl (all6 rfl (strs_lt _ _) (bools_lt _ _) rfl rfl (ints_lt _ _)) rfl rfl rfl rfl (zip6 rfl (os_strs _ _) (os_bools _ _) rfl rfl (os_ints _ _)))
    exact .nil
  case hB => decide +kernel
  case hI => kernel_rfl
  show Cwp _ _ _ _
  apply one_region
  case hc =>
    apply ChainL.of (some 62) rfl rfl
    case h => (first | exact w_bin rfl rfl rfl (add_i64 rfl (by omega) (by omega)) | exact w_bin rfl rfl rfl rfl)
    apply ChainL.of (some 45) rfl rfl
    case h => exact step_move rfl
    exact .nil
  show LoopN _ _ _ _ _
  refine loop_round ?_
  refine cwp_seq ?_
  apply one_region
  case hc =>
    apply ChainL.of (some 46) rfl rfl
    case h => (first | exact w_bin rfl rfl rfl (lss_t (by omega)) | exact w_bin rfl rfl rfl (lss_f (by omega)) | exact w_bin rfl rfl rfl rfl)
    exact .nil
  show Cwp _ _ _ _
  refine cwp_seq ?_
  refine cond_t (by first | rfl | kernel_rfl) ?_
  refine cwp_skip ?_
  show Cwp _ _ _ _
  refine cwp_seq ?_
  refine cwp_block ?_
  refine cwp_seq ?_
  apply one_region
  case hc =>
    apply ChainL.of (some 47) rfl rfl
    case h => exact step_move rfl
    apply ChainL.of (some 48) rfl rfl
    case h => (first | exact w_index_own tab rfl rfl rfl rfl rfl rfl rfl rfl (by omega) (by omega) rfl | exact w_index_lst tab rfl rfl rfl rfl rfl rfl rfl (by omega) (by assumption))
    apply ChainL.of (some 49) rfl rfl
    case h => (first | exact w_load tab rfl rfl rfl rfl rfl rfl rfl | exact w_load tab rfl rfl rfl rfl rfl (by assumption) rfl | exact w_load_elt tab rfl rfl rfl rfl rfl | exact w_loads tab rfl rfl rfl rfl rfl rfl rfl rfl | exact w_load_tab tab rfl rfl rfl rfl (.head _) (by kernel_rfl) | exact w_loads_elt tab rfl rfl rfl rfl rfl rfl)
    apply ChainL.of (some 4) rfl rfl
    case h => exact w_alloc tab rfl rfl 115 rfl
    apply ChainL.of (some 3) rfl rfl
    case h => exact step_assign rfl
    apply ChainL.of none rfl rfl
    case h => (first | exact w_store tab rfl rfl rfl rfl rfl rfl rfl rfl rfl (Nat.le_of_ble_eq_true rfl) rfl rfl | exact w_store tab rfl rfl rfl rfl rfl (by assumption) rfl rfl rfl (Nat.le_of_ble_eq_true rfl) rfl rfl)
    exact .nil
  show Cwp _ _ _ _
  apply one_region_draw [0, 0, 0, 4, 12, 28, 60, 124, 252, 0, 1020, 2047] rfl
  case hc =>
    apply ChainL.of (some 50) rfl rfl
    case h => exact step_move rfl
    apply ChainL.of (some 51) rfl rfl
    case h => (first | exact w_load tab rfl rfl rfl rfl rfl rfl rfl | exact w_load tab rfl rfl rfl rfl rfl (by assumption) rfl | exact w_load_elt tab rfl rfl rfl rfl rfl | exact w_loads tab rfl rfl rfl rfl rfl rfl rfl rfl | exact w_load_tab tab rfl rfl rfl rfl (.head _) (by kernel_rfl) | exact w_loads_elt tab rfl rfl rfl rfl rfl rfl)
    apply ChainL.of (some 52) rfl rfl
    case h => exact step_move rfl
    apply ChainL.of (some 53) rfl rfl
    case h => (first | exact step_nilCheck rfl rfl | exact step_nilCheck_elt rfl rfl)
    apply ChainL.of (some 54) rfl rfl
    case h => (first | exact w_fieldAddr tab rfl rfl rfl rfl (by decide) rfl rfl | exact w_fieldAddr_elt tab rfl rfl rfl rfl (by decide) rfl rfl)
    apply ChainL.of (some 55) rfl rfl
    case h => (first | exact w_load tab rfl rfl rfl rfl rfl rfl rfl | exact w_load tab rfl rfl rfl rfl rfl (by assumption) rfl | exact w_load_elt tab rfl rfl rfl rfl rfl | exact w_loads tab rfl rfl rfl rfl rfl rfl rfl rfl | exact w_load_tab tab rfl rfl rfl rfl (.head _) (by kernel_rfl) | exact w_loads_elt tab rfl rfl rfl rfl rfl rfl)
    apply ChainL.of (some 56) rfl rfl
    case h => (first | exact w_index_own tab rfl rfl rfl rfl rfl rfl rfl rfl (by omega) (by omega) rfl | exact w_index_lst tab rfl rfl rfl rfl rfl rfl rfl (by omega) (by assumption))
    apply ChainL.of (some 57) rfl rfl
    case h => (first | exact w_fieldAddr tab rfl rfl rfl rfl (by decide) rfl rfl | exact w_fieldAddr_elt tab rfl rfl rfl rfl (by decide) rfl rfl)
    apply ChainL.of (some 58) rfl rfl
    case h => (first | exact w_load tab rfl rfl rfl rfl rfl rfl rfl | exact w_load tab rfl rfl rfl rfl rfl (by assumption) rfl | exact w_load_elt tab rfl rfl rfl rfl rfl | exact w_loads tab rfl rfl rfl rfl rfl rfl rfl rfl | exact w_load_tab tab rfl rfl rfl rfl (.head _) (by kernel_rfl) | exact w_loads_elt tab rfl rfl rfl rfl rfl rfl)
    apply ChainL.of (some 59) rfl rfl
    case h => exact step_move rfl
    apply ChainL.of (some 60) rfl rfl
    case h => (first | exact w_call f0 [] [5] [] Try.func28 rfl (by decide +kernel) rfl rfl .nil (by decide) (map1 (ints_ren _ _)) rfl rfl (all1 (ints_lt _ _)) rfl (all1 (ints_lt _ _)) rfl rfl rfl rfl (zip1 (os_ints _ _)) | exact w_call f1 [] [5] [] Try.func28 rfl (by decide +kernel) rfl rfl .nil (by decide) (map1 (ints_ren _ _)) rfl rfl (all1 (ints_lt _ _)) rfl (all1 (ints_lt _ _)) rfl rfl rfl rfl (zip1 (os_ints _ _)) | exact w_call f2 [] [5] [] Try.func28 rfl (by decide +kernel) rfl rfl .nil (by decide) (map1 (ints_ren _ _)) rfl rfl (all1 (ints_lt _ _)) rfl (all1 (ints_lt _ _)) rfl rfl rfl rfl (zip1 (os_ints _ _)))
    apply ChainL.of (some 61) rfl rfl
    case h => (first | exact w_call s0 [] [0, 1, 2, 3, 4, 5] [] Try.func21 rfl (by decide +kernel) rfl rfl .nil (by decide) (map6 rfl (strs_ren _ _) (bools_ren _ _) rfl rfl (ints_ren _ _)) rfl rfl (all6 rfl (strs_lt _ _) (bools_lt _ _) rfl rfl (ints_lt _ _)) rfl (all6 rfl (strs_lt _ _) (bools_lt _ _) rfl rfl (ints_lt _ _)) rfl rfl rfl rfl (zip6 rfl (os_strs _ _) (os_bools _ _) rfl rfl (os_ints _ _)) | exact w_call s1 [] [0, 1, 2, 3, 4, 5] [] Try.func21 rfl (by decide +kernel) rfl rfl .nil (by decide) (map6 rfl (strs_ren _ _) (bools_ren _ _) rfl rfl (ints_ren _ _)) rfl rfl (all6 rfl (strs_lt _ _) (bools_lt _ _) rfl rfl (ints_lt _ _)) rfl (all6 rfl (strs_lt _ _) (bools_lt _ _) rfl rfl (ints_lt _ _)) rfl rfl rfl rfl (zip6 rfl (os_strs _ _) (os_bools _ _) rfl rfl (os_ints _ _)) | exact w_call s2 [] [0, 1, 2, 3, 4, 5] [] Try.func21 rfl (by decide +kernel) rfl rfl .nil (by decide) (map6 rfl (strs_ren _ _) (bools_ren _ _) rfl rfl (ints_ren _ _)) rfl rfl (all6 rfl (strs_lt _ _) (bools_lt _ _) rfl rfl (ints_lt _ _)) rfl (all6 rfl (strs_lt _ _) (bools_lt _ _) rfl rfl (ints_lt _ _)) rfl rfl rfl rfl (zip6 rfl (os_strs _ _) (os_bools _ _) rfl rfl (os_ints _ _)))
    exact .nil
  case hB => decide +kernel
  case hI => kernel_rfl
  show Cwp _ _ _ _
  apply one_region
  case hc =>
    apply ChainL.of (some 62) rfl rfl
    case h => (first | exact w_bin rfl rfl rfl (add_i64 rfl (by omega) (by omega)) | exact w_bin rfl rfl rfl rfl)
    apply ChainL.of (some 45) rfl rfl
    case h => exact step_move rfl
    exact .nil
  show LoopN _ _ _ _ _
  refine loop_round ?_
  refine cwp_seq ?_
  apply one_region
  case hc =>
    apply ChainL.of (some 46) rfl rfl
    case h => (first | exact w_bin rfl rfl rfl (lss_t (by omega)) | exact w_bin rfl rfl rfl (lss_f (by omega)) | exact w_bin rfl rfl rfl rfl)
    exact .nil
  show Cwp _ _ _ _
  refine cwp_seq ?_
  refine cond_f (by first | rfl | kernel_rfl) ?_
  refine cwp_exit ?_
  show Cwp _ _ _ _
  refine cwp_seq ?_
  apply one_region_draw [0, 0, 0, 0, 8, 24, 56, 120, 121, 377, 889, 2043, 4091, 8187, 16383, 32767, 65535] rfl
  case hc =>
    apply ChainL.of (some 63) rfl rfl
    case h => exact step_move rfl
    apply ChainL.of (some 64) rfl rfl
    case h => exact step_move rfl
    apply ChainL.of (some 65) rfl rfl
    case h => exact step_move rfl
    apply ChainL.of (some 66) rfl rfl
    case h => exact step_move rfl
    apply ChainL.of (some 67) rfl rfl
    case h => (first | exact step_nilCheck rfl rfl | exact step_nilCheck_elt rfl rfl)
    apply ChainL.of (some 68) rfl rfl
    case h => (first | exact w_fieldAddr tab rfl rfl rfl rfl (by decide) rfl rfl | exact w_fieldAddr_elt tab rfl rfl rfl rfl (by decide) rfl rfl)
    apply ChainL.of (some 69) rfl rfl
    case h => (first | exact w_load tab rfl rfl rfl rfl rfl rfl rfl | exact w_load tab rfl rfl rfl rfl rfl (by assumption) rfl | exact w_load_elt tab rfl rfl rfl rfl rfl | exact w_loads tab rfl rfl rfl rfl rfl rfl rfl rfl | exact w_load_tab tab rfl rfl rfl rfl (.head _) (by kernel_rfl) | exact w_loads_elt tab rfl rfl rfl rfl rfl rfl)
    apply ChainL.of (some 70) rfl rfl
    case h => exact w_cut_own_none (lo := some (.const (.int .i64 1))) (hi := none) tab rfl rfl rfl rfl rfl 1 ⟨.i64, rfl⟩ rfl (Nat.le_refl 1)
    apply ChainL.of (some 71) rfl rfl
    case h => (first | exact step_nilCheck rfl rfl | exact step_nilCheck_elt rfl rfl)
    apply ChainL.of (some 72) rfl rfl
    case h => (first | exact w_fieldAddr tab rfl rfl rfl rfl (by decide) rfl rfl | exact w_fieldAddr_elt tab rfl rfl rfl rfl (by decide) rfl rfl)
    apply ChainL.of none rfl rfl
    case h => (first | exact w_store tab rfl rfl rfl rfl rfl rfl rfl rfl rfl (Nat.le_of_ble_eq_true rfl) rfl rfl | exact w_store tab rfl rfl rfl rfl rfl (by assumption) rfl rfl rfl (Nat.le_of_ble_eq_true rfl) rfl rfl)
    apply ChainL.of (some 73) rfl rfl
    case h => (first | exact step_nilCheck rfl rfl | exact step_nilCheck_elt rfl rfl)
    apply ChainL.of (some 74) rfl rfl
    case h => (first | exact w_fieldAddr tab rfl rfl rfl rfl (by decide) rfl rfl | exact w_fieldAddr_elt tab rfl rfl rfl rfl (by decide) rfl rfl)
    apply ChainL.of none rfl rfl
    case h => (first | exact w_store tab rfl rfl rfl rfl rfl rfl rfl rfl rfl (Nat.le_of_ble_eq_true rfl) rfl rfl | exact w_store tab rfl rfl rfl rfl rfl (by assumption) rfl rfl rfl (Nat.le_of_ble_eq_true rfl) rfl rfl)
    apply ChainL.of (some 75) rfl rfl
    case h => (first | exact step_nilCheck rfl rfl | exact step_nilCheck_elt rfl rfl)
    apply ChainL.of (some 76) rfl rfl
    case h => (first | exact w_fieldAddr tab rfl rfl rfl rfl (by decide) rfl rfl | exact w_fieldAddr_elt tab rfl rfl rfl rfl (by decide) rfl rfl)
    apply ChainL.of none rfl rfl
    case h => (first | exact w_store tab rfl rfl rfl rfl rfl rfl rfl rfl rfl (Nat.le_of_ble_eq_true rfl) rfl rfl | exact w_store tab rfl rfl rfl rfl rfl (by assumption) rfl rfl rfl (Nat.le_of_ble_eq_true rfl) rfl rfl)
    exact .nil
  case hB => decide +kernel
  case hI => kernel_rfl
  show Cwp _ _ _ _
  refine cwp_seq ?_
  apply one_region
  case hc =>
    apply ChainL.of (some 77) rfl rfl
    case h => exact step_move rfl
    apply ChainL.of (some 78) rfl rfl
    case h => (first | exact step_nilCheck rfl rfl | exact step_nilCheck_elt rfl rfl)
    apply ChainL.of (some 79) rfl rfl
    case h => (first | exact w_fieldAddr tab rfl rfl rfl rfl (by decide) rfl rfl | exact w_fieldAddr_elt tab rfl rfl rfl rfl (by decide) rfl rfl)
    apply ChainL.of (some 80) rfl rfl
    case h => (first | exact w_load tab rfl rfl rfl rfl rfl rfl rfl | exact w_load tab rfl rfl rfl rfl rfl (by assumption) rfl | exact w_load_elt tab rfl rfl rfl rfl rfl | exact w_loads tab rfl rfl rfl rfl rfl rfl rfl rfl | exact w_load_tab tab rfl rfl rfl rfl (.head _) (by kernel_rfl) | exact w_loads_elt tab rfl rfl rfl rfl rfl rfl)
    apply ChainL.of (some 81) rfl rfl
    case h => (first | exact w_bin rfl rfl rfl (add_i64 rfl (by omega) (by omega)) | exact w_bin rfl rfl rfl rfl)
    apply ChainL.of (some 82) rfl rfl
    case h => (first | exact step_nilCheck rfl rfl | exact step_nilCheck_elt rfl rfl)
    apply ChainL.of (some 83) rfl rfl
    case h => (first | exact w_fieldAddr tab rfl rfl rfl rfl (by decide) rfl rfl | exact w_fieldAddr_elt tab rfl rfl rfl rfl (by decide) rfl rfl)
    apply ChainL.of none rfl rfl
    case h => (first | exact w_store tab rfl rfl rfl rfl rfl rfl rfl rfl rfl (Nat.le_of_ble_eq_true rfl) rfl rfl | exact w_store tab rfl rfl rfl rfl rfl (by assumption) rfl rfl rfl (Nat.le_of_ble_eq_true rfl) rfl rfl)
    exact .nil
  show Cwp _ _ _ _
  refine cwp_seq ?_
  apply one_region
  case hc =>
    apply ChainL.of (some 2) rfl rfl
    case h => exact step_assign rfl
    exact .nil
  show Cwp _ _ _ _
  refine cwp_ret ?_
  exact ⟨.inl rfl, resH_one rfl rfl, objs_ok rfl⟩
theorem actfail_6_4 (n a fails : Int) (h0 : 0 ≤ n) (h1 : a < n + 1) (h2 : 0 < a) (h3 : n ≤ 100) (h4 : 0 ≤ fails) (h5 : fails ≤ 100) (D : List ByteArray) (T : List Bool) (F : List Int) (hD : D.length = 9) (hT : T.length = 9) :
    HCall Try.prog 20 [dsk (.own 3 0 4) (.own 4 0 1) n n fails false, strs D, bools T, othO 4, cutO a (.own 5 0 F.length), ints F] [.ref 0 0 0]
    [.ob (dsk (.v (.slice none 0 0)) (.lst 2 []) (n + 1) (n + 1) (fails + 1) true), .ob (strs (itD F D 4)), .ob (bools (itT F T 4)), .ob (othO 4), .ob (cutO a (.own 5 0 F.length)), .ob (ints F)] (.v (.bool true)) := by
  have s0 := settle_6 F 0 (.own 3 0 4) (.own 4 0 1) (n + 1) (n + 1) fails false D T (othO 4) (cutO a (.own 5 0 F.length)) (ints F) hD hT
  have f0 := fate_any F 0
  have s1 := settle_6 F 1 (.own 3 0 4) (.own 4 0 1) (n + 1) (n + 1) fails false D T (othO 4) (cutO a (.own 5 0 F.length)) (ints F) hD hT
  have f1 := fate_any F 1
  have s2 := settle_6 F 2 (.own 3 0 4) (.own 4 0 1) (n + 1) (n + 1) fails false D T (othO 4) (cutO a (.own 5 0 F.length)) (ints F) hD hT
  have f2 := fate_any F 2
  have s3 := settle_6 F 3 (.own 3 0 4) (.own 4 0 1) (n + 1) (n + 1) fails false D T (othO 4) (cutO a (.own 5 0 F.length)) (ints F) hD hT
  have f3 := fate_any F 3
  refine HCall.of Try.func20 rfl (by decide +kernel) (Nat.le_of_ble_eq_true rfl) ?_
  refine cwp_seq ?_
  apply one_region
  case hc =>
    apply ChainL.of (some 2) rfl rfl
    case h => exact step_assign rfl
    exact .nil
  show Cwp _ _ _ _
  refine cwp_seq ?_
  apply one_region
  case hc =>
    apply ChainL.of (some 5) rfl rfl
    case h => exact step_move rfl
    apply ChainL.of (some 6) rfl rfl
    case h => (first | exact step_nilCheck rfl rfl | exact step_nilCheck_elt rfl rfl)
    apply ChainL.of (some 7) rfl rfl
    case h => (first | exact w_fieldAddr tab rfl rfl rfl rfl (by decide) rfl rfl | exact w_fieldAddr_elt tab rfl rfl rfl rfl (by decide) rfl rfl)
    apply ChainL.of (some 8) rfl rfl
    case h => (first | exact w_load tab rfl rfl rfl rfl rfl rfl rfl | exact w_load tab rfl rfl rfl rfl rfl (by assumption) rfl | exact w_load_elt tab rfl rfl rfl rfl rfl | exact w_loads tab rfl rfl rfl rfl rfl rfl rfl rfl | exact w_load_tab tab rfl rfl rfl rfl (.head _) (by kernel_rfl) | exact w_loads_elt tab rfl rfl rfl rfl rfl rfl)
    apply ChainL.of (some 9) rfl rfl
    case h => (first | exact w_bin rfl rfl rfl (add_i64 rfl (by omega) (by omega)) | exact w_bin rfl rfl rfl rfl)
    apply ChainL.of (some 10) rfl rfl
    case h => (first | exact step_nilCheck rfl rfl | exact step_nilCheck_elt rfl rfl)
    apply ChainL.of (some 11) rfl rfl
    case h => (first | exact w_fieldAddr tab rfl rfl rfl rfl (by decide) rfl rfl | exact w_fieldAddr_elt tab rfl rfl rfl rfl (by decide) rfl rfl)
    apply ChainL.of none rfl rfl
    case h => (first | exact w_store tab rfl rfl rfl rfl rfl rfl rfl rfl rfl (Nat.le_of_ble_eq_true rfl) rfl rfl | exact w_store tab rfl rfl rfl rfl rfl (by assumption) rfl rfl rfl (Nat.le_of_ble_eq_true rfl) rfl rfl)
    exact .nil
  show Cwp _ _ _ _
  refine cwp_seq ?_
  apply one_region
  case hc =>
    apply ChainL.of (some 12) rfl rfl
    case h => exact step_move rfl
    apply ChainL.of (some 13) rfl rfl
    case h => (first | exact step_nilCheck rfl rfl | exact step_nilCheck_elt rfl rfl)
    apply ChainL.of (some 14) rfl rfl
    case h => (first | exact w_fieldAddr tab rfl rfl rfl rfl (by decide) rfl rfl | exact w_fieldAddr_elt tab rfl rfl rfl rfl (by decide) rfl rfl)
    apply ChainL.of (some 15) rfl rfl
    case h => (first | exact w_load tab rfl rfl rfl rfl rfl rfl rfl | exact w_load tab rfl rfl rfl rfl rfl (by assumption) rfl | exact w_load_elt tab rfl rfl rfl rfl rfl | exact w_loads tab rfl rfl rfl rfl rfl rfl rfl rfl | exact w_load_tab tab rfl rfl rfl rfl (.head _) (by kernel_rfl) | exact w_loads_elt tab rfl rfl rfl rfl rfl rfl)
    apply ChainL.of (some 16) rfl rfl
    case h => (first | exact w_bin rfl rfl rfl (add_i64 rfl (by omega) (by omega)) | exact w_bin rfl rfl rfl rfl)
    apply ChainL.of (some 17) rfl rfl
    case h => (first | exact step_nilCheck rfl rfl | exact step_nilCheck_elt rfl rfl)
    apply ChainL.of (some 18) rfl rfl
    case h => (first | exact w_fieldAddr tab rfl rfl rfl rfl (by decide) rfl rfl | exact w_fieldAddr_elt tab rfl rfl rfl rfl (by decide) rfl rfl)
    apply ChainL.of none rfl rfl
    case h => (first | exact w_store tab rfl rfl rfl rfl rfl rfl rfl rfl rfl (Nat.le_of_ble_eq_true rfl) rfl rfl | exact w_store tab rfl rfl rfl rfl rfl (by assumption) rfl rfl rfl (Nat.le_of_ble_eq_true rfl) rfl rfl)
    exact .nil
  show Cwp _ _ _ _
  refine cwp_seq ?_
  refine cwp_seq ?_
  apply one_region_draw [0, 1, 3, 7, 15, 31, 63, 127, 255, 511, 1023, 127, 2175, 6271, 14463, 30847, 63615, 129151, 260223, 524287, 1048575] rfl
  case hc =>
    apply ChainL.of (some 19) rfl rfl
    case h => exact step_move rfl
    apply ChainL.of (some 20) rfl rfl
    case h => (first | exact step_nilCheck rfl rfl | exact step_nilCheck_elt rfl rfl)
    apply ChainL.of (some 21) rfl rfl
    case h => (first | exact w_fieldAddr tab rfl rfl rfl rfl (by decide) rfl rfl | exact w_fieldAddr_elt tab rfl rfl rfl rfl (by decide) rfl rfl)
    apply ChainL.of (some 22) rfl rfl
    case h => (first | exact w_load tab rfl rfl rfl rfl rfl rfl rfl | exact w_load tab rfl rfl rfl rfl rfl (by assumption) rfl | exact w_load_elt tab rfl rfl rfl rfl rfl | exact w_loads tab rfl rfl rfl rfl rfl rfl rfl rfl | exact w_load_tab tab rfl rfl rfl rfl (.head _) (by kernel_rfl) | exact w_loads_elt tab rfl rfl rfl rfl rfl rfl)
    apply ChainL.of (some 23) rfl rfl
    case h => exact w_len tab rfl rfl rfl (.own rfl rfl rfl) (n := 1) (by kernel_rfl)
    apply ChainL.of (some 24) rfl rfl
    case h => (first | exact w_bin rfl rfl rfl (eql_t (by omega)) | exact w_bin rfl rfl rfl (eql_f (by omega)) | exact w_bin rfl rfl rfl rfl)
    apply ChainL.of (some 25) rfl rfl
    case h => exact step_move rfl
    first
    | apply ChainL.off (some 26) 6 25 false rfl rfl rfl rfl
    | apply ChainL.on (some 26) 6 25 false rfl rfl rfl rfl
      case h => exact step_move rfl
    first
    | apply ChainL.off (some 27) 6 25 false rfl rfl rfl rfl
    | apply ChainL.on (some 27) 6 25 false rfl rfl rfl rfl
      case h => (first | exact step_nilCheck rfl rfl | exact step_nilCheck_elt rfl rfl)
    first
    | apply ChainL.off (some 28) 6 25 false rfl rfl rfl rfl
    | apply ChainL.on (some 28) 6 25 false rfl rfl rfl rfl
      case h => (first | exact w_fieldAddr tab rfl rfl rfl rfl (by decide) rfl rfl | exact w_fieldAddr_elt tab rfl rfl rfl rfl (by decide) rfl rfl)
    first
    | apply ChainL.off (some 29) 6 25 false rfl rfl rfl rfl
    | apply ChainL.on (some 29) 6 25 false rfl rfl rfl rfl
      case h => (first | exact w_load tab rfl rfl rfl rfl rfl rfl rfl | exact w_load tab rfl rfl rfl rfl rfl (by assumption) rfl | exact w_load_elt tab rfl rfl rfl rfl rfl | exact w_loads tab rfl rfl rfl rfl rfl rfl rfl rfl | exact w_load_tab tab rfl rfl rfl rfl (.head _) (by kernel_rfl) | exact w_loads_elt tab rfl rfl rfl rfl rfl rfl)
    first
    | apply ChainL.off (some 30) 6 25 false rfl rfl rfl rfl
    | apply ChainL.on (some 30) 6 25 false rfl rfl rfl rfl
      case h => exact step_move rfl
    first
    | apply ChainL.off (some 31) 6 25 false rfl rfl rfl rfl
    | apply ChainL.on (some 31) 6 25 false rfl rfl rfl rfl
      case h => (first | exact step_nilCheck rfl rfl | exact step_nilCheck_elt rfl rfl)
    first
    | apply ChainL.off (some 32) 6 25 false rfl rfl rfl rfl
    | apply ChainL.on (some 32) 6 25 false rfl rfl rfl rfl
      case h => (first | exact w_fieldAddr tab rfl rfl rfl rfl (by decide) rfl rfl | exact w_fieldAddr_elt tab rfl rfl rfl rfl (by decide) rfl rfl)
    first
    | apply ChainL.off (some 33) 6 25 false rfl rfl rfl rfl
    | apply ChainL.on (some 33) 6 25 false rfl rfl rfl rfl
      case h => (first | exact w_load tab rfl rfl rfl rfl rfl rfl rfl | exact w_load tab rfl rfl rfl rfl rfl (by assumption) rfl | exact w_load_elt tab rfl rfl rfl rfl rfl | exact w_loads tab rfl rfl rfl rfl rfl rfl rfl rfl | exact w_load_tab tab rfl rfl rfl rfl (.head _) (by kernel_rfl) | exact w_loads_elt tab rfl rfl rfl rfl rfl rfl)
    first
    | apply ChainL.off (some 34) 6 25 false rfl rfl rfl rfl
    | apply ChainL.on (some 34) 6 25 false rfl rfl rfl rfl
      case h => (first | exact w_index_own tab rfl rfl rfl rfl rfl rfl rfl rfl (by omega) (by omega) rfl | exact w_index_lst tab rfl rfl rfl rfl rfl rfl rfl (by omega) (by assumption))
    first
    | apply ChainL.off (some 35) 6 25 false rfl rfl rfl rfl
    | apply ChainL.on (some 35) 6 25 false rfl rfl rfl rfl
      case h => (first | exact w_fieldAddr tab rfl rfl rfl rfl (by decide) rfl rfl | exact w_fieldAddr_elt tab rfl rfl rfl rfl (by decide) rfl rfl)
    first
    | apply ChainL.off (some 36) 6 25 false rfl rfl rfl rfl
    | apply ChainL.on (some 36) 6 25 false rfl rfl rfl rfl
      case h => (first | exact w_load tab rfl rfl rfl rfl rfl rfl rfl | exact w_load tab rfl rfl rfl rfl rfl (by assumption) rfl | exact w_load_elt tab rfl rfl rfl rfl rfl | exact w_loads tab rfl rfl rfl rfl rfl rfl rfl rfl | exact w_load_tab tab rfl rfl rfl rfl (.head _) (by kernel_rfl) | exact w_loads_elt tab rfl rfl rfl rfl rfl rfl)
    first
    | apply ChainL.off (some 37) 6 25 false rfl rfl rfl rfl
    | apply ChainL.on (some 37) 6 25 false rfl rfl rfl rfl
      case h => (first | exact w_max rfl rfl rfl (if_pos (by omega)) | exact w_max rfl rfl rfl (if_neg (by omega)) | exact w_max rfl rfl rfl rfl)
    first
    | apply ChainL.off (some 38) 6 25 false rfl rfl rfl rfl
    | apply ChainL.on (some 38) 6 25 false rfl rfl rfl rfl
      case h => (first | exact w_bin rfl rfl rfl (leq_t (by omega)) | exact w_bin rfl rfl rfl (leq_f (by omega)) | exact w_bin rfl rfl rfl rfl)
    apply ChainL.of (some 39) rfl rfl
    case h => exact step_pick rfl rfl
    exact .nil
  case hB => decide +kernel
  case hI => kernel_rfl
  show Cwp _ _ _ _
  refine cond_f (by first | rfl | kernel_rfl) ?_
  refine cwp_skip ?_
  show Cwp _ _ _ _
  refine cwp_seq ?_
  refine cwp_seq ?_
  apply one_region
  case hc =>
    apply ChainL.of (some 40) rfl rfl
    case h => exact step_move rfl
    apply ChainL.of (some 41) rfl rfl
    case h => (first | exact step_nilCheck rfl rfl | exact step_nilCheck_elt rfl rfl)
    apply ChainL.of (some 42) rfl rfl
    case h => (first | exact w_fieldAddr tab rfl rfl rfl rfl (by decide) rfl rfl | exact w_fieldAddr_elt tab rfl rfl rfl rfl (by decide) rfl rfl)
    apply ChainL.of (some 43) rfl rfl
    case h => (first | exact w_load tab rfl rfl rfl rfl rfl rfl rfl | exact w_load tab rfl rfl rfl rfl rfl (by assumption) rfl | exact w_load_elt tab rfl rfl rfl rfl rfl | exact w_loads tab rfl rfl rfl rfl rfl rfl rfl rfl | exact w_load_tab tab rfl rfl rfl rfl (.head _) (by kernel_rfl) | exact w_loads_elt tab rfl rfl rfl rfl rfl rfl)
    apply ChainL.of (some 44) rfl rfl
    case h => exact w_len tab rfl rfl rfl (.own rfl rfl rfl) (n := 4) (by kernel_rfl)
    apply ChainL.of (some 45) rfl rfl
    case h => exact step_move rfl
    exact .nil
  show Cwp _ _ _ _
  refine cwp_block ?_
  refine cwp_loopN 5 ?_
  refine loop_round ?_
  refine cwp_seq ?_
  apply one_region
  case hc =>
    apply ChainL.of (some 46) rfl rfl
    case h => (first | exact w_bin rfl rfl rfl (lss_t (by omega)) | exact w_bin rfl rfl rfl (lss_f (by omega)) | exact w_bin rfl rfl rfl rfl)
    exact .nil
  show Cwp _ _ _ _
  refine cwp_seq ?_
  refine cond_t (by first | rfl | kernel_rfl) ?_
  refine cwp_skip ?_
  show Cwp _ _ _ _
  refine cwp_seq ?_
  refine cwp_block ?_
  refine cwp_seq ?_
  apply one_region
  case hc =>
    apply ChainL.of (some 47) rfl rfl
    case h => exact step_move rfl
    apply ChainL.of (some 48) rfl rfl
    case h => (first | exact w_index_own tab rfl rfl rfl rfl rfl rfl rfl rfl (by omega) (by omega) rfl | exact w_index_lst tab rfl rfl rfl rfl rfl rfl rfl (by omega) (by assumption))
    apply ChainL.of (some 49) rfl rfl
    case h => (first | exact w_load tab rfl rfl rfl rfl rfl rfl rfl | exact w_load tab rfl rfl rfl rfl rfl (by assumption) rfl | exact w_load_elt tab rfl rfl rfl rfl rfl | exact w_loads tab rfl rfl rfl rfl rfl rfl rfl rfl | exact w_load_tab tab rfl rfl rfl rfl (.head _) (by kernel_rfl) | exact w_loads_elt tab rfl rfl rfl rfl rfl rfl)
    apply ChainL.of (some 4) rfl rfl
    case h => exact w_alloc tab rfl rfl 116 rfl
    apply ChainL.of (some 3) rfl rfl
    case h => exact step_assign rfl
    apply ChainL.of none rfl rfl
    case h => (first | exact w_store tab rfl rfl rfl rfl rfl rfl rfl rfl rfl (Nat.le_of_ble_eq_true rfl) rfl rfl | exact w_store tab rfl rfl rfl rfl rfl (by assumption) rfl rfl rfl (Nat.le_of_ble_eq_true rfl) rfl rfl)
    exact .nil
  show Cwp _ _ _ _
  apply one_region_draw [0, 0, 0, 4, 12, 28, 60, 124, 252, 0, 1020, 2047] rfl
  case hc =>
    apply ChainL.of (some 50) rfl rfl
    case h => exact step_move rfl
    apply ChainL.of (some 51) rfl rfl
    case h => (first | exact w_load tab rfl rfl rfl rfl rfl rfl rfl | exact w_load tab rfl rfl rfl rfl rfl (by assumption) rfl | exact w_load_elt tab rfl rfl rfl rfl rfl | exact w_loads tab rfl rfl rfl rfl rfl rfl rfl rfl | exact w_load_tab tab rfl rfl rfl rfl (.head _) (by kernel_rfl) | exact w_loads_elt tab rfl rfl rfl rfl rfl rfl)
    apply ChainL.of (some 52) rfl rfl
    case h => exact step_move rfl
    apply ChainL.of (some 53) rfl rfl
    case h => (first | exact step_nilCheck rfl rfl | exact step_nilCheck_elt rfl rfl)
    apply ChainL.of (some 54) rfl rfl
    case h => (first | exact w_fieldAddr tab rfl rfl rfl rfl (by decide) rfl rfl | exact w_fieldAddr_elt tab rfl rfl rfl rfl (by decide) rfl rfl)
    apply ChainL.of (some 55) rfl rfl
    case h => (first | exact w_load tab rfl rfl rfl rfl rfl rfl rfl | exact w_load tab rfl rfl rfl rfl rfl (by assumption) rfl | exact w_load_elt tab rfl rfl rfl rfl rfl | exact w_loads tab rfl rfl rfl rfl rfl rfl rfl rfl | exact w_load_tab tab rfl rfl rfl rfl (.head _) (by kernel_rfl) | exact w_loads_elt tab rfl rfl rfl rfl rfl rfl)
    apply ChainL.of (some 56) rfl rfl
    case h => (first | exact w_index_own tab rfl rfl rfl rfl rfl rfl rfl rfl (by omega) (by omega) rfl | exact w_index_lst tab rfl rfl rfl rfl rfl rfl rfl (by omega) (by assumption))
    apply ChainL.of (some 57) rfl rfl
    case h => (first | exact w_fieldAddr tab rfl rfl rfl rfl (by decide) rfl rfl | exact w_fieldAddr_elt tab rfl rfl rfl rfl (by decide) rfl rfl)
    apply ChainL.of (some 58) rfl rfl
    case h => (first | exact w_load tab rfl rfl rfl rfl rfl rfl rfl | exact w_load tab rfl rfl rfl rfl rfl (by assumption) rfl | exact w_load_elt tab rfl rfl rfl rfl rfl | exact w_loads tab rfl rfl rfl rfl rfl rfl rfl rfl | exact w_load_tab tab rfl rfl rfl rfl (.head _) (by kernel_rfl) | exact w_loads_elt tab rfl rfl rfl rfl rfl rfl)
    apply ChainL.of (some 59) rfl rfl
    case h => exact step_move rfl
    apply ChainL.of (some 60) rfl rfl
    case h => (first | exact w_call f0 [] [5] [] Try.func28 rfl (by decide +kernel) rfl rfl .nil (by decide) (map1 (ints_ren _ _)) rfl rfl (all1 (ints_lt _ _)) rfl (all1 (ints_lt _ _)) rfl rfl rfl rfl (zip1 (os_ints _ _)) | exact w_call f1 [] [5] [] Try.func28 rfl (by decide +kernel) rfl rfl .nil (by decide) (map1 (ints_ren _ _)) rfl rfl (all1 (ints_lt _ _)) rfl (all1 (ints_lt _ _)) rfl rfl rfl rfl (zip1 (os_ints _ _)) | exact w_call f2 [] [5] [] Try.func28 rfl (by decide +kernel) rfl rfl .nil (by decide) (map1 (ints_ren _ _)) rfl rfl (all1 (ints_lt _ _)) rfl (all1 (ints_lt _ _)) rfl rfl rfl rfl (zip1 (os_ints _ _)) | exact w_call f3 [] [5] [] Try.func28 rfl (by decide +kernel) rfl rfl .nil (by decide) (map1 (ints_ren _ _)) rfl rfl (all1 (ints_lt _ _)) rfl (all1 (ints_lt _ _)) rfl rfl rfl rfl (zip1 (os_ints _ _)))
    apply ChainL.of (some 61) rfl rfl
    case h => (first | exact w_call s0 [] [0, 1, 2, 3, 4, 5] [] Try.func21 rfl (by decide +kernel) rfl rfl .nil (by decide) (map6 rfl (strs_ren _ _) (bools_ren _ _) rfl rfl (ints_ren _ _)) rfl rfl (all6 rfl (strs_lt _ _) (bools_lt _ _) rfl rfl (ints_lt _ _)) rfl (all6 rfl (strs_lt _ _) (bools_lt _ _) rfl rfl (ints_lt _ _)) rfl rfl rfl rfl (zip6 rfl (os_strs _ _) (os_bools _ _) rfl rfl (os_ints _ _)) | exact w_call s1 [] [0, 1, 2, 3, 4, 5] [] Try.func21 rfl (by decide +kernel) rfl rfl .nil (by decide) (map6 rfl (strs_ren _ _) (bools_ren _ _) rfl rfl (ints_ren _ _)) rfl rfl (all6 rfl (strs_lt _ _) (bools_lt _ _) rfl rfl (ints_lt _ _)) rfl (all6 rfl (strs_lt _ _) (bools_lt _ _) rfl rfl (ints_lt _ _)) rfl rfl rfl rfl (zip6 rfl (os_strs _ _) (os_bools _ _) rfl rfl (os_ints _ _)) | exact w_call s2 [] [0, 1, 2, 3, 4, 5] [] Try.func21 rfl (by decide +kernel) rfl rfl .nil (by decide) (map6 rfl (strs_ren _ _) (bools_ren _ _) rfl rfl (ints_ren _ _)) rfl rfl (all6 rfl (strs_lt _ _) (bools_lt _ _) rfl rfl (ints_lt _ _)) rfl (all6 rfl (strs_lt _ _) (bools_lt _ _) rfl rfl (ints_lt _ _)) rfl rfl rfl rfl (zip6 rfl (os_strs _ _) (os_bools _ _) rfl rfl (os_ints _ _)) | exact w_call s3 [] [0, 1, 2, 3, 4, 5] [] Try.func21 rfl (by decide +kernel) rfl rfl .nil (by decide) (map6 rfl (strs_ren _ _) (bools_ren _ _) rfl rfl (ints_ren _ _)) rfl rfl (all6 rfl (strs_lt _ _) (bools_lt _ _) rfl rfl (ints_lt _ _)) rfl (all6 rfl (strs_lt _ _) (bools_lt _ _) rfl rfl (ints_lt _ _)) rfl rfl rfl rfl (zip6 rfl (os_strs _ _) (os_bools _ _) rfl rfl (os_ints _ _)))
    exact .nil
  case hB => decide +kernel
  case hI => kernel_rfl
  show Cwp _ _ _ _
  apply one_region
  case hc =>
    apply ChainL.of (some 62) rfl rfl
    case h => (first | exact w_bin rfl rfl rfl (add_i64 rfl (by omega) (by omega)) | exact w_bin rfl rfl rfl rfl)
    apply ChainL.of (some 45) rfl rfl
    case h => exact step_move rfl
    exact .nil
  show LoopN _ _ _ _ _
  refine loop_round ?_
  refine cwp_seq ?_
  apply one_region
  case hc =>
    apply ChainL.of (some 46) rfl rfl
    case h => (first | exact w_bin rfl rfl rfl (lss_t (by omega)) | exact w_bin rfl rfl rfl (lss_f (by omega)) | exact w_bin rfl rfl rfl rfl)
    exact .nil
  show Cwp _ _ _ _
  refine cwp_seq ?_
  refine cond_t (by first | rfl | kernel_rfl) ?_
  refine cwp_skip ?_
  show Cwp _ _ _ _
  refine cwp_seq ?_
  refine cwp_block ?_
  refine cwp_seq ?_
  apply one_region
  case hc =>
    apply ChainL.of (some 47) rfl rfl
    case h => exact step_move rfl
    apply ChainL.of (some 48) rfl rfl
    case h => (first | exact w_index_own tab rfl rfl rfl rfl rfl rfl rfl rfl (by omega) (by omega) rfl | exact w_index_lst tab rfl rfl rfl rfl rfl rfl rfl (by omega) (by assumption))
    apply ChainL.of (some 49) rfl rfl
    case h => (first | exact w_load tab rfl rfl rfl rfl rfl rfl rfl | exact w_load tab rfl rfl rfl rfl rfl (by assumption) rfl | exact w_load_elt tab rfl rfl rfl rfl rfl | exact w_loads tab rfl rfl rfl rfl rfl rfl rfl rfl | exact w_load_tab tab rfl rfl rfl rfl (.head _) (by kernel_rfl) | exact w_loads_elt tab rfl rfl rfl rfl rfl rfl)
    apply ChainL.of (some 4) rfl rfl
    case h => exact w_alloc tab rfl rfl 117 rfl
    apply ChainL.of (some 3) rfl rfl
    case h => exact step_assign rfl
    apply ChainL.of none rfl rfl
    case h => (first | exact w_store tab rfl rfl rfl rfl rfl rfl rfl rfl rfl (Nat.le_of_ble_eq_true rfl) rfl rfl | exact w_store tab rfl rfl rfl rfl rfl (by assumption) rfl rfl rfl (Nat.le_of_ble_eq_true rfl) rfl rfl)
    exact .nil
  show Cwp _ _ _ _
  apply one_region_draw [0, 0, 0, 4, 12, 28, 60, 124, 252, 0, 1020, 2047] rfl
  case hc =>
    apply ChainL.of (some 50) rfl rfl
    case h => exact step_move rfl
    apply ChainL.of (some 51) rfl rfl
    case h => (first | exact w_load tab rfl rfl rfl rfl rfl rfl rfl | exact w_load tab rfl rfl rfl rfl rfl (by assumption) rfl | exact w_load_elt tab rfl rfl rfl rfl rfl | exact w_loads tab rfl rfl rfl rfl rfl rfl rfl rfl | exact w_load_tab tab rfl rfl rfl rfl (.head _) (by kernel_rfl) | exact w_loads_elt tab rfl rfl rfl rfl rfl rfl)
    apply ChainL.of (some 52) rfl rfl
    case h => exact step_move rfl
    apply ChainL.of (some 53) rfl rfl
    case h => (first | exact step_nilCheck rfl rfl | exact step_nilCheck_elt rfl rfl)
    apply ChainL.of (some 54) rfl rfl
    case h => (first | exact w_fieldAddr tab rfl rfl rfl rfl (by decide) rfl rfl | exact w_fieldAddr_elt tab rfl rfl rfl rfl (by decide) rfl rfl)
    apply ChainL.of (some 55) rfl rfl
    case h => (first | exact w_load tab rfl rfl rfl rfl rfl rfl rfl | exact w_load tab rfl rfl rfl rfl rfl (by assumption) rfl | exact w_load_elt tab rfl rfl rfl rfl rfl | exact w_loads tab rfl rfl rfl rfl rfl rfl rfl rfl | exact w_load_tab tab rfl rfl rfl rfl (.head _) (by kernel_rfl) | exact w_loads_elt tab rfl rfl rfl rfl rfl rfl)
    apply ChainL.of (some 56) rfl rfl
    case h => (first | exact w_index_own tab rfl rfl rfl rfl rfl rfl rfl rfl (by omega) (by omega) rfl | exact w_index_lst tab rfl rfl rfl rfl rfl rfl rfl (by omega) (by assumption))
    apply ChainL.of (some 57) rfl rfl
    case h => (first | exact w_fieldAddr tab rfl rfl rfl rfl (by decide) rfl rfl | exact w_fieldAddr_elt tab rfl rfl rfl rfl (by decide) rfl rfl)
    apply ChainL.of (some 58) rfl rfl
    case h => (first | exact w_load tab rfl rfl rfl rfl rfl rfl rfl | exact w_load tab rfl rfl rfl rfl rfl (by assumption) rfl | exact w_load_elt tab rfl rfl rfl rfl rfl | exact w_loads tab rfl rfl rfl rfl rfl rfl rfl rfl | exact w_load_tab tab rfl rfl rfl rfl (.head _) (by kernel_rfl) | exact w_loads_elt tab rfl rfl rfl rfl rfl rfl)
    apply ChainL.of (some 59) rfl rfl
    case h => exact step_move rfl
    apply ChainL.of (some 60) rfl rfl
    case h => (first | exact w_call f0 [] [5] [] Try.func28 rfl (by decide +kernel) rfl rfl .nil (by decide) (map1 (ints_ren _ _)) rfl rfl (all1 (ints_lt _ _)) rfl (all1 (ints_lt _ _)) rfl rfl rfl rfl (zip1 (os_ints _ _)) | exact w_call f1 [] [5] [] Try.func28 rfl (by decide +kernel) rfl rfl .nil (by decide) (map1 (ints_ren _ _)) rfl rfl (all1 (ints_lt _ _)) rfl (all1 (ints_lt _ _)) rfl rfl rfl rfl (zip1 (os_ints _ _)) | exact w_call f2 [] [5] [] Try.func28 rfl (by decide +kernel) rfl rfl .nil (by decide) (map1 (ints_ren _ _)) rfl rfl (all1 (ints_lt _ _)) rfl (all1 (ints_lt _ _)) rfl rfl rfl rfl (zip1 (os_ints _ _)) | exact w_call f3 [] [5] [] Try.func28 rfl (by decide +kernel) rfl rfl .nil (by decide) (map1 (ints_ren _ _)) rfl rfl (all1 (ints_lt _ _)) rfl (all1 (ints_lt _ _)) rfl rfl rfl rfl (zip1 (os_ints _ _)))
    apply ChainL.of (some 61) rfl rfl
    case h => (first | exact w_call s0 [] [0, 1, 2, 3, 4, 5] [] Try.func21 rfl (by decide +kernel) rfl rfl .nil (by decide) (map6 rfl (strs_ren _ _) (bools_ren _ _) rfl rfl (ints_ren _ _)) rfl rfl (all6 rfl (strs_lt _ _) (bools_lt _ _) rfl rfl (ints_lt _ _)) rfl (all6 rfl (strs_lt _ _) (bools_lt _ _) rfl rfl (ints_lt _ _)) rfl rfl rfl rfl (zip6 rfl (os_strs _ _) (os_bools _ _) rfl rfl (os_ints _ _)) | exact w_call s1 [] [0, 1, 2, 3, 4, 5] [] Try.func21 rfl (by decide +kernel) rfl rfl .nil (by decide) (map6 rfl (strs_ren _ _) (bools_ren _ _) rfl rfl (ints_ren _ _)) rfl rfl (all6 rfl (strs_lt _ _) (bools_lt _ _) rfl rfl (ints_lt _ _)) rfl (all6 rfl (strs_lt _ _) (bools_lt _ _) rfl rfl (ints_lt _ _)) rfl rfl rfl rfl (zip6 rfl (os_strs _ _) (os_bools _ _) rfl rfl (os_ints _ _)) | exact w_call s2 [] [0, 1, 2, 3, 4, 5] [] Try.func21 rfl (by decide +kernel) rfl rfl .nil (by decide) (map6 rfl (strs_ren _ _) (bools_ren _ _) rfl rfl (ints_ren _ _)) rfl rfl (all6 rfl (strs_lt _ _) (bools_lt _ _) rfl rfl (ints_lt _ _)) rfl (all6 rfl (strs_lt _ _) (bools_lt _ _) rfl rfl (ints_lt _ _)) rfl rfl rfl rfl (zip6 rfl (os_strs _ _) (os_bools _ _) rfl rfl (os_ints _ _)) | exact w_call s3 [] [0, 1, 2, 3, 4, 5] [] Try.func21 rfl (by decide +kernel) rfl rfl .nil (by decide) (map6 rfl (strs_ren _ _) (bools_ren _ _) rfl rfl (ints_ren _ _)) rfl rfl (all6 rfl (strs_lt _ _) (bools_lt _ _) rfl rfl (ints_lt _ _)) rfl (all6 rfl (strs_lt _ _) (bools_lt _ _) rfl rfl (ints_lt _ _)) rfl rfl rfl rfl (zip6 rfl (os_strs _ _) (os_bools _ _) rfl rfl (os_ints _ _)))
    exact .nil
  case hB => decide +kernel
  case hI => kernel_rfl
  show Cwp _ _ _ _
  apply one_region
  case hc =>
    apply ChainL.of (some 62) rfl rfl
    case h => (first | exact w_bin rfl rfl rfl (add_i64 rfl (by omega) (by omega)) | exact w_bin rfl rfl rfl rfl)
    apply ChainL.of (some 45) rfl rfl
    case h => exact step_move rfl
    exact .nil
  show LoopN _ _ _ _ _
  refine loop_round ?_
  refine cwp_seq ?_
  apply one_region
  case hc =>
    apply ChainL.of (some 46) rfl rfl
    case h => (first | exact w_bin rfl rfl rfl (lss_t (by omega)) | exact w_bin rfl rfl rfl (lss_f (by omega)) | exact w_bin rfl rfl rfl rfl)
    exact .nil
  show Cwp _ _ _ _
  refine cwp_seq ?_
  refine cond_t (by first | rfl | kernel_rfl) ?_
  refine cwp_skip ?_
  show Cwp _ _ _ _
  refine cwp_seq ?_
  refine cwp_block ?_
  refine cwp_seq ?_
  apply one_region
  case hc =>
    apply ChainL.of (some 47) rfl rfl
    case h => exact step_move rfl
    apply ChainL.of (some 48) rfl rfl
    case h => (first | exact w_index_own tab rfl rfl rfl rfl rfl rfl rfl rfl (by omega) (by omega) rfl | exact w_index_lst tab rfl rfl rfl rfl rfl rfl rfl (by omega) (by assumption))
    apply ChainL.of (some 49) rfl rfl
    case h => (first | exact w_load tab rfl rfl rfl rfl rfl rfl rfl | exact w_load tab rfl rfl rfl rfl rfl (by assumption) rfl | exact w_load_elt tab rfl rfl rfl rfl rfl | exact w_loads tab rfl rfl rfl rfl rfl rfl rfl rfl | exact w_load_tab tab rfl rfl rfl rfl (.head _) (by kernel_rfl) | exact w_loads_elt tab rfl rfl rfl rfl rfl rfl)
    apply ChainL.of (some 4) rfl rfl
    case h => exact w_alloc tab rfl rfl 118 rfl
    apply ChainL.of (some 3) rfl rfl
    case h => exact step_assign rfl
    apply ChainL.of none rfl rfl
    case h => (first | exact w_store tab rfl rfl rfl rfl rfl rfl rfl rfl rfl (Nat.le_of_ble_eq_true rfl) rfl rfl | exact w_store tab rfl rfl rfl rfl rfl (by assumption) rfl rfl rfl (Nat.le_of_ble_eq_true rfl) rfl rfl)
    exact .nil
  show Cwp _ _ _ _
  apply one_region_draw [0, 0, 0, 4, 12, 28, 60, 124, 252, 0, 1020, 2047] rfl
  case hc =>
    apply ChainL.of (some 50) rfl rfl
    case h => exact step_move rfl
    apply ChainL.of (some 51) rfl rfl
    case h => (first | exact w_load tab rfl rfl rfl rfl rfl rfl rfl | exact w_load tab rfl rfl rfl rfl rfl (by assumption) rfl | exact w_load_elt tab rfl rfl rfl rfl rfl | exact w_loads tab rfl rfl rfl rfl rfl rfl rfl rfl | exact w_load_tab tab rfl rfl rfl rfl (.head _) (by kernel_rfl) | exact w_loads_elt tab rfl rfl rfl rfl rfl rfl)
    apply ChainL.of (some 52) rfl rfl
    case h => exact step_move rfl
    apply ChainL.of (some 53) rfl rfl
    case h => (first | exact step_nilCheck rfl rfl | exact step_nilCheck_elt rfl rfl)
    apply ChainL.of (some 54) rfl rfl
    case h => (first | exact w_fieldAddr tab rfl rfl rfl rfl (by decide) rfl rfl | exact w_fieldAddr_elt tab rfl rfl rfl rfl (by decide) rfl rfl)
    apply ChainL.of (some 55) rfl rfl
    case h => (first | exact w_load tab rfl rfl rfl rfl rfl rfl rfl | exact w_load tab rfl rfl rfl rfl rfl (by assumption) rfl | exact w_load_elt tab rfl rfl rfl rfl rfl | exact w_loads tab rfl rfl rfl rfl rfl rfl rfl rfl | exact w_load_tab tab rfl rfl rfl rfl (.head _) (by kernel_rfl) | exact w_loads_elt tab rfl rfl rfl rfl rfl rfl)
    apply ChainL.of (some 56) rfl rfl
    case h => (first | exact w_index_own tab rfl rfl rfl rfl rfl rfl rfl rfl (by omega) (by omega) rfl | exact w_index_lst tab rfl rfl rfl rfl rfl rfl rfl (by omega) (by assumption))
    apply ChainL.of (some 57) rfl rfl
    case h => (first | exact w_fieldAddr tab rfl rfl rfl rfl (by decide) rfl rfl | exact w_fieldAddr_elt tab rfl rfl rfl rfl (by decide) rfl rfl)
    apply ChainL.of (some 58) rfl rfl
    case h => (first | exact w_load tab rfl rfl rfl rfl rfl rfl rfl | exact w_load tab rfl rfl rfl rfl rfl (by assumption) rfl | exact w_load_elt tab rfl rfl rfl rfl rfl | exact w_loads tab rfl rfl rfl rfl rfl rfl rfl rfl | exact w_load_tab tab rfl rfl rfl rfl (.head _) (by kernel_rfl) | exact w_loads_elt tab rfl rfl rfl rfl rfl rfl)
    apply ChainL.of (some 59) rfl rfl
    case h => exact step_move rfl
    apply ChainL.of (some 60) rfl rfl
    case h => (first | exact w_call f0 [] [5] [] Try.func28 rfl (by decide +kernel) rfl rfl .nil (by decide) (map1 (ints_ren _ _)) rfl rfl (all1 (ints_lt _ _)) rfl (all1 (ints_lt _ _)) rfl rfl rfl rfl (zip1 (os_ints _ _)) | exact w_call f1 [] [5] [] Try.func28 rfl (by decide +kernel) rfl rfl .nil (by decide) (map1 (ints_ren _ _)) rfl rfl (all1 (ints_lt _ _)) rfl (all1 (ints_lt _ _)) rfl rfl rfl rfl (zip1 (os_ints _ _)) | exact w_call f2 [] [5] [] Try.func28 rfl (by decide +kernel) rfl rfl .nil (by decide) (map1 (ints_ren _ _)) rfl rfl (all1 (ints_lt _ _)) rfl (all1 (ints_lt _ _)) rfl rfl rfl rfl (zip1 (os_ints _ _)) | exact w_call f3 [] [5] [] Try.func28 rfl (by decide +kernel) rfl rfl .nil (by decide) (map1 (ints_ren _ _)) rfl rfl (all1 (ints_lt _ _)) rfl (all1 (ints_lt _ _)) rfl rfl rfl rfl (zip1 (os_ints _ _)))
    apply ChainL.of (some 61) rfl rfl
    case h => (first | exact w_call s0 [] [0, 1, 2, 3, 4, 5] [] Try.func21 rfl (by decide +kernel) rfl rfl .nil (by decide) (map6 rfl (strs_ren _ _) (bools_ren _ _) rfl rfl (ints_ren _ _)) rfl rfl (all6 rfl (strs_lt _ _) (bools_lt _ _) rfl rfl (ints_lt _ _)) rfl (all6 rfl (strs_lt _ _) (bools_lt _ _) rfl rfl (ints_lt _ _)) rfl rfl rfl rfl (zip6 rfl (os_strs _ _) (os_bools _ _) rfl rfl (os_ints _ _)) | exact w_call s1 [] [0, 1, 2, 3, 4, 5] [] Try.func21 rfl (by decide +kernel) rfl rfl .nil (by decide) (map6 rfl (strs_ren _ _) (bools_ren _ _) rfl rfl (ints_ren _ _)) rfl rfl (all6 rfl (strs_lt _ _) (bools_lt _ _) rfl rfl (ints_lt _ _)) rfl (all6 rfl (strs_lt _ _) (bools_lt _ _) rfl rfl (ints_lt _ _)) rfl rfl rfl rfl (zip6 rfl (os_strs _ _) (os_bools _ _) rfl rfl (os_ints _ _)) | exact w_call s2 [] [0, 1, 2, 3, 4, 5] [] Try.func21 rfl (by decide +kernel) rfl rfl .nil (by decide) (map6 rfl (strs_ren _ _) (bools_ren _ _) rfl rfl (ints_ren _ _)) rfl rfl (all6 rfl (strs_lt _ _) (bools_lt _ _) rfl rfl (ints_lt _ _)) rfl (all6 rfl (strs_lt _ _) (bools_lt _ _) rfl rfl (ints_lt _ _)) rfl rfl rfl rfl (zip6 rfl (os_strs _ _) (os_bools _ _) rfl rfl (os_ints _ _)) | exact w_call s3 [] [0, 1, 2, 3, 4, 5] [] Try.func21 rfl (by decide +kernel) rfl rfl .nil (by decide) (map6 rfl (strs_ren _ _) (bools_ren _ _) rfl rfl (ints_ren _ _)) rfl rfl (all6 rfl (strs_lt _ _) (bools_lt _ _) rfl rfl (ints_lt _ _)) rfl (all6 rfl (strs_lt _ _) (bools_lt _ _) rfl rfl (ints_lt _ _)) rfl rfl rfl rfl (zip6 rfl (os_strs _ _) (os_bools _ _) rfl rfl (os_ints _ _)))
    exact .nil
  case hB => decide +kernel
  case hI => kernel_rfl
  show Cwp _ _ _ _
  apply one_region
  case hc =>
    apply ChainL.of (some 62) rfl rfl
    case h => (first | exact w_bin rfl rfl rfl (add_i64 rfl (by omega) (by omega)) | exact w_bin rfl rfl rfl rfl)
    apply ChainL.of (some 45) rfl rfl
    case h => exact step_move rfl
    exact .nil
  show LoopN _ _ _ _ _
  refine loop_round ?_
  refine cwp_seq ?_
  apply one_region
  case hc =>
    apply ChainL.of (some 46) rfl rfl
    case h => (first | exact w_bin rfl rfl rfl (lss_t (by omega)) | exact w_bin rfl rfl rfl (lss_f (by omega)) | exact w_bin rfl rfl rfl rfl)
    exact .nil
  show Cwp _ _ _ _
  refine cwp_seq ?_
  refine cond_t (by first | rfl | kernel_rfl) ?_
  refine cwp_skip ?_
  show Cwp _ _ _ _
  refine cwp_seq ?_
  refine cwp_block ?_
  refine cwp_seq ?_
  apply one_region
  case hc =>
    apply ChainL.of (some 47) rfl rfl
    case h => exact step_move rfl
    apply ChainL.of (some 48) rfl rfl
    case h => (first | exact w_index_own tab rfl rfl rfl rfl rfl rfl rfl rfl (by omega) (by omega) rfl | exact w_index_lst tab rfl rfl rfl rfl rfl rfl rfl (by omega) (by assumption))
    apply ChainL.of (some 49) rfl rfl
    case h => (first | exact w_load tab rfl rfl rfl rfl rfl rfl rfl | exact w_load tab rfl rfl rfl rfl rfl (by assumption) rfl | exact w_load_elt tab rfl rfl rfl rfl rfl | exact w_loads tab rfl rfl rfl rfl rfl rfl rfl rfl | exact w_load_tab tab rfl rfl rfl rfl (.head _) (by kernel_rfl) | exact w_loads_elt tab rfl rfl rfl rfl rfl rfl)
    apply ChainL.of (some 4) rfl rfl
    case h => exact w_alloc tab rfl rfl 119 rfl
    apply ChainL.of (some 3) rfl rfl
    case h => exact step_assign rfl
    apply ChainL.of none rfl rfl
    case h => (first | exact w_store tab rfl rfl rfl rfl rfl rfl rfl rfl rfl (Nat.le_of_ble_eq_true rfl) rfl rfl | exact w_store tab rfl rfl rfl rfl rfl (by assumption) rfl rfl rfl (Nat.le_of_ble_eq_true rfl) rfl rfl)
    exact .nil
  show Cwp _ _ _ _
  apply one_region_draw [0, 0, 0, 4, 12, 28, 60, 124, 252, 0, 1020, 2047] rfl
  case hc =>
    apply ChainL.of (some 50) rfl rfl
    case h => exact step_move rfl
    apply ChainL.of (some 51) rfl rfl
    case h => (first | exact w_load tab rfl rfl rfl rfl rfl rfl rfl | exact w_load tab rfl rfl rfl rfl rfl (by assumption) rfl | exact w_load_elt tab rfl rfl rfl rfl rfl | exact w_loads tab rfl rfl rfl rfl rfl rfl rfl rfl | exact w_load_tab tab rfl rfl rfl rfl (.head _) (by kernel_rfl) | exact w_loads_elt tab rfl rfl rfl rfl rfl rfl)
    apply ChainL.of (some 52) rfl rfl
    case h => exact step_move rfl
    apply ChainL.of (some 53) rfl rfl
    case h => (first | exact step_nilCheck rfl rfl | exact step_nilCheck_elt rfl rfl)
    apply ChainL.of (some 54) rfl rfl
    case h => (first | exact w_fieldAddr tab rfl rfl rfl rfl (by decide) rfl rfl | exact w_fieldAddr_elt tab rfl rfl rfl rfl (by decide) rfl rfl)
    apply ChainL.of (some 55) rfl rfl
    case h => (first | exact w_load tab rfl rfl rfl rfl rfl rfl rfl | exact w_load tab rfl rfl rfl rfl rfl (by assumption) rfl | exact w_load_elt tab rfl rfl rfl rfl rfl | exact w_loads tab rfl rfl rfl rfl rfl rfl rfl rfl | exact w_load_tab tab rfl rfl rfl rfl (.head _) (by kernel_rfl) | exact w_loads_elt tab rfl rfl rfl rfl rfl rfl)
    apply ChainL.of (some 56) rfl rfl
    case h => (first | exact w_index_own tab rfl rfl rfl rfl rfl rfl rfl rfl (by omega) (by omega) rfl | exact w_index_lst tab rfl rfl rfl rfl rfl rfl rfl (by omega) (by assumption))
    apply ChainL.of (some 57) rfl rfl
    case h => (first | exact w_fieldAddr tab rfl rfl rfl rfl (by decide) rfl rfl | exact w_fieldAddr_elt tab rfl rfl rfl rfl (by decide) rfl rfl)
    apply ChainL.of (some 58) rfl rfl
    case h => (first | exact w_load tab rfl rfl rfl rfl rfl rfl rfl | exact w_load tab rfl rfl rfl rfl rfl (by assumption) rfl | exact w_load_elt tab rfl rfl rfl rfl rfl | exact w_loads tab rfl rfl rfl rfl rfl rfl rfl rfl | exact w_load_tab tab rfl rfl rfl rfl (.head _) (by kernel_rfl) | exact w_loads_elt tab rfl rfl rfl rfl rfl rfl)
    apply ChainL.of (some 59) rfl rfl
    case h => exact step_move rfl
    apply ChainL.of (some 60) rfl rfl
    case h => (first | exact w_call f0 [] [5] [] Try.func28 rfl (by decide +kernel) rfl rfl .nil (by decide) (map1 (ints_ren _ _)) rfl rfl (all1 (ints_lt _ _)) rfl (all1 (ints_lt _ _)) rfl rfl rfl rfl (zip1 (os_ints _ _)) | exact w_call f1 [] [5] [] Try.func28 rfl (by decide +kernel) rfl rfl .nil (by decide) (map1 (ints_ren _ _)) rfl rfl (all1 (ints_lt _ _)) rfl (all1 (ints_lt _ _)) rfl rfl rfl rfl (zip1 (os_ints _ _)) | exact w_call f2 [] [5] [] Try.func28 rfl (by decide +kernel) rfl rfl .nil (by decide) (map1 (ints_ren _ _)) rfl rfl (all1 (ints_lt _ _)) rfl (all1 (ints_lt _ _)) rfl rfl rfl rfl (zip1 (os_ints _ _)) | exact w_call f3 [] [5] [] Try.func28 rfl (by decide +kernel) rfl rfl .nil (by decide) (map1 (ints_ren _ _)) rfl rfl (all1 (ints_lt _ _)) rfl (all1 (ints_lt _ _)) rfl rfl rfl rfl (zip1 (os_ints _ _)))
    apply ChainL.of (some 61) rfl rfl
    case h => (first | exact w_call s0 [] [0, 1, 2, 3, 4, 5] [] Try.func21 rfl (by decide +kernel) rfl rfl .nil (by decide) (map6 rfl (strs_ren _ _) (bools_ren _ _) rfl rfl (ints_ren _ _)) rfl rfl (all6 rfl (strs_lt _ _) (bools_lt _ _) rfl rfl (ints_lt _ _)) rfl (all6 rfl (strs_lt _ _) (bools_lt _ _) rfl rfl (ints_lt _ _)) rfl rfl rfl rfl (zip6 rfl (os_strs _ _) (os_bools _ _) rfl rfl (os_ints _ _)) | exact w_call s1 [] [0, 1, 2, 3, 4, 5] [] Try.func21 rfl (by decide +kernel) rfl rfl .nil (by decide) (map6 rfl (strs_ren _ _) (bools_ren _ _) rfl rfl (ints_ren _ _)) rfl rfl (all6 rfl (strs_lt _ _) (bools_lt _ _) rfl rfl (ints_lt _ _)) rfl (all6 rfl (strs_lt _ _) (bools_lt _ _) rfl rfl (ints_lt _ _)) rfl rfl rfl rfl (zip6 rfl (os_strs _ _) (os_bools _ _) rfl rfl (os_ints _ _)) | exact w_call s2 [] [0, 1, 2, 3, 4, 5] [] Try.func21 rfl (by decide +kernel) rfl rfl .nil (by decide) (map6 rfl (strs_ren _ _) (bools_ren _ _) rfl rfl (ints_ren _ _)) rfl rfl (all6 rfl (strs_lt _ _) (bools_lt _ _) rfl rfl (ints_lt _ _)) rfl (all6 rfl (strs_lt _ _) (bools_lt _ _) rfl rfl (ints_lt _ _)) rfl rfl rfl rfl (zip6 rfl (os_strs _ _) (os_bools _ _) rfl rfl (os_ints _ _)) | exact w_call s3 [] [0, 1, 2, 3, 4, 5] [] Try.func21 rfl (by decide +kernel) rfl rfl .nil (by decide) (map6 rfl (strs_ren _ _) (bools_ren _ _) rfl rfl (ints_ren _ _)) rfl rfl (all6 rfl (strs_lt _ _) (bools_lt _ _) rfl rfl (ints_lt _ _)) rfl (all6 rfl (strs_lt _ _) (bools_lt _ _) rfl rfl (ints_lt _ _)) rfl rfl rfl rfl (zip6 rfl (os_strs _ _) (os_bools _ _) rfl rfl (os_ints _ _)))
    exact .nil
  case hB => decide +kernel
  case hI => kernel_rfl
  show Cwp _ _ _ _
  apply one_region
  case hc =>
    apply ChainL.of (some 62) rfl rfl
    case h => (first | exact w_bin rfl rfl rfl (add_i64 rfl (by omega) (by omega)) | exact w_bin rfl rfl rfl rfl)
    apply ChainL.of (some 45) rfl rfl
    case h => exact step_move rfl
    exact .nil
  show LoopN _ _ _ _ _
  refine loop_round ?_
  refine cwp_seq ?_
  apply one_region
  case hc =>
    apply ChainL.of (some 46) rfl rfl
    case h => (first | exact w_bin rfl rfl rfl (lss_t (by omega)) | exact w_bin rfl rfl rfl (lss_f (by omega)) | exact w_bin rfl rfl rfl rfl)
    exact .nil
  show Cwp _ _ _ _
  refine cwp_seq ?_
  refine cond_f (by first | rfl | kernel_rfl) ?_
  refine cwp_exit ?_
  show Cwp _ _ _ _
  refine cwp_seq ?_
  apply one_region_draw [0, 0, 0, 0, 8, 24, 56, 120, 121, 377, 889, 2043, 4091, 8187, 16383, 32767, 65535] rfl
  case hc =>
    apply ChainL.of (some 63) rfl rfl
    case h => exact step_move rfl
    apply ChainL.of (some 64) rfl rfl
    case h => exact step_move rfl
    apply ChainL.of (some 65) rfl rfl
    case h => exact step_move rfl
    apply ChainL.of (some 66) rfl rfl
    case h => exact step_move rfl
    apply ChainL.of (some 67) rfl rfl
    case h => (first | exact step_nilCheck rfl rfl | exact step_nilCheck_elt rfl rfl)
    apply ChainL.of (some 68) rfl rfl
    case h => (first | exact w_fieldAddr tab rfl rfl rfl rfl (by decide) rfl rfl | exact w_fieldAddr_elt tab rfl rfl rfl rfl (by decide) rfl rfl)
    apply ChainL.of (some 69) rfl rfl
    case h => (first | exact w_load tab rfl rfl rfl rfl rfl rfl rfl | exact w_load tab rfl rfl rfl rfl rfl (by assumption) rfl | exact w_load_elt tab rfl rfl rfl rfl rfl | exact w_loads tab rfl rfl rfl rfl rfl rfl rfl rfl | exact w_load_tab tab rfl rfl rfl rfl (.head _) (by kernel_rfl) | exact w_loads_elt tab rfl rfl rfl rfl rfl rfl)
    apply ChainL.of (some 70) rfl rfl
    case h => exact w_cut_own_none (lo := some (.const (.int .i64 1))) (hi := none) tab rfl rfl rfl rfl rfl 1 ⟨.i64, rfl⟩ rfl (Nat.le_refl 1)
    apply ChainL.of (some 71) rfl rfl
    case h => (first | exact step_nilCheck rfl rfl | exact step_nilCheck_elt rfl rfl)
    apply ChainL.of (some 72) rfl rfl
    case h => (first | exact w_fieldAddr tab rfl rfl rfl rfl (by decide) rfl rfl | exact w_fieldAddr_elt tab rfl rfl rfl rfl (by decide) rfl rfl)
    apply ChainL.of none rfl rfl
    case h => (first | exact w_store tab rfl rfl rfl rfl rfl rfl rfl rfl rfl (Nat.le_of_ble_eq_true rfl) rfl rfl | exact w_store tab rfl rfl rfl rfl rfl (by assumption) rfl rfl rfl (Nat.le_of_ble_eq_true rfl) rfl rfl)
    apply ChainL.of (some 73) rfl rfl
    case h => (first | exact step_nilCheck rfl rfl | exact step_nilCheck_elt rfl rfl)
    apply ChainL.of (some 74) rfl rfl
    case h => (first | exact w_fieldAddr tab rfl rfl rfl rfl (by decide) rfl rfl | exact w_fieldAddr_elt tab rfl rfl rfl rfl (by decide) rfl rfl)
    apply ChainL.of none rfl rfl
    case h => (first | exact w_store tab rfl rfl rfl rfl rfl rfl rfl rfl rfl (Nat.le_of_ble_eq_true rfl) rfl rfl | exact w_store tab rfl rfl rfl rfl rfl (by assumption) rfl rfl rfl (Nat.le_of_ble_eq_true rfl) rfl rfl)
    apply ChainL.of (some 75) rfl rfl
    case h => (first | exact step_nilCheck rfl rfl | exact step_nilCheck_elt rfl rfl)
    apply ChainL.of (some 76) rfl rfl
    case h => (first | exact w_fieldAddr tab rfl rfl rfl rfl (by decide) rfl rfl | exact w_fieldAddr_elt tab rfl rfl rfl rfl (by decide) rfl rfl)
    apply ChainL.of none rfl rfl
    case h => (first | exact w_store tab rfl rfl rfl rfl rfl rfl rfl rfl rfl (Nat.le_of_ble_eq_true rfl) rfl rfl | exact w_store tab rfl rfl rfl rfl rfl (by assumption) rfl rfl rfl (Nat.le_of_ble_eq_true rfl) rfl rfl)
    exact .nil
  case hB => decide +kernel
  case hI => kernel_rfl
  show Cwp _ _ _ _
  refine cwp_seq ?_
  apply one_region
  case hc =>
    apply ChainL.of (some 77) rfl rfl
    case h => exact step_move rfl
    apply ChainL.of (some 78) rfl rfl
    case h => (first | exact step_nilCheck rfl rfl | exact step_nilCheck_elt rfl rfl)
    apply ChainL.of (some 79) rfl rfl
    case h => (first | exact w_fieldAddr tab rfl rfl rfl rfl (by decide) rfl rfl | exact w_fieldAddr_elt tab rfl rfl rfl rfl (by decide) rfl rfl)
    apply ChainL.of (some 80) rfl rfl
    case h => (first | exact w_load tab rfl rfl rfl rfl rfl rfl rfl | exact w_load tab rfl rfl rfl rfl rfl (by assumption) rfl | exact w_load_elt tab rfl rfl rfl rfl rfl | exact w_loads tab rfl rfl rfl rfl rfl rfl rfl rfl | exact w_load_tab tab rfl rfl rfl rfl (.head _) (by kernel_rfl) | exact w_loads_elt tab rfl rfl rfl rfl rfl rfl)
    apply ChainL.of (some 81) rfl rfl
    case h => (first | exact w_bin rfl rfl rfl (add_i64 rfl (by omega) (by omega)) | exact w_bin rfl rfl rfl rfl)
    apply ChainL.of (some 82) rfl rfl
    case h => (first | exact step_nilCheck rfl rfl | exact step_nilCheck_elt rfl rfl)
    apply ChainL.of (some 83) rfl rfl
    case h => (first | exact w_fieldAddr tab rfl rfl rfl rfl (by decide) rfl rfl | exact w_fieldAddr_elt tab rfl rfl rfl rfl (by decide) rfl rfl)
    apply ChainL.of none rfl rfl
    case h => (first | exact w_store tab rfl rfl rfl rfl rfl rfl rfl rfl rfl (Nat.le_of_ble_eq_true rfl) rfl rfl | exact w_store tab rfl rfl rfl rfl rfl (by assumption) rfl rfl rfl (Nat.le_of_ble_eq_true rfl) rfl rfl)
    exact .nil
  show Cwp _ _ _ _
  refine cwp_seq ?_
  apply one_region
  case hc =>
    apply ChainL.of (some 2) rfl rfl
    case h => exact step_assign rfl
    exact .nil
  show Cwp _ _ _ _
  refine cwp_ret ?_
  exact ⟨.inl rfl, resH_one rfl rfl, objs_ok rfl⟩
end Go.Proofs.Ytcbbpidnocgoiaa.Dk


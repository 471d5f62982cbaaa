/- Disks: acts, and writes. -/
import Derived.Test.YtcbbpidnocgoiaaDkD
namespace Go.Proofs.Ytcbbpidnocgoiaa.Dk
open Go Go.RowKit Go.Proofs.Ytcbbpidnocgoiaa.Eng
set_option linter.unusedVariables false
set_option linter.unusedSimpArgs false
set_option maxRecDepth 20000
def cutO (a : Int) (fz : SV) : Ob := ⟨2, [[.v (.int .i64 a), fz]], false⟩
def full (t : ByteArray) : ByteArray := t ++ strOfNums (List.replicate (256 - t.size) 0)
theorem strs_ren (ρ : Nat → Nat) (D : List ByteArray) : (strs D).ren ρ = strs D := by
  show Ob.mk 1 (renR ρ (D.map fun s => [.v (.string s)])) false = _
  rw [closedR_ren ρ (closedR_map _ (fun x => rfl) D)]
  rfl
theorem bools_ren (ρ : Nat → Nat) (D : List Bool) : (bools D).ren ρ = bools D := by
  show Ob.mk 1 (renR ρ (D.map fun s => [.v (.bool s)])) false = _
  rw [closedR_ren ρ (closedR_map _ (fun x => rfl) D)]
  rfl
theorem ints_ren (ρ : Nat → Nat) (D : List Int) : (ints D).ren ρ = ints D := by
  show Ob.mk 1 (renR ρ (D.map fun s => [.v (.int .i64 s)])) false = _
  rw [closedR_ren ρ (closedR_map _ (fun x => rfl) D)]
  rfl
theorem ints_lt (m : Nat) (D : List Int) : ltR m (ints D).rows = true := closedR_lt m (closedR_map _ (fun x => rfl) D)
theorem actok_5 (m : Nat) (n a fails : Int) (fz : SV) (h0 : 0 ≤ n) (h1 : n + 1 ≤ a) (h2 : a ≤ 100) (D : List ByteArray) (T : List Bool) (W : Ob) : HCall Try.prog 20 [dsk (.own 3 0 m) (.own 4 0 1) n n fails false, strs D, bools T, W, cutO a fz] [.ref 0 0 0]
    [.ob (dsk (.own 3 0 m) (.own 4 0 1) (n + 1) (n + 1) fails false), .ob (strs D), .ob (bools T), .ob W, .ob (cutO a fz)] (.v (.bool false)) := by
  refine HCall.of Try.func20 rfl (by decide +kernel) (Nat.le_of_ble_eq_true rfl) ?_
  refine cwp_seq ?_
  apply one_region
  case hc =>
    apply ChainL.of (some 2) rfl rfl
    case h => exact step_assign rfl
    exact .nil
  show Cwp _ _ _ _
  refine cwp_seq ?_
  apply one_region
  case hc =>
    apply ChainL.of (some 5) rfl rfl
    case h => exact step_move rfl
    apply ChainL.of (some 6) rfl rfl
    case h => (first | exact step_nilCheck rfl rfl | exact step_nilCheck_elt rfl rfl)
    apply ChainL.of (some 7) rfl rfl
    case h => (first | exact w_fieldAddr tab rfl rfl rfl rfl (by decide) rfl rfl | exact w_fieldAddr_elt tab rfl rfl rfl rfl (by decide) rfl rfl)
    apply ChainL.of (some 8) rfl rfl
    case h => (first | exact w_load tab rfl rfl rfl rfl rfl rfl rfl | exact w_load tab rfl rfl rfl rfl rfl (by assumption) rfl | exact w_load_elt tab rfl rfl rfl rfl rfl | exact w_loads tab rfl rfl rfl rfl rfl rfl rfl rfl | exact w_load_tab tab rfl rfl rfl rfl (.head _) (by kernel_rfl) | exact w_loads_elt tab rfl rfl rfl rfl rfl rfl)
    apply ChainL.of (some 9) rfl rfl
    case h => (first | exact w_bin rfl rfl rfl (add_i64 rfl (by omega) (by omega)) | exact w_bin rfl rfl rfl rfl)
    apply ChainL.of (some 10) rfl rfl
    case h => (first | exact step_nilCheck rfl rfl | exact step_nilCheck_elt rfl rfl)
    apply ChainL.of (some 11) rfl rfl
    case h => (first | exact w_fieldAddr tab rfl rfl rfl rfl (by decide) rfl rfl | exact w_fieldAddr_elt tab rfl rfl rfl rfl (by decide) rfl rfl)
    apply ChainL.of none rfl rfl
    case h => (first | exact w_store tab rfl rfl rfl rfl rfl rfl rfl rfl rfl (Nat.le_of_ble_eq_true rfl) rfl rfl | exact w_store tab rfl rfl rfl rfl rfl (by assumption) rfl rfl rfl (Nat.le_of_ble_eq_true rfl) rfl rfl)
    exact .nil
  show Cwp _ _ _ _
  refine cwp_seq ?_
  apply one_region
  case hc =>
    apply ChainL.of (some 12) rfl rfl
    case h => exact step_move rfl
    apply ChainL.of (some 13) rfl rfl
    case h => (first | exact step_nilCheck rfl rfl | exact step_nilCheck_elt rfl rfl)
    apply ChainL.of (some 14) rfl rfl
    case h => (first | exact w_fieldAddr tab rfl rfl rfl rfl (by decide) rfl rfl | exact w_fieldAddr_elt tab rfl rfl rfl rfl (by decide) rfl rfl)
    apply ChainL.of (some 15) rfl rfl
    case h => (first | exact w_load tab rfl rfl rfl rfl rfl rfl rfl | exact w_load tab rfl rfl rfl rfl rfl (by assumption) rfl | exact w_load_elt tab rfl rfl rfl rfl rfl | exact w_loads tab rfl rfl rfl rfl rfl rfl rfl rfl | exact w_load_tab tab rfl rfl rfl rfl (.head _) (by kernel_rfl) | exact w_loads_elt tab rfl rfl rfl rfl rfl rfl)
    apply ChainL.of (some 16) rfl rfl
    case h => (first | exact w_bin rfl rfl rfl (add_i64 rfl (by omega) (by omega)) | exact w_bin rfl rfl rfl rfl)
    apply ChainL.of (some 17) rfl rfl
    case h => (first | exact step_nilCheck rfl rfl | exact step_nilCheck_elt rfl rfl)
    apply ChainL.of (some 18) rfl rfl
    case h => (first | exact w_fieldAddr tab rfl rfl rfl rfl (by decide) rfl rfl | exact w_fieldAddr_elt tab rfl rfl rfl rfl (by decide) rfl rfl)
    apply ChainL.of none rfl rfl
    case h => (first | exact w_store tab rfl rfl rfl rfl rfl rfl rfl rfl rfl (Nat.le_of_ble_eq_true rfl) rfl rfl | exact w_store tab rfl rfl rfl rfl rfl (by assumption) rfl rfl rfl (Nat.le_of_ble_eq_true rfl) rfl rfl)
    exact .nil
  show Cwp _ _ _ _
  refine cwp_seq ?_
  refine cwp_seq ?_
  apply one_region_draw [0, 1, 3, 7, 15, 31, 63, 127, 255, 511, 1023, 127, 2175, 6271, 14463, 30847, 63615, 129151, 260223, 524287, 1048575] rfl
  case hc =>
    apply ChainL.of (some 19) rfl rfl
    case h => exact step_move rfl
    apply ChainL.of (some 20) rfl rfl
    case h => (first | exact step_nilCheck rfl rfl | exact step_nilCheck_elt rfl rfl)
    apply ChainL.of (some 21) rfl rfl
    case h => (first | exact w_fieldAddr tab rfl rfl rfl rfl (by decide) rfl rfl | exact w_fieldAddr_elt tab rfl rfl rfl rfl (by decide) rfl rfl)
    apply ChainL.of (some 22) rfl rfl
    case h => (first | exact w_load tab rfl rfl rfl rfl rfl rfl rfl | exact w_load tab rfl rfl rfl rfl rfl (by assumption) rfl | exact w_load_elt tab rfl rfl rfl rfl rfl | exact w_loads tab rfl rfl rfl rfl rfl rfl rfl rfl | exact w_load_tab tab rfl rfl rfl rfl (.head _) (by kernel_rfl) | exact w_loads_elt tab rfl rfl rfl rfl rfl rfl)
    apply ChainL.of (some 23) rfl rfl
    case h => exact w_len tab rfl rfl rfl (.own rfl rfl rfl) (n := 1) (by kernel_rfl)
    apply ChainL.of (some 24) rfl rfl
    case h => (first | exact w_bin rfl rfl rfl (eql_t (by omega)) | exact w_bin rfl rfl rfl (eql_f (by omega)) | exact w_bin rfl rfl rfl rfl)
    apply ChainL.of (some 25) rfl rfl
    case h => exact step_move rfl
    first
    | apply ChainL.off (some 26) 6 25 false rfl rfl rfl rfl
    | apply ChainL.on (some 26) 6 25 false rfl rfl rfl rfl
      case h => exact step_move rfl
    first
    | apply ChainL.off (some 27) 6 25 false rfl rfl rfl rfl
    | apply ChainL.on (some 27) 6 25 false rfl rfl rfl rfl
      case h => (first | exact step_nilCheck rfl rfl | exact step_nilCheck_elt rfl rfl)
    first
    | apply ChainL.off (some 28) 6 25 false rfl rfl rfl rfl
    | apply ChainL.on (some 28) 6 25 false rfl rfl rfl rfl
      case h => (first | exact w_fieldAddr tab rfl rfl rfl rfl (by decide) rfl rfl | exact w_fieldAddr_elt tab rfl rfl rfl rfl (by decide) rfl rfl)
    first
    | apply ChainL.off (some 29) 6 25 false rfl rfl rfl rfl
    | apply ChainL.on (some 29) 6 25 false rfl rfl rfl rfl
      case h => (first | exact w_load tab rfl rfl rfl rfl rfl rfl rfl | exact w_load tab rfl rfl rfl rfl rfl (by assumption) rfl | exact w_load_elt tab rfl rfl rfl rfl rfl | exact w_loads tab rfl rfl rfl rfl rfl rfl rfl rfl | exact w_load_tab tab rfl rfl rfl rfl (.head _) (by kernel_rfl) | exact w_loads_elt tab rfl rfl rfl rfl rfl rfl)
    first
    | apply ChainL.off (some 30) 6 25 false rfl rfl rfl rfl
    | apply ChainL.on (some 30) 6 25 false rfl rfl rfl rfl
      case h => exact step_move rfl
    first
    | apply ChainL.off (some 31) 6 25 false rfl rfl rfl rfl
    | apply ChainL.on (some 31) 6 25 false rfl rfl rfl rfl
      case h => (first | exact step_nilCheck rfl rfl | exact step_nilCheck_elt rfl rfl)
    first
    | apply ChainL.off (some 32) 6 25 false rfl rfl rfl rfl
    | apply ChainL.on (some 32) 6 25 false rfl rfl rfl rfl
      case h => (first | exact w_fieldAddr tab rfl rfl rfl rfl (by decide) rfl rfl | exact w_fieldAddr_elt tab rfl rfl rfl rfl (by decide) rfl rfl)
    first
    | apply ChainL.off (some 33) 6 25 false rfl rfl rfl rfl
    | apply ChainL.on (some 33) 6 25 false rfl rfl rfl rfl
      case h => (first | exact w_load tab rfl rfl rfl rfl rfl rfl rfl | exact w_load tab rfl rfl rfl rfl rfl (by assumption) rfl | exact w_load_elt tab rfl rfl rfl rfl rfl | exact w_loads tab rfl rfl rfl rfl rfl rfl rfl rfl | exact w_load_tab tab rfl rfl rfl rfl (.head _) (by kernel_rfl) | exact w_loads_elt tab rfl rfl rfl rfl rfl rfl)
    first
    | apply ChainL.off (some 34) 6 25 false rfl rfl rfl rfl
    | apply ChainL.on (some 34) 6 25 false rfl rfl rfl rfl
      case h => (first | exact w_index_own tab rfl rfl rfl rfl rfl rfl rfl rfl (by omega) (by omega) rfl | exact w_index_lst tab rfl rfl rfl rfl rfl rfl rfl (by omega) (by assumption))
    first
    | apply ChainL.off (some 35) 6 25 false rfl rfl rfl rfl
    | apply ChainL.on (some 35) 6 25 false rfl rfl rfl rfl
      case h => (first | exact w_fieldAddr tab rfl rfl rfl rfl (by decide) rfl rfl | exact w_fieldAddr_elt tab rfl rfl rfl rfl (by decide) rfl rfl)
    first
    | apply ChainL.off (some 36) 6 25 false rfl rfl rfl rfl
    | apply ChainL.on (some 36) 6 25 false rfl rfl rfl rfl
      case h => (first | exact w_load tab rfl rfl rfl rfl rfl rfl rfl | exact w_load tab rfl rfl rfl rfl rfl (by assumption) rfl | exact w_load_elt tab rfl rfl rfl rfl rfl | exact w_loads tab rfl rfl rfl rfl rfl rfl rfl rfl | exact w_load_tab tab rfl rfl rfl rfl (.head _) (by kernel_rfl) | exact w_loads_elt tab rfl rfl rfl rfl rfl rfl)
    first
    | apply ChainL.off (some 37) 6 25 false rfl rfl rfl rfl
    | apply ChainL.on (some 37) 6 25 false rfl rfl rfl rfl
      case h => (first | exact w_max rfl rfl rfl (if_pos (by omega)) | exact w_max rfl rfl rfl (if_neg (by omega)) | exact w_max rfl rfl rfl rfl)
    first
    | apply ChainL.off (some 38) 6 25 false rfl rfl rfl rfl
    | apply ChainL.on (some 38) 6 25 false rfl rfl rfl rfl
      case h => (first | exact w_bin rfl rfl rfl (leq_t (by omega)) | exact w_bin rfl rfl rfl (leq_f (by omega)) | exact w_bin rfl rfl rfl rfl)
    apply ChainL.of (some 39) rfl rfl
    case h => exact step_pick rfl rfl
    exact .nil
  case hB => decide +kernel
  case hI => kernel_rfl
  show Cwp _ _ _ _
  refine cond_t (by first | rfl | kernel_rfl) ?_
  refine cwp_seq ?_
  apply one_region
  case hc =>
    apply ChainL.of (some 2) rfl rfl
    case h => exact step_assign rfl
    exact .nil
  show Cwp _ _ _ _
  refine cwp_ret ?_
  exact ⟨.inl rfl, resH_one rfl rfl, objs_ok rfl⟩
theorem actok_6 (m : Nat) (n a fails : Int) (fz : SV) (h0 : 0 ≤ n) (h1 : n + 1 ≤ a) (h2 : a ≤ 100) (D : List ByteArray) (T : List Bool) (W : Ob) (X : Ob) : HCall Try.prog 20 [dsk (.own 3 0 m) (.own 4 0 1) n n fails false, strs D, bools T, W, cutO a fz, X] [.ref 0 0 0]
    [.ob (dsk (.own 3 0 m) (.own 4 0 1) (n + 1) (n + 1) fails false), .ob (strs D), .ob (bools T), .ob W, .ob (cutO a fz), .ob X] (.v (.bool false)) := by
  refine HCall.of Try.func20 rfl (by decide +kernel) (Nat.le_of_ble_eq_true rfl) ?_
  refine cwp_seq ?_
  apply one_region
  case hc =>
    apply ChainL.of (some 2) rfl rfl
    case h => exact step_assign rfl
    exact .nil
  show Cwp _ _ _ _
  refine cwp_seq ?_
  apply one_region
  case hc =>
    apply ChainL.of (some 5) rfl rfl
    case h => exact step_move rfl
    apply ChainL.of (some 6) rfl rfl
    case h => (first | exact step_nilCheck rfl rfl | exact step_nilCheck_elt rfl rfl)
    apply ChainL.of (some 7) rfl rfl
    case h => (first | exact w_fieldAddr tab rfl rfl rfl rfl (by decide) rfl rfl | exact w_fieldAddr_elt tab rfl rfl rfl rfl (by decide) rfl rfl)
    apply ChainL.of (some 8) rfl rfl
    case h => (first | exact w_load tab rfl rfl rfl rfl rfl rfl rfl | exact w_load tab rfl rfl rfl rfl rfl (by assumption) rfl | exact w_load_elt tab rfl rfl rfl rfl rfl | exact w_loads tab rfl rfl rfl rfl rfl rfl rfl rfl | exact w_load_tab tab rfl rfl rfl rfl (.head _) (by kernel_rfl) | exact w_loads_elt tab rfl rfl rfl rfl rfl rfl)
    apply ChainL.of (some 9) rfl rfl
    case h => (first | exact w_bin rfl rfl rfl (add_i64 rfl (by omega) (by omega)) | exact w_bin rfl rfl rfl rfl)
    apply ChainL.of (some 10) rfl rfl
    case h => (first | exact step_nilCheck rfl rfl | exact step_nilCheck_elt rfl rfl)
    apply ChainL.of (some 11) rfl rfl
    case h => (first | exact w_fieldAddr tab rfl rfl rfl rfl (by decide) rfl rfl | exact w_fieldAddr_elt tab rfl rfl rfl rfl (by decide) rfl rfl)
    apply ChainL.of none rfl rfl
    case h => (first | exact w_store tab rfl rfl rfl rfl rfl rfl rfl rfl rfl (Nat.le_of_ble_eq_true rfl) rfl rfl | exact w_store tab rfl rfl rfl rfl rfl (by assumption) rfl rfl rfl (Nat.le_of_ble_eq_true rfl) rfl rfl)
    exact .nil
  show Cwp _ _ _ _
  refine cwp_seq ?_
  apply one_region
  case hc =>
    apply ChainL.of (some 12) rfl rfl
    case h => exact step_move rfl
    apply ChainL.of (some 13) rfl rfl
    case h => (first | exact step_nilCheck rfl rfl | exact step_nilCheck_elt rfl rfl)
    apply ChainL.of (some 14) rfl rfl
    case h => (first | exact w_fieldAddr tab rfl rfl rfl rfl (by decide) rfl rfl | exact w_fieldAddr_elt tab rfl rfl rfl rfl (by decide) rfl rfl)
    apply ChainL.of (some 15) rfl rfl
    case h => (first | exact w_load tab rfl rfl rfl rfl rfl rfl rfl | exact w_load tab rfl rfl rfl rfl rfl (by assumption) rfl | exact w_load_elt tab rfl rfl rfl rfl rfl | exact w_loads tab rfl rfl rfl rfl rfl rfl rfl rfl | exact w_load_tab tab rfl rfl rfl rfl (.head _) (by kernel_rfl) | exact w_loads_elt tab rfl rfl rfl rfl rfl rfl)
    apply ChainL.of (some 16) rfl rfl
    case h => (first | exact w_bin rfl rfl rfl (add_i64 rfl (by omega) (by omega)) | exact w_bin rfl rfl rfl rfl)
    apply ChainL.of (some 17) rfl rfl
    case h => (first | exact step_nilCheck rfl rfl | exact step_nilCheck_elt rfl rfl)
    apply ChainL.of (some 18) rfl rfl
    case h => (first | exact w_fieldAddr tab rfl rfl rfl rfl (by decide) rfl rfl | exact w_fieldAddr_elt tab rfl rfl rfl rfl (by decide) rfl rfl)
    apply ChainL.of none rfl rfl
    case h => (first | exact w_store tab rfl rfl rfl rfl rfl rfl rfl rfl rfl (Nat.le_of_ble_eq_true rfl) rfl rfl | exact w_store tab rfl rfl rfl rfl rfl (by assumption) rfl rfl rfl (Nat.le_of_ble_eq_true rfl) rfl rfl)
    exact .nil
  show Cwp _ _ _ _
  refine cwp_seq ?_
  refine cwp_seq ?_
  apply one_region_draw [0, 1, 3, 7, 15, 31, 63, 127, 255, 511, 1023, 127, 2175, 6271, 14463, 30847, 63615, 129151, 260223, 524287, 1048575] rfl
  case hc =>
    apply ChainL.of (some 19) rfl rfl
    case h => exact step_move rfl
    apply ChainL.of (some 20) rfl rfl
    case h => (first | exact step_nilCheck rfl rfl | exact step_nilCheck_elt rfl rfl)
    apply ChainL.of (some 21) rfl rfl
    case h => (first | exact w_fieldAddr tab rfl rfl rfl rfl (by decide) rfl rfl | exact w_fieldAddr_elt tab rfl rfl rfl rfl (by decide) rfl rfl)
    apply ChainL.of (some 22) rfl rfl
    case h => (first | exact w_load tab rfl rfl rfl rfl rfl rfl rfl | exact w_load tab rfl rfl rfl rfl rfl (by assumption) rfl | exact w_load_elt tab rfl rfl rfl rfl rfl | exact w_loads tab rfl rfl rfl rfl rfl rfl rfl rfl | exact w_load_tab tab rfl rfl rfl rfl (.head _) (by kernel_rfl) | exact w_loads_elt tab rfl rfl rfl rfl rfl rfl)
    apply ChainL.of (some 23) rfl rfl
    case h => exact w_len tab rfl rfl rfl (.own rfl rfl rfl) (n := 1) (by kernel_rfl)
    apply ChainL.of (some 24) rfl rfl
    case h => (first | exact w_bin rfl rfl rfl (eql_t (by omega)) | exact w_bin rfl rfl rfl (eql_f (by omega)) | exact w_bin rfl rfl rfl rfl)
    apply ChainL.of (some 25) rfl rfl
    case h => exact step_move rfl
    first
    | apply ChainL.off (some 26) 6 25 false rfl rfl rfl rfl
    | apply ChainL.on (some 26) 6 25 false rfl rfl rfl rfl
      case h => exact step_move rfl
    first
    | apply ChainL.off (some 27) 6 25 false rfl rfl rfl rfl
    | apply ChainL.on (some 27) 6 25 false rfl rfl rfl rfl
      case h => (first | exact step_nilCheck rfl rfl | exact step_nilCheck_elt rfl rfl)
    first
    | apply ChainL.off (some 28) 6 25 false rfl rfl rfl rfl
    | apply ChainL.on (some 28) 6 25 false rfl rfl rfl rfl
      case h => (first | exact w_fieldAddr tab rfl rfl rfl rfl (by decide) rfl rfl | exact w_fieldAddr_elt tab rfl rfl rfl rfl (by decide) rfl rfl)
    first
    | apply ChainL.off (some 29) 6 25 false rfl rfl rfl rfl
    | apply ChainL.on (some 29) 6 25 false rfl rfl rfl rfl
      case h => (first | exact w_load tab rfl rfl rfl rfl rfl rfl rfl | exact w_load tab rfl rfl rfl rfl rfl (by assumption) rfl | exact w_load_elt tab rfl rfl rfl rfl rfl | exact w_loads tab rfl rfl rfl rfl rfl rfl rfl rfl | exact w_load_tab tab rfl rfl rfl rfl (.head _) (by kernel_rfl) | exact w_loads_elt tab rfl rfl rfl rfl rfl rfl)
    first
    | apply ChainL.off (some 30) 6 25 false rfl rfl rfl rfl
    | apply ChainL.on (some 30) 6 25 false rfl rfl rfl rfl
      case h => exact step_move rfl
    first
    | apply ChainL.off (some 31) 6 25 false rfl rfl rfl rfl
    | apply ChainL.on (some 31) 6 25 false rfl rfl rfl rfl
      case h => (first | exact step_nilCheck rfl rfl | exact step_nilCheck_elt rfl rfl)
    first
    | apply ChainL.off (some 32) 6 25 false rfl rfl rfl rfl
    | apply ChainL.on (some 32) 6 25 false rfl rfl rfl rfl
      case h => (first | exact w_fieldAddr tab rfl rfl rfl rfl (by decide) rfl rfl | exact w_fieldAddr_elt tab rfl rfl rfl rfl (by decide) rfl rfl)
    first
    | apply ChainL.off (some 33) 6 25 false rfl rfl rfl rfl
    | apply ChainL.on (some 33) 6 25 false rfl rfl rfl rfl
      case h => (first | exact w_load tab rfl rfl rfl rfl rfl rfl rfl | exact w_load tab rfl rfl rfl rfl rfl (by assumption) rfl | exact w_load_elt tab rfl rfl rfl rfl rfl | exact w_loads tab rfl rfl rfl rfl rfl rfl rfl rfl | exact w_load_tab tab rfl rfl rfl rfl (.head _) (by kernel_rfl) | exact w_loads_elt tab rfl rfl rfl rfl rfl rfl)
    first
    | apply ChainL.off (some 34) 6 25 false rfl rfl rfl rfl
    | apply ChainL.on (some 34) 6 25 false rfl rfl rfl rfl
      case h => (first | exact w_index_own tab rfl rfl rfl rfl rfl rfl rfl rfl (by omega) (by omega) rfl | exact w_index_lst tab rfl rfl rfl rfl rfl rfl rfl (by omega) (by assumption))
    first
    | apply ChainL.off (some 35) 6 25 false rfl rfl rfl rfl
    | apply ChainL.on (some 35) 6 25 false rfl rfl rfl rfl
      case h => (first | exact w_fieldAddr tab rfl rfl rfl rfl (by decide) rfl rfl | exact w_fieldAddr_elt tab rfl rfl rfl rfl (by decide) rfl rfl)
    first
    | apply ChainL.off (some 36) 6 25 false rfl rfl rfl rfl
    | apply ChainL.on (some 36) 6 25 false rfl rfl rfl rfl
      case h => (first | exact w_load tab rfl rfl rfl rfl rfl rfl rfl | exact w_load tab rfl rfl rfl rfl rfl (by assumption) rfl | exact w_load_elt tab rfl rfl rfl rfl rfl | exact w_loads tab rfl rfl rfl rfl rfl rfl rfl rfl | exact w_load_tab tab rfl rfl rfl rfl (.head _) (by kernel_rfl) | exact w_loads_elt tab rfl rfl rfl rfl rfl rfl)
    first
    | apply ChainL.off (some 37) 6 25 false rfl rfl rfl rfl
    | apply ChainL.on (some 37) 6 25 false rfl rfl rfl rfl
      case h => (first | exact w_max rfl rfl rfl (if_pos (by omega)) | exact w_max rfl rfl rfl (if_neg (by omega)) | exact w_max rfl rfl rfl rfl)
    first
    | apply ChainL.off (some 38) 6 25 false rfl rfl rfl rfl
    | apply ChainL.on (some 38) 6 25 false rfl rfl rfl rfl
      case h => (first | exact w_bin rfl rfl rfl (leq_t (by omega)) | exact w_bin rfl rfl rfl (leq_f (by omega)) | exact w_bin rfl rfl rfl rfl)
    apply ChainL.of (some 39) rfl rfl
    case h => exact step_pick rfl rfl
    exact .nil
  case hB => decide +kernel
  case hI => kernel_rfl
  show Cwp _ _ _ _
  refine cond_t (by first | rfl | kernel_rfl) ?_
  refine cwp_seq ?_
  apply one_region
  case hc =>
    apply ChainL.of (some 2) rfl rfl
    case h => exact step_assign rfl
    exact .nil
  show Cwp _ _ _ _
  refine cwp_ret ?_
  exact ⟨.inl rfl, resH_one rfl rfl, objs_ok rfl⟩
end Go.Proofs.Ytcbbpidnocgoiaa.Dk


/- Disks: one of three sectors, and the law of no disk. -/
import Derived.Test.YtcbbpidnocgoiaaDkA
namespace Go.Proofs.Ytcbbpidnocgoiaa.Dk
open Go Go.RowKit Go.Proofs.Ytcbbpidnocgoiaa.Eng
set_option linter.unusedVariables false
set_option linter.unusedSimpArgs false
set_option maxRecDepth 20000
def dk (w : SV) (acts all : Int) : Ob := ⟨8, [[.own 1 0 3, .own 2 0 3, w, .v (.slice none 0 0), .v (.int .i64 acts), .v (.int .i64 all), .v (.int .i64 0), .v (.bool false)]], false⟩
def data : Ob := ⟨1, [[.v (.string ⟨#[]⟩)], [.v (.string ⟨#[]⟩)], [.v (.string ⟨#[]⟩)]], false⟩
def torn : Ob := ⟨1, [[.v (.bool false)], [.v (.bool false)], [.v (.bool false)]], false⟩
def pad : List Int := List.replicate 255 0
def txt : ByteArray := ⟨#[120]⟩ ++ strOfNums pad
def wait : Ob := ⟨2, [[.v (.int .i64 1), .v (.string txt)]], false⟩
theorem dead_3 (acts all : Int) : HCall Try.prog 10 [dk (.v (.slice none 0 0)) acts all, data, torn] [.ref 0 0 0] [.ob (dk (.v (.slice none 0 0)) acts all), .ob data, .ob torn] (.v (.bool false)) := by
  refine HCall.of Try.func10 rfl (by decide +kernel) (Nat.le_of_ble_eq_true rfl) ?_
  refine cwp_seq ?_
  apply one_region
  case hc =>
    apply ChainL.of (some 2) rfl rfl
    case h => exact step_assign rfl
    exact .nil
  show Cwp _ _ _ _
  refine cwp_seq ?_
  apply one_region
  case hc =>
    apply ChainL.of (some 3) rfl rfl
    case h => exact step_move rfl
    apply ChainL.of (some 4) rfl rfl
    case h => (first | exact w_nil_nil tab (b := true) rfl rfl rfl rfl rfl | exact w_ptr_nil tab (b := true) rfl rfl rfl rfl rfl)
    apply ChainL.of (some 5) rfl rfl
    case h => exact step_move rfl
    first
    | apply ChainL.off (some 6) 2 5 false rfl rfl rfl rfl
    | apply ChainL.on (some 6) 2 5 false rfl rfl rfl rfl
      case h => exact step_move rfl
    first
    | apply ChainL.off (some 7) 2 5 false rfl rfl rfl rfl
    | apply ChainL.on (some 7) 2 5 false rfl rfl rfl rfl
      case h => (first | exact step_nilCheck rfl rfl | exact step_nilCheck_elt rfl rfl)
    first
    | apply ChainL.off (some 8) 2 5 false rfl rfl rfl rfl
    | apply ChainL.on (some 8) 2 5 false rfl rfl rfl rfl
      case h => (first | exact w_fieldAddr tab rfl rfl rfl rfl (by decide) rfl rfl | exact w_fieldAddr_elt tab rfl rfl rfl rfl (by decide) rfl rfl)
    first
    | apply ChainL.off (some 9) 2 5 false rfl rfl rfl rfl
    | apply ChainL.on (some 9) 2 5 false rfl rfl rfl rfl
      case h => (first | exact w_load tab rfl rfl rfl rfl rfl rfl rfl | exact w_load tab rfl rfl rfl rfl rfl (by assumption) rfl | exact w_load_elt tab rfl rfl rfl rfl rfl | exact w_loads tab rfl rfl rfl rfl rfl rfl rfl rfl | exact w_load_tab tab rfl rfl rfl rfl (.head _) (by kernel_rfl) | exact w_loads_elt tab rfl rfl rfl rfl rfl rfl)
    apply ChainL.of (some 10) rfl rfl
    case h => exact step_pick rfl rfl
    apply ChainL.of (some 2) rfl rfl
    case h => exact step_assign rfl
    exact .nil
  show Cwp _ _ _ _
  refine cwp_ret ?_
  exact ⟨.inl rfl, resH_one rfl rfl, objs_ok rfl⟩
theorem dead_4 (acts all : Int) : HCall Try.prog 10 [dk (.own 3 0 1) acts all, data, torn, wait] [.ref 0 0 0] [.ob (dk (.own 3 0 1) acts all), .ob data, .ob torn, .ob wait] (.v (.bool false)) := by
  refine HCall.of Try.func10 rfl (by decide +kernel) (Nat.le_of_ble_eq_true rfl) ?_
  refine cwp_seq ?_
  apply one_region
  case hc =>
    apply ChainL.of (some 2) rfl rfl
    case h => exact step_assign rfl
    exact .nil
  show Cwp _ _ _ _
  refine cwp_seq ?_
  apply one_region
  case hc =>
    apply ChainL.of (some 3) rfl rfl
    case h => exact step_move rfl
    apply ChainL.of (some 4) rfl rfl
    case h => (first | exact w_nil_nil tab (b := true) rfl rfl rfl rfl rfl | exact w_ptr_nil tab (b := true) rfl rfl rfl rfl rfl)
    apply ChainL.of (some 5) rfl rfl
    case h => exact step_move rfl
    first
    | apply ChainL.off (some 6) 2 5 false rfl rfl rfl rfl
    | apply ChainL.on (some 6) 2 5 false rfl rfl rfl rfl
      case h => exact step_move rfl
    first
    | apply ChainL.off (some 7) 2 5 false rfl rfl rfl rfl
    | apply ChainL.on (some 7) 2 5 false rfl rfl rfl rfl
      case h => (first | exact step_nilCheck rfl rfl | exact step_nilCheck_elt rfl rfl)
    first
    | apply ChainL.off (some 8) 2 5 false rfl rfl rfl rfl
    | apply ChainL.on (some 8) 2 5 false rfl rfl rfl rfl
      case h => (first | exact w_fieldAddr tab rfl rfl rfl rfl (by decide) rfl rfl | exact w_fieldAddr_elt tab rfl rfl rfl rfl (by decide) rfl rfl)
    first
    | apply ChainL.off (some 9) 2 5 false rfl rfl rfl rfl
    | apply ChainL.on (some 9) 2 5 false rfl rfl rfl rfl
      case h => (first | exact w_load tab rfl rfl rfl rfl rfl rfl rfl | exact w_load tab rfl rfl rfl rfl rfl (by assumption) rfl | exact w_load_elt tab rfl rfl rfl rfl rfl | exact w_loads tab rfl rfl rfl rfl rfl rfl rfl rfl | exact w_load_tab tab rfl rfl rfl rfl (.head _) (by kernel_rfl) | exact w_loads_elt tab rfl rfl rfl rfl rfl rfl)
    apply ChainL.of (some 10) rfl rfl
    case h => exact step_pick rfl rfl
    apply ChainL.of (some 2) rfl rfl
    case h => exact step_assign rfl
    exact .nil
  show Cwp _ _ _ _
  refine cwp_ret ?_
  exact ⟨.inl rfl, resH_one rfl rfl, objs_ok rfl⟩
theorem act_4 (n : Int) (h : 0 ≤ n) (h2 : n ≤ 1000) : HCall Try.prog 20 [dk (.own 3 0 1) n n, data, torn, wait] [.ref 0 0 0] [.ob (dk (.own 3 0 1) (n + 1) (n + 1)), .ob data, .ob torn, .ob wait] (.v (.bool false)) := by
  refine HCall.of Try.func20 rfl (by decide +kernel) (Nat.le_of_ble_eq_true rfl) ?_
  refine cwp_seq ?_
  apply one_region
  case hc =>
    apply ChainL.of (some 2) rfl rfl
    case h => exact step_assign rfl
    exact .nil
  show Cwp _ _ _ _
  refine cwp_seq ?_
  apply one_region
  case hc =>
    apply ChainL.of (some 5) rfl rfl
    case h => exact step_move rfl
    apply ChainL.of (some 6) rfl rfl
    case h => (first | exact step_nilCheck rfl rfl | exact step_nilCheck_elt rfl rfl)
    apply ChainL.of (some 7) rfl rfl
    case h => (first | exact w_fieldAddr tab rfl rfl rfl rfl (by decide) rfl rfl | exact w_fieldAddr_elt tab rfl rfl rfl rfl (by decide) rfl rfl)
    apply ChainL.of (some 8) rfl rfl
    case h => (first | exact w_load tab rfl rfl rfl rfl rfl rfl rfl | exact w_load tab rfl rfl rfl rfl rfl (by assumption) rfl | exact w_load_elt tab rfl rfl rfl rfl rfl | exact w_loads tab rfl rfl rfl rfl rfl rfl rfl rfl | exact w_load_tab tab rfl rfl rfl rfl (.head _) (by kernel_rfl) | exact w_loads_elt tab rfl rfl rfl rfl rfl rfl)
    apply ChainL.of (some 9) rfl rfl
    case h => (first | exact w_bin rfl rfl rfl (add_i64 rfl (by omega) (by omega)) | exact w_bin rfl rfl rfl rfl)
    apply ChainL.of (some 10) rfl rfl
    case h => (first | exact step_nilCheck rfl rfl | exact step_nilCheck_elt rfl rfl)
    apply ChainL.of (some 11) rfl rfl
    case h => (first | exact w_fieldAddr tab rfl rfl rfl rfl (by decide) rfl rfl | exact w_fieldAddr_elt tab rfl rfl rfl rfl (by decide) rfl rfl)
    apply ChainL.of none rfl rfl
    case h => (first | exact w_store tab rfl rfl rfl rfl rfl rfl rfl rfl rfl (Nat.le_of_ble_eq_true rfl) rfl rfl | exact w_store tab rfl rfl rfl rfl rfl (by assumption) rfl rfl rfl (Nat.le_of_ble_eq_true rfl) rfl rfl)
    exact .nil
  show Cwp _ _ _ _
  refine cwp_seq ?_
  apply one_region
  case hc =>
    apply ChainL.of (some 12) rfl rfl
    case h => exact step_move rfl
    apply ChainL.of (some 13) rfl rfl
    case h => (first | exact step_nilCheck rfl rfl | exact step_nilCheck_elt rfl rfl)
    apply ChainL.of (some 14) rfl rfl
    case h => (first | exact w_fieldAddr tab rfl rfl rfl rfl (by decide) rfl rfl | exact w_fieldAddr_elt tab rfl rfl rfl rfl (by decide) rfl rfl)
    apply ChainL.of (some 15) rfl rfl
    case h => (first | exact w_load tab rfl rfl rfl rfl rfl rfl rfl | exact w_load tab rfl rfl rfl rfl rfl (by assumption) rfl | exact w_load_elt tab rfl rfl rfl rfl rfl | exact w_loads tab rfl rfl rfl rfl rfl rfl rfl rfl | exact w_load_tab tab rfl rfl rfl rfl (.head _) (by kernel_rfl) | exact w_loads_elt tab rfl rfl rfl rfl rfl rfl)
    apply ChainL.of (some 16) rfl rfl
    case h => (first | exact w_bin rfl rfl rfl (add_i64 rfl (by omega) (by omega)) | exact w_bin rfl rfl rfl rfl)
    apply ChainL.of (some 17) rfl rfl
    case h => (first | exact step_nilCheck rfl rfl | exact step_nilCheck_elt rfl rfl)
    apply ChainL.of (some 18) rfl rfl
    case h => (first | exact w_fieldAddr tab rfl rfl rfl rfl (by decide) rfl rfl | exact w_fieldAddr_elt tab rfl rfl rfl rfl (by decide) rfl rfl)
    apply ChainL.of none rfl rfl
    case h => (first | exact w_store tab rfl rfl rfl rfl rfl rfl rfl rfl rfl (Nat.le_of_ble_eq_true rfl) rfl rfl | exact w_store tab rfl rfl rfl rfl rfl (by assumption) rfl rfl rfl (Nat.le_of_ble_eq_true rfl) rfl rfl)
    exact .nil
  show Cwp _ _ _ _
  refine cwp_seq ?_
  refine cwp_seq ?_
  apply one_region_draw [0, 1, 3, 7, 15, 31, 63, 127, 255, 511, 1023, 127, 2175, 6271, 14463, 30847, 63615, 129151, 260223, 524287, 1048575] rfl
  case hc =>
    apply ChainL.of (some 19) rfl rfl
    case h => exact step_move rfl
    apply ChainL.of (some 20) rfl rfl
    case h => (first | exact step_nilCheck rfl rfl | exact step_nilCheck_elt rfl rfl)
    apply ChainL.of (some 21) rfl rfl
    case h => (first | exact w_fieldAddr tab rfl rfl rfl rfl (by decide) rfl rfl | exact w_fieldAddr_elt tab rfl rfl rfl rfl (by decide) rfl rfl)
    apply ChainL.of (some 22) rfl rfl
    case h => (first | exact w_load tab rfl rfl rfl rfl rfl rfl rfl | exact w_load tab rfl rfl rfl rfl rfl (by assumption) rfl | exact w_load_elt tab rfl rfl rfl rfl rfl | exact w_loads tab rfl rfl rfl rfl rfl rfl rfl rfl | exact w_load_tab tab rfl rfl rfl rfl (.head _) (by kernel_rfl) | exact w_loads_elt tab rfl rfl rfl rfl rfl rfl)
    apply ChainL.of (some 23) rfl rfl
    case h => (first | exact w_len tab rfl rfl rfl (.own rfl rfl rfl) rfl | exact w_len tab rfl rfl rfl .lst rfl | exact w_len tab rfl rfl rfl (.nil (m := 0)) rfl)
    apply ChainL.of (some 24) rfl rfl
    case h => (first | exact w_bin rfl rfl rfl (eql_t (by omega)) | exact w_bin rfl rfl rfl (eql_f (by omega)) | exact w_bin rfl rfl rfl rfl)
    apply ChainL.of (some 25) rfl rfl
    case h => exact step_move rfl
    first
    | apply ChainL.off (some 26) 6 25 false rfl rfl rfl rfl
    | apply ChainL.on (some 26) 6 25 false rfl rfl rfl rfl
      case h => exact step_move rfl
    first
    | apply ChainL.off (some 27) 6 25 false rfl rfl rfl rfl
    | apply ChainL.on (some 27) 6 25 false rfl rfl rfl rfl
      case h => (first | exact step_nilCheck rfl rfl | exact step_nilCheck_elt rfl rfl)
    first
    | apply ChainL.off (some 28) 6 25 false rfl rfl rfl rfl
    | apply ChainL.on (some 28) 6 25 false rfl rfl rfl rfl
      case h => (first | exact w_fieldAddr tab rfl rfl rfl rfl (by decide) rfl rfl | exact w_fieldAddr_elt tab rfl rfl rfl rfl (by decide) rfl rfl)
    first
    | apply ChainL.off (some 29) 6 25 false rfl rfl rfl rfl
    | apply ChainL.on (some 29) 6 25 false rfl rfl rfl rfl
      case h => (first | exact w_load tab rfl rfl rfl rfl rfl rfl rfl | exact w_load tab rfl rfl rfl rfl rfl (by assumption) rfl | exact w_load_elt tab rfl rfl rfl rfl rfl | exact w_loads tab rfl rfl rfl rfl rfl rfl rfl rfl | exact w_load_tab tab rfl rfl rfl rfl (.head _) (by kernel_rfl) | exact w_loads_elt tab rfl rfl rfl rfl rfl rfl)
    first
    | apply ChainL.off (some 30) 6 25 false rfl rfl rfl rfl
    | apply ChainL.on (some 30) 6 25 false rfl rfl rfl rfl
      case h => exact step_move rfl
    first
    | apply ChainL.off (some 31) 6 25 false rfl rfl rfl rfl
    | apply ChainL.on (some 31) 6 25 false rfl rfl rfl rfl
      case h => (first | exact step_nilCheck rfl rfl | exact step_nilCheck_elt rfl rfl)
    first
    | apply ChainL.off (some 32) 6 25 false rfl rfl rfl rfl
    | apply ChainL.on (some 32) 6 25 false rfl rfl rfl rfl
      case h => (first | exact w_fieldAddr tab rfl rfl rfl rfl (by decide) rfl rfl | exact w_fieldAddr_elt tab rfl rfl rfl rfl (by decide) rfl rfl)
    first
    | apply ChainL.off (some 33) 6 25 false rfl rfl rfl rfl
    | apply ChainL.on (some 33) 6 25 false rfl rfl rfl rfl
      case h => (first | exact w_load tab rfl rfl rfl rfl rfl rfl rfl | exact w_load tab rfl rfl rfl rfl rfl (by assumption) rfl | exact w_load_elt tab rfl rfl rfl rfl rfl | exact w_loads tab rfl rfl rfl rfl rfl rfl rfl rfl | exact w_load_tab tab rfl rfl rfl rfl (.head _) (by kernel_rfl) | exact w_loads_elt tab rfl rfl rfl rfl rfl rfl)
    first
    | apply ChainL.off (some 34) 6 25 false rfl rfl rfl rfl
    | apply ChainL.on (some 34) 6 25 false rfl rfl rfl rfl
      case h => (first | exact w_index_own tab rfl rfl rfl rfl rfl rfl rfl rfl (by omega) (by omega) rfl | exact w_index_lst tab rfl rfl rfl rfl rfl rfl rfl (by omega) (by assumption))
    first
    | apply ChainL.off (some 35) 6 25 false rfl rfl rfl rfl
    | apply ChainL.on (some 35) 6 25 false rfl rfl rfl rfl
      case h => (first | exact w_fieldAddr tab rfl rfl rfl rfl (by decide) rfl rfl | exact w_fieldAddr_elt tab rfl rfl rfl rfl (by decide) rfl rfl)
    first
    | apply ChainL.off (some 36) 6 25 false rfl rfl rfl rfl
    | apply ChainL.on (some 36) 6 25 false rfl rfl rfl rfl
      case h => (first | exact w_load tab rfl rfl rfl rfl rfl rfl rfl | exact w_load tab rfl rfl rfl rfl rfl (by assumption) rfl | exact w_load_elt tab rfl rfl rfl rfl rfl | exact w_loads tab rfl rfl rfl rfl rfl rfl rfl rfl | exact w_load_tab tab rfl rfl rfl rfl (.head _) (by kernel_rfl) | exact w_loads_elt tab rfl rfl rfl rfl rfl rfl)
    first
    | apply ChainL.off (some 37) 6 25 false rfl rfl rfl rfl
    | apply ChainL.on (some 37) 6 25 false rfl rfl rfl rfl
      case h => (first | exact w_max rfl rfl rfl (if_pos (by omega)) | exact w_max rfl rfl rfl (if_neg (by omega)) | exact w_max rfl rfl rfl rfl)
    first
    | apply ChainL.off (some 38) 6 25 false rfl rfl rfl rfl
    | apply ChainL.on (some 38) 6 25 false rfl rfl rfl rfl
      case h => (first | exact w_bin rfl rfl rfl (leq_t (by omega)) | exact w_bin rfl rfl rfl (leq_f (by omega)) | exact w_bin rfl rfl rfl rfl)
    apply ChainL.of (some 39) rfl rfl
    case h => exact step_pick rfl rfl
    exact .nil
  case hB => decide +kernel
  case hI => kernel_rfl
  show Cwp _ _ _ _
  refine cond_t (by first | rfl | kernel_rfl) ?_
  refine cwp_seq ?_
  apply one_region
  case hc =>
    apply ChainL.of (some 2) rfl rfl
    case h => exact step_assign rfl
    exact .nil
  show Cwp _ _ _ _
  refine cwp_ret ?_
  exact ⟨.inl rfl, resH_one rfl rfl, objs_ok rfl⟩
theorem write_3 : HCall Try.prog 8 [dk (.v (.slice none 0 0)) 0 0, data, torn] [.ref 0 0 0, .v (.int .i64 1), .v (.string ⟨#[120]⟩)] [.ob (dk (.own 3 0 1) 1 1), .ob data, .ob torn, .ob wait] (.v (.int .i64 0)) := by
  refine HCall.of Try.func8 rfl (by decide +kernel) (Nat.le_of_ble_eq_true rfl) ?_
  refine cwp_seq ?_
  apply one_region
  case hc =>
    apply ChainL.of (some 6) rfl rfl
    case h => exact step_assign rfl
    exact .nil
  show Cwp _ _ _ _
  refine cwp_seq ?_
  refine cwp_block ?_
  refine cwp_seq ?_
  apply one_region
  case hc =>
    apply ChainL.of (some 8) rfl rfl
    case h => exact step_move rfl
    apply ChainL.of (some 9) rfl rfl
    case h => exact w_call (dead_3 0 0) [] [0, 1, 2] [] Try.func10 rfl (by decide +kernel) rfl rfl .nil (by decide) rfl rfl rfl rfl rfl rfl rfl rfl rfl rfl rfl
    apply ChainL.of (some 7) rfl rfl
    case h => exact step_assign rfl
    exact .nil
  show Cwp _ _ _ _
  refine cond_f (by first | rfl | kernel_rfl) ?_
  refine cwp_seq ?_
  apply one_region
  case hc =>
    apply ChainL.of (some 11) rfl rfl
    case h => exact step_move rfl
    apply ChainL.of (some 12) rfl rfl
    case h => (first | exact w_bin rfl rfl rfl (lss_t (by omega)) | exact w_bin rfl rfl rfl (lss_f (by omega)) | exact w_bin rfl rfl rfl rfl)
    apply ChainL.of (some 13) rfl rfl
    case h => exact step_move rfl
    first
    | apply ChainL.off (some 14) 2 13 false rfl rfl rfl rfl
    | apply ChainL.on (some 14) 2 13 false rfl rfl rfl rfl
      case h => exact step_move rfl
    first
    | apply ChainL.off (some 15) 2 13 false rfl rfl rfl rfl
    | apply ChainL.on (some 15) 2 13 false rfl rfl rfl rfl
      case h => exact step_move rfl
    first
    | apply ChainL.off (some 16) 2 13 false rfl rfl rfl rfl
    | apply ChainL.on (some 16) 2 13 false rfl rfl rfl rfl
      case h => (first | exact step_nilCheck rfl rfl | exact step_nilCheck_elt rfl rfl)
    first
    | apply ChainL.off (some 17) 2 13 false rfl rfl rfl rfl
    | apply ChainL.on (some 17) 2 13 false rfl rfl rfl rfl
      case h => (first | exact w_fieldAddr tab rfl rfl rfl rfl (by decide) rfl rfl | exact w_fieldAddr_elt tab rfl rfl rfl rfl (by decide) rfl rfl)
    first
    | apply ChainL.off (some 18) 2 13 false rfl rfl rfl rfl
    | apply ChainL.on (some 18) 2 13 false rfl rfl rfl rfl
      case h => (first | exact w_load tab rfl rfl rfl rfl rfl rfl rfl | exact w_load tab rfl rfl rfl rfl rfl (by assumption) rfl | exact w_load_elt tab rfl rfl rfl rfl rfl | exact w_loads tab rfl rfl rfl rfl rfl rfl rfl rfl | exact w_load_tab tab rfl rfl rfl rfl (.head _) (by kernel_rfl) | exact w_loads_elt tab rfl rfl rfl rfl rfl rfl)
    first
    | apply ChainL.off (some 19) 2 13 false rfl rfl rfl rfl
    | apply ChainL.on (some 19) 2 13 false rfl rfl rfl rfl
      case h => (first | exact w_len tab rfl rfl rfl (.own rfl rfl rfl) rfl | exact w_len tab rfl rfl rfl .lst rfl | exact w_len tab rfl rfl rfl (.nil (m := 0)) rfl)
    first
    | apply ChainL.off (some 20) 2 13 false rfl rfl rfl rfl
    | apply ChainL.on (some 20) 2 13 false rfl rfl rfl rfl
      case h => (first | exact w_bin rfl rfl rfl (geq_t (by omega)) | exact w_bin rfl rfl rfl (geq_f (by omega)) | exact w_bin rfl rfl rfl rfl)
    apply ChainL.of (some 21) rfl rfl
    case h => exact step_pick rfl rfl
    apply ChainL.of (some 10) rfl rfl
    case h => exact step_assign rfl
    exact .nil
  show Cwp _ _ _ _
  refine cond_f (by first | rfl | kernel_rfl) ?_
  refine cwp_seq ?_
  apply one_region
  case hc =>
    apply ChainL.of (some 23) rfl rfl
    case h => exact step_move rfl
    apply ChainL.of (some 24) rfl rfl
    case h => exact w_len_str (T := 9) (by kernel_rfl) rfl rfl (n := 1) (by kernel_rfl)
    apply ChainL.of (some 25) rfl rfl
    case h => (first | exact w_bin rfl rfl rfl (gtr_t (by omega)) | exact w_bin rfl rfl rfl (gtr_f (by omega)) | exact w_bin rfl rfl rfl rfl)
    apply ChainL.of (some 22) rfl rfl
    case h => exact step_assign rfl
    exact .nil
  show Cwp _ _ _ _
  refine cond_f (by first | rfl | kernel_rfl) ?_
  refine cwp_skip ?_
  show Cwp _ _ _ _
  refine cwp_seq ?_
  apply one_region
  case hc =>
    apply ChainL.of (some 26) rfl rfl
    case h => exact step_move rfl
    apply ChainL.of (some 27) rfl rfl
    case h => exact step_move rfl
    apply ChainL.of (some 28) rfl rfl
    case h => exact w_len_str (T := 9) (by kernel_rfl) rfl rfl (n := 1) (by kernel_rfl)
    apply ChainL.of (some 29) rfl rfl
    case h => (first | exact w_bin rfl rfl rfl (sub_i64 rfl (by omega) (by omega)) | exact w_bin rfl rfl rfl rfl)
    apply ChainL.of (some 30) rfl rfl
    case h => exact w_makeSlice tab rfl rfl rfl rfl 100 rfl rfl (by omega) (by dsimp only; omega) (by omega) (by decide) rfl rfl
    apply ChainL.of (some 31) rfl rfl
    case h => exact w_str_own (T := 51) (T2 := 9) (e := 5) (by kernel_rfl) (by kernel_rfl) (by kernel_rfl) rfl rfl rfl rfl pad (by kernel_rfl) (by kernel_rfl) (by decide) rfl
    apply ChainL.of (some 32) rfl rfl
    case h => (first | exact w_bin rfl rfl rfl (add_i64 rfl (by omega) (by omega)) | exact w_bin rfl rfl rfl rfl)
    apply ChainL.of (some 2) rfl rfl
    case h => exact step_assign rfl
    exact .nil
  show Cwp _ _ _ _
  refine cwp_seq ?_
  apply one_region
  case hc =>
    apply ChainL.of (some 33) rfl rfl
    case h => exact step_move rfl
    apply ChainL.of (some 34) rfl rfl
    case h => exact step_move rfl
    apply ChainL.of (some 35) rfl rfl
    case h => (first | exact step_nilCheck rfl rfl | exact step_nilCheck_elt rfl rfl)
    apply ChainL.of (some 36) rfl rfl
    case h => (first | exact w_fieldAddr tab rfl rfl rfl rfl (by decide) rfl rfl | exact w_fieldAddr_elt tab rfl rfl rfl rfl (by decide) rfl rfl)
    apply ChainL.of (some 37) rfl rfl
    case h => (first | exact w_load tab rfl rfl rfl rfl rfl rfl rfl | exact w_load tab rfl rfl rfl rfl rfl (by assumption) rfl | exact w_load_elt tab rfl rfl rfl rfl rfl | exact w_loads tab rfl rfl rfl rfl rfl rfl rfl rfl | exact w_load_tab tab rfl rfl rfl rfl (.head _) (by kernel_rfl) | exact w_loads_elt tab rfl rfl rfl rfl rfl rfl)
    apply ChainL.of (some 38) rfl rfl
    case h => exact step_move rfl
    apply ChainL.of (some 39) rfl rfl
    case h => exact step_move rfl
    apply ChainL.of (some 40) rfl rfl
    case h => exact w_build tab rfl rfl (by decide) rfl rfl
    apply ChainL.of (some 41) rfl rfl
    case h => exact w_slice1 tab rfl rfl rfl rfl 101 (by decide) (by decide) rfl rfl rfl
    apply ChainL.of (some 42) rfl rfl
    case h => (first | exact w_append_nil_own tab rfl rfl rfl rfl rfl rfl 3 (by decide) rfl rfl rfl rfl rfl rfl rfl (Nat.le_of_ble_eq_true rfl) rfl (Nat.le_of_ble_eq_true rfl) (Nat.le_of_ble_eq_true rfl) rfl | (apply w_append_own (id' := 3) tab rfl rfl rfl rfl rfl rfl; (case hm0 => decide); (case hx => first | exact rfl | exact Nat.le_of_ble_eq_true rfl); (case hob => first | exact rfl | exact Nat.le_of_ble_eq_true rfl); (case him => first | exact rfl | exact Nat.le_of_ble_eq_true rfl); (case hfz => first | exact rfl | exact Nat.le_of_ble_eq_true rfl); (case hrx => first | exact rfl | exact Nat.le_of_ble_eq_true rfl); (case hlx => first | exact rfl | exact Nat.le_of_ble_eq_true rfl); (case hy => first | exact rfl | exact Nat.le_of_ble_eq_true rfl); (case hob2 => first | exact rfl | exact Nat.le_of_ble_eq_true rfl); (case hm => first | exact rfl | exact Nat.le_of_ble_eq_true rfl); (case hr => first | exact rfl | exact Nat.le_of_ble_eq_true rfl); (case hrl => first | exact rfl | exact Nat.le_of_ble_eq_true rfl); (case hone => first | exact rfl | exact Nat.le_of_ble_eq_true rfl); (case honex => first | exact rfl | exact Nat.le_of_ble_eq_true rfl); (case hid => first | exact rfl | exact Nat.le_of_ble_eq_true rfl); (case hlim => first | exact rfl | exact Nat.le_of_ble_eq_true rfl); (case h63 => first | exact rfl | exact Nat.le_of_ble_eq_true rfl); (case hn => first | exact rfl | exact Nat.le_of_ble_eq_true rfl); (case hrows => first | exact rfl | exact Nat.le_of_ble_eq_true rfl)))
    apply ChainL.of (some 43) rfl rfl
    case h => (first | exact step_nilCheck rfl rfl | exact step_nilCheck_elt rfl rfl)
    apply ChainL.of (some 44) rfl rfl
    case h => (first | exact w_fieldAddr tab rfl rfl rfl rfl (by decide) rfl rfl | exact w_fieldAddr_elt tab rfl rfl rfl rfl (by decide) rfl rfl)
    apply ChainL.of none rfl rfl
    case h => (first | exact w_store tab rfl rfl rfl rfl rfl rfl rfl rfl rfl (Nat.le_of_ble_eq_true rfl) rfl rfl | exact w_store tab rfl rfl rfl rfl rfl (by assumption) rfl rfl rfl (Nat.le_of_ble_eq_true rfl) rfl rfl)
    exact .nil
  show Cwp _ _ _ _
  refine cwp_seq ?_
  refine cwp_seq ?_
  apply one_region
  case hc =>
    apply ChainL.of (some 45) rfl rfl
    case h => exact step_move rfl
    apply ChainL.of (some 46) rfl rfl
    case h => exact w_call (act_4 0 (by decide) (by decide)) [] [0, 1, 2, 3] [] Try.func20 rfl (by decide +kernel) rfl rfl .nil (by decide) rfl (by kernel_rfl) rfl (by kernel_rfl) rfl (by kernel_rfl) rfl rfl rfl rfl rfl
    exact .nil
  show Cwp _ _ _ _
  refine cond_f (by first | rfl | kernel_rfl) ?_
  refine cwp_skip ?_
  show Cwp _ _ _ _
  refine cwp_seq ?_
  apply one_region
  case hc =>
    apply ChainL.of (some 6) rfl rfl
    case h => exact step_assign rfl
    exact .nil
  show Cwp _ _ _ _
  refine cwp_ret ?_
  exact ⟨.inl rfl, resH_one rfl rfl, objs_ok (by kernel_rfl)⟩
theorem read_3 : HCall Try.prog 12 [dk (.own 3 0 1) 1 1, data, torn, wait] [.ref 0 0 0, .v (.int .i64 1)] [.ob (dk (.own 3 0 1) 2 2), .ob data, .ob torn, .ob wait] (.tup [.v (.string txt), .v (.int .i64 0)]) := by
  refine HCall.of Try.func12 rfl (by decide +kernel) (Nat.le_of_ble_eq_true rfl) ?_
  refine cwp_seq ?_
  apply one_region
  case hc =>
    apply ChainL.of (some 4) rfl rfl
    case h => exact step_assign rfl
    apply ChainL.of (some 5) rfl rfl
    case h => exact step_assign rfl
    exact .nil
  show Cwp _ _ _ _
  refine cwp_seq ?_
  refine cwp_block ?_
  refine cwp_seq ?_
  apply one_region
  case hc =>
    apply ChainL.of (some 8) rfl rfl
    case h => exact step_move rfl
    apply ChainL.of (some 9) rfl rfl
    case h => exact w_call (dead_4 1 1) [] [0, 1, 2, 3] [] Try.func10 rfl (by decide +kernel) rfl rfl .nil (by decide) rfl rfl rfl rfl rfl rfl rfl rfl rfl rfl rfl
    apply ChainL.of (some 7) rfl rfl
    case h => exact step_assign rfl
    exact .nil
  show Cwp _ _ _ _
  refine cond_f (by first | rfl | kernel_rfl) ?_
  refine cwp_seq ?_
  apply one_region
  case hc =>
    apply ChainL.of (some 11) rfl rfl
    case h => exact step_move rfl
    apply ChainL.of (some 12) rfl rfl
    case h => (first | exact w_bin rfl rfl rfl (lss_t (by omega)) | exact w_bin rfl rfl rfl (lss_f (by omega)) | exact w_bin rfl rfl rfl rfl)
    apply ChainL.of (some 13) rfl rfl
    case h => exact step_move rfl
    first
    | apply ChainL.off (some 14) 2 13 false rfl rfl rfl rfl
    | apply ChainL.on (some 14) 2 13 false rfl rfl rfl rfl
      case h => exact step_move rfl
    first
    | apply ChainL.off (some 15) 2 13 false rfl rfl rfl rfl
    | apply ChainL.on (some 15) 2 13 false rfl rfl rfl rfl
      case h => exact step_move rfl
    first
    | apply ChainL.off (some 16) 2 13 false rfl rfl rfl rfl
    | apply ChainL.on (some 16) 2 13 false rfl rfl rfl rfl
      case h => (first | exact step_nilCheck rfl rfl | exact step_nilCheck_elt rfl rfl)
    first
    | apply ChainL.off (some 17) 2 13 false rfl rfl rfl rfl
    | apply ChainL.on (some 17) 2 13 false rfl rfl rfl rfl
      case h => (first | exact w_fieldAddr tab rfl rfl rfl rfl (by decide) rfl rfl | exact w_fieldAddr_elt tab rfl rfl rfl rfl (by decide) rfl rfl)
    first
    | apply ChainL.off (some 18) 2 13 false rfl rfl rfl rfl
    | apply ChainL.on (some 18) 2 13 false rfl rfl rfl rfl
      case h => (first | exact w_load tab rfl rfl rfl rfl rfl rfl rfl | exact w_load tab rfl rfl rfl rfl rfl (by assumption) rfl | exact w_load_elt tab rfl rfl rfl rfl rfl | exact w_loads tab rfl rfl rfl rfl rfl rfl rfl rfl | exact w_load_tab tab rfl rfl rfl rfl (.head _) (by kernel_rfl) | exact w_loads_elt tab rfl rfl rfl rfl rfl rfl)
    first
    | apply ChainL.off (some 19) 2 13 false rfl rfl rfl rfl
    | apply ChainL.on (some 19) 2 13 false rfl rfl rfl rfl
      case h => exact w_len tab rfl rfl rfl (.own rfl rfl rfl) (n := 3) (by kernel_rfl)
    first
    | apply ChainL.off (some 20) 2 13 false rfl rfl rfl rfl
    | apply ChainL.on (some 20) 2 13 false rfl rfl rfl rfl
      case h => (first | exact w_bin rfl rfl rfl (geq_t (by omega)) | exact w_bin rfl rfl rfl (geq_f (by omega)) | exact w_bin rfl rfl rfl rfl)
    apply ChainL.of (some 21) rfl rfl
    case h => exact step_pick rfl rfl
    apply ChainL.of (some 10) rfl rfl
    case h => exact step_assign rfl
    exact .nil
  show Cwp _ _ _ _
  refine cond_f (by first | rfl | kernel_rfl) ?_
  refine cwp_seq ?_
  apply one_region
  case hc =>
    apply ChainL.of (some 23) rfl rfl
    case h => exact step_move rfl
    apply ChainL.of (some 24) rfl rfl
    case h => exact w_call (act_4 1 (by decide) (by decide)) [] [0, 1, 2, 3] [] Try.func20 rfl (by decide +kernel) rfl rfl .nil (by decide) rfl rfl rfl rfl rfl rfl rfl rfl rfl rfl rfl
    apply ChainL.of (some 22) rfl rfl
    case h => exact step_assign rfl
    exact .nil
  show Cwp _ _ _ _
  refine cond_f (by first | rfl | kernel_rfl) ?_
  refine cwp_skip ?_
  show Cwp _ _ _ _
  refine cwp_seq ?_
  refine cwp_seq ?_
  apply one_region
  case hc =>
    apply ChainL.of (some 25) rfl rfl
    case h => exact step_move rfl
    apply ChainL.of (some 26) rfl rfl
    case h => (first | exact step_nilCheck rfl rfl | exact step_nilCheck_elt rfl rfl)
    apply ChainL.of (some 27) rfl rfl
    case h => (first | exact w_fieldAddr tab rfl rfl rfl rfl (by decide) rfl rfl | exact w_fieldAddr_elt tab rfl rfl rfl rfl (by decide) rfl rfl)
    apply ChainL.of (some 28) rfl rfl
    case h => (first | exact w_load tab rfl rfl rfl rfl rfl rfl rfl | exact w_load tab rfl rfl rfl rfl rfl (by assumption) rfl | exact w_load_elt tab rfl rfl rfl rfl rfl | exact w_loads tab rfl rfl rfl rfl rfl rfl rfl rfl | exact w_load_tab tab rfl rfl rfl rfl (.head _) (by kernel_rfl) | exact w_loads_elt tab rfl rfl rfl rfl rfl rfl)
    apply ChainL.of (some 29) rfl rfl
    case h => exact w_len tab rfl rfl rfl (.own rfl rfl rfl) (n := 1) (by kernel_rfl)
    apply ChainL.of (some 30) rfl rfl
    case h => (first | exact w_bin rfl rfl rfl (sub_i64 rfl (by omega) (by omega)) | exact w_bin rfl rfl rfl rfl)
    apply ChainL.of (some 6) rfl rfl
    case h => exact step_assign rfl
    exact .nil
  show Cwp _ _ _ _
  refine cwp_block ?_
  refine cwp_loopN 1 ?_
  refine loop_round ?_
  refine cwp_seq ?_
  refine cwp_seq ?_
  apply one_region
  case hc =>
    apply ChainL.of (some 31) rfl rfl
    case h => exact step_move rfl
    apply ChainL.of (some 32) rfl rfl
    case h => (first | exact w_bin rfl rfl rfl (geq_t (by omega)) | exact w_bin rfl rfl rfl (geq_f (by omega)) | exact w_bin rfl rfl rfl rfl)
    exact .nil
  show Cwp _ _ _ _
  refine cond_t (by first | rfl | kernel_rfl) ?_
  refine cwp_skip ?_
  show Cwp _ _ _ _
  refine cwp_seq ?_
  refine cwp_block ?_
  refine cwp_seq ?_
  apply one_region
  case hc =>
    apply ChainL.of (some 35) rfl rfl
    case h => exact step_move rfl
    apply ChainL.of (some 36) rfl rfl
    case h => (first | exact step_nilCheck rfl rfl | exact step_nilCheck_elt rfl rfl)
    apply ChainL.of (some 37) rfl rfl
    case h => (first | exact w_fieldAddr tab rfl rfl rfl rfl (by decide) rfl rfl | exact w_fieldAddr_elt tab rfl rfl rfl rfl (by decide) rfl rfl)
    apply ChainL.of (some 38) rfl rfl
    case h => (first | exact w_load tab rfl rfl rfl rfl rfl rfl rfl | exact w_load tab rfl rfl rfl rfl rfl (by assumption) rfl | exact w_load_elt tab rfl rfl rfl rfl rfl | exact w_loads tab rfl rfl rfl rfl rfl rfl rfl rfl | exact w_load_tab tab rfl rfl rfl rfl (.head _) (by kernel_rfl) | exact w_loads_elt tab rfl rfl rfl rfl rfl rfl)
    apply ChainL.of (some 39) rfl rfl
    case h => exact step_move rfl
    apply ChainL.of (some 40) rfl rfl
    case h => (first | exact w_index_own tab rfl rfl rfl rfl rfl rfl rfl rfl (by omega) (by omega) rfl | exact w_index_lst tab rfl rfl rfl rfl rfl rfl rfl (by omega) (by assumption))
    apply ChainL.of (some 41) rfl rfl
    case h => (first | exact w_fieldAddr tab rfl rfl rfl rfl (by decide) rfl rfl | exact w_fieldAddr_elt tab rfl rfl rfl rfl (by decide) rfl rfl)
    apply ChainL.of (some 42) rfl rfl
    case h => (first | exact w_load tab rfl rfl rfl rfl rfl rfl rfl | exact w_load tab rfl rfl rfl rfl rfl (by assumption) rfl | exact w_load_elt tab rfl rfl rfl rfl rfl | exact w_loads tab rfl rfl rfl rfl rfl rfl rfl rfl | exact w_load_tab tab rfl rfl rfl rfl (.head _) (by kernel_rfl) | exact w_loads_elt tab rfl rfl rfl rfl rfl rfl)
    apply ChainL.of (some 43) rfl rfl
    case h => exact step_move rfl
    apply ChainL.of (some 44) rfl rfl
    case h => (first | exact w_bin rfl rfl rfl (eql_t (by omega)) | exact w_bin rfl rfl rfl (eql_f (by omega)) | exact w_bin rfl rfl rfl rfl)
    exact .nil
  show Cwp _ _ _ _
  refine cond_t (by first | rfl | kernel_rfl) ?_
  refine cwp_seq ?_
  apply one_region
  case hc =>
    apply ChainL.of (some 45) rfl rfl
    case h => exact step_move rfl
    apply ChainL.of (some 46) rfl rfl
    case h => (first | exact step_nilCheck rfl rfl | exact step_nilCheck_elt rfl rfl)
    apply ChainL.of (some 47) rfl rfl
    case h => (first | exact w_fieldAddr tab rfl rfl rfl rfl (by decide) rfl rfl | exact w_fieldAddr_elt tab rfl rfl rfl rfl (by decide) rfl rfl)
    apply ChainL.of (some 48) rfl rfl
    case h => (first | exact w_load tab rfl rfl rfl rfl rfl rfl rfl | exact w_load tab rfl rfl rfl rfl rfl (by assumption) rfl | exact w_load_elt tab rfl rfl rfl rfl rfl | exact w_loads tab rfl rfl rfl rfl rfl rfl rfl rfl | exact w_load_tab tab rfl rfl rfl rfl (.head _) (by kernel_rfl) | exact w_loads_elt tab rfl rfl rfl rfl rfl rfl)
    apply ChainL.of (some 49) rfl rfl
    case h => exact step_move rfl
    apply ChainL.of (some 50) rfl rfl
    case h => (first | exact w_index_own tab rfl rfl rfl rfl rfl rfl rfl rfl (by omega) (by omega) rfl | exact w_index_lst tab rfl rfl rfl rfl rfl rfl rfl (by omega) (by assumption))
    apply ChainL.of (some 51) rfl rfl
    case h => (first | exact w_fieldAddr tab rfl rfl rfl rfl (by decide) rfl rfl | exact w_fieldAddr_elt tab rfl rfl rfl rfl (by decide) rfl rfl)
    apply ChainL.of (some 52) rfl rfl
    case h => (first | exact w_load tab rfl rfl rfl rfl rfl rfl rfl | exact w_load tab rfl rfl rfl rfl rfl (by assumption) rfl | exact w_load_elt tab rfl rfl rfl rfl rfl | exact w_loads tab rfl rfl rfl rfl rfl rfl rfl rfl | exact w_load_tab tab rfl rfl rfl rfl (.head _) (by kernel_rfl) | exact w_loads_elt tab rfl rfl rfl rfl rfl rfl)
    apply ChainL.of (some 4) rfl rfl
    case h => exact step_assign rfl
    apply ChainL.of (some 5) rfl rfl
    case h => exact step_assign rfl
    exact .nil
  show Cwp _ _ _ _
  refine cwp_ret ?_
  exact ⟨.inl rfl, resH_two rfl rfl rfl, objs_ok (by kernel_rfl)⟩
end Go.Proofs.Ytcbbpidnocgoiaa.Dk


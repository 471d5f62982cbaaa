/- Disks: made with a cut. -/
import Derived.Test.YtcbbpidnocgoiaaDkI
namespace Go.Proofs.Ytcbbpidnocgoiaa.Dk
open Go Go.RowKit Go.Proofs.Ytcbbpidnocgoiaa.Eng
set_option linter.unusedVariables false
set_option linter.unusedSimpArgs false
set_option maxRecDepth 20000
def zD : List ByteArray := List.replicate 9 ⟨#[]⟩
def zT : List Bool := List.replicate 9 false
theorem new9_5 (a : Int) : HCall Try.prog 6 [cutO a (.lst 1 [])] [.v (.int .i64 9), .own 0 0 1]
    [.ob (cutO a (.lst 1 [])), .ob (strs zD), .ob (bools zT), .ob ⟨8, [[.own 1 0 9, .own 2 0 9, .v (.slice none 0 0), .own 4 0 1, .v (.int .i64 0), .v (.int .i64 0), .v (.int .i64 0), .v (.bool false)]], false⟩, .ob (cutO a (.v (.slice none 0 0)))] (.tup [.ref 3 0 0, .v (.int .i64 0)]) := by
  refine HCall.of Try.func6 rfl (by decide +kernel) (Nat.le_of_ble_eq_true rfl) ?_
  refine cwp_seq ?_
  apply one_region
  case hc =>
    apply ChainL.of (some 4) rfl rfl
    case h => exact step_assign rfl
    apply ChainL.of (some 5) rfl rfl
    case h => exact step_assign rfl
    exact .nil
  show Cwp _ _ _ _
  refine cwp_seq ?_
  refine cwp_seq ?_
  apply one_region
  case hc =>
    apply ChainL.of (some 9) rfl rfl
    case h => exact step_move rfl
    apply ChainL.of (some 10) rfl rfl
    case h => (first | exact w_bin rfl rfl rfl (lss_t (by omega)) | exact w_bin rfl rfl rfl (lss_f (by omega)) | exact w_bin rfl rfl rfl rfl)
    apply ChainL.of (some 11) rfl rfl
    case h => exact step_move rfl
    first
    | apply ChainL.off (some 12) 2 11 false rfl rfl rfl rfl
    | apply ChainL.on (some 12) 2 11 false rfl rfl rfl rfl
      case h => exact step_move rfl
    first
    | apply ChainL.off (some 13) 2 11 false rfl rfl rfl rfl
    | apply ChainL.on (some 13) 2 11 false rfl rfl rfl rfl
      case h => (first | exact w_bin rfl rfl rfl (gtr_t (by omega)) | exact w_bin rfl rfl rfl (gtr_f (by omega)) | exact w_bin rfl rfl rfl rfl)
    apply ChainL.of (some 14) rfl rfl
    case h => exact step_pick rfl rfl
    exact .nil
  show Cwp _ _ _ _
  refine cond_f (by first | rfl | kernel_rfl) ?_
  refine cwp_skip ?_
  show Cwp _ _ _ _
  refine cwp_seq ?_
  apply one_region_draw [0, 1, 0, 4, 15, 31, 63] rfl
  case hc =>
    apply ChainL.of (some 15) rfl rfl
    case h => exact step_move rfl
    apply ChainL.of (some 16) rfl rfl
    case h => exact w_makeSlice tab rfl rfl rfl rfl 1 rfl rfl (by omega) (by dsimp only; omega) (by omega) (by decide) rfl rfl
    apply ChainL.of (some 17) rfl rfl
    case h => exact step_move rfl
    apply ChainL.of (some 18) rfl rfl
    case h => exact w_makeSlice tab rfl rfl rfl rfl 2 rfl rfl (by omega) (by dsimp only; omega) (by omega) (by decide) rfl rfl
    apply ChainL.of (some 19) rfl rfl
    case h => exact w_build tab rfl rfl (by decide) rfl rfl
    apply ChainL.of (some 20) rfl rfl
    case h => exact w_box rfl 3 rfl rfl rfl
    apply ChainL.of (some 6) rfl rfl
    case h => exact step_assign rfl
    exact .nil
  case hB => decide +kernel
  case hI => kernel_rfl
  show Cwp _ _ _ _
  refine cwp_seq ?_
  refine cwp_seq ?_
  apply one_region
  case hc =>
    apply ChainL.of (some 21) rfl rfl
    case h => exact step_move rfl
    apply ChainL.of (some 22) rfl rfl
    case h => exact w_len tab rfl rfl rfl (.own rfl rfl rfl) (n := 1) (by kernel_rfl)
    apply ChainL.of (some 23) rfl rfl
    case h => exact step_move rfl
    exact .nil
  show Cwp _ _ _ _
  refine cwp_block ?_
  refine cwp_loopN 2 ?_
  refine loop_round ?_
  refine cwp_seq ?_
  apply one_region
  case hc =>
    apply ChainL.of (some 24) rfl rfl
    case h => (first | exact w_bin rfl rfl rfl (lss_t (by omega)) | exact w_bin rfl rfl rfl (lss_f (by omega)) | exact w_bin rfl rfl rfl rfl)
    exact .nil
  show Cwp _ _ _ _
  refine cwp_seq ?_
  refine cond_t (by first | rfl | kernel_rfl) ?_
  refine cwp_skip ?_
  show Cwp _ _ _ _
  refine cwp_seq ?_
  refine cwp_block ?_
  refine cwp_seq ?_
  apply one_region
  case hc =>
    apply ChainL.of (some 25) rfl rfl
    case h => (first | exact w_index_own tab rfl rfl rfl rfl rfl rfl rfl rfl (by omega) (by omega) rfl | exact w_index_lst tab rfl rfl rfl rfl rfl rfl rfl (by omega) (by assumption))
    apply ChainL.of (some 26) rfl rfl
    case h => (first | exact w_load tab rfl rfl rfl rfl rfl rfl rfl | exact w_load tab rfl rfl rfl rfl rfl (by assumption) rfl | exact w_load_elt tab rfl rfl rfl rfl rfl | exact w_loads tab rfl rfl rfl rfl rfl rfl rfl rfl | exact w_load_tab tab rfl rfl rfl rfl (.head _) (by kernel_rfl) | exact w_loads_elt tab rfl rfl rfl rfl rfl rfl)
    apply ChainL.of (some 8) rfl rfl
    case h => exact w_alloc tab rfl rfl 100 rfl
    apply ChainL.of none rfl rfl
    case h => (first | exact w_store tab rfl rfl rfl rfl rfl rfl rfl rfl rfl (Nat.le_of_ble_eq_true rfl) rfl rfl | exact w_store tab rfl rfl rfl rfl rfl (by assumption) rfl rfl rfl (Nat.le_of_ble_eq_true rfl) rfl rfl)
    exact .nil
  show Cwp _ _ _ _
  refine cwp_seq ?_
  apply one_region
  case hc =>
    apply ChainL.of (some 27) rfl rfl
    case h => (first | exact w_fieldAddr tab rfl rfl rfl rfl (by decide) rfl rfl | exact w_fieldAddr_elt tab rfl rfl rfl rfl (by decide) rfl rfl)
    apply ChainL.of (some 28) rfl rfl
    case h => (first | exact w_load tab rfl rfl rfl rfl rfl rfl rfl | exact w_load tab rfl rfl rfl rfl rfl (by assumption) rfl | exact w_load_elt tab rfl rfl rfl rfl rfl | exact w_loads tab rfl rfl rfl rfl rfl rfl rfl rfl | exact w_load_tab tab rfl rfl rfl rfl (.head _) (by kernel_rfl) | exact w_loads_elt tab rfl rfl rfl rfl rfl rfl)
    apply ChainL.of (some 29) rfl rfl
    case h => exact w_append_none tab rfl rfl rfl rfl rfl rfl (by decide) rfl .lst
    apply ChainL.of (some 30) rfl rfl
    case h => (first | exact w_fieldAddr tab rfl rfl rfl rfl (by decide) rfl rfl | exact w_fieldAddr_elt tab rfl rfl rfl rfl (by decide) rfl rfl)
    apply ChainL.of none rfl rfl
    case h => (first | exact w_store tab rfl rfl rfl rfl rfl rfl rfl rfl rfl (Nat.le_of_ble_eq_true rfl) rfl rfl | exact w_store tab rfl rfl rfl rfl rfl (by assumption) rfl rfl rfl (Nat.le_of_ble_eq_true rfl) rfl rfl)
    exact .nil
  show Cwp _ _ _ _
  apply one_region_draw [0, 0, 2, 6, 14, 0, 32, 126, 255, 511, 1023] rfl
  case hc =>
    apply ChainL.of (some 31) rfl rfl
    case h => exact step_move rfl
    apply ChainL.of (some 32) rfl rfl
    case h => exact step_move rfl
    apply ChainL.of (some 33) rfl rfl
    case h => (first | exact step_nilCheck rfl rfl | exact step_nilCheck_elt rfl rfl)
    apply ChainL.of (some 34) rfl rfl
    case h => (first | exact w_fieldAddr tab rfl rfl rfl rfl (by decide) rfl rfl | exact w_fieldAddr_elt tab rfl rfl rfl rfl (by decide) rfl rfl)
    apply ChainL.of (some 35) rfl rfl
    case h => (first | exact w_load tab rfl rfl rfl rfl rfl rfl rfl | exact w_load tab rfl rfl rfl rfl rfl (by assumption) rfl | exact w_load_elt tab rfl rfl rfl rfl rfl | exact w_loads tab rfl rfl rfl rfl rfl rfl rfl rfl | exact w_load_tab tab rfl rfl rfl rfl (.head _) (by kernel_rfl) | exact w_loads_elt tab rfl rfl rfl rfl rfl rfl)
    apply ChainL.of (some 36) rfl rfl
    case h => (first | exact w_load tab rfl rfl rfl rfl rfl rfl rfl | exact w_load tab rfl rfl rfl rfl rfl (by assumption) rfl | exact w_load_elt tab rfl rfl rfl rfl rfl | exact w_loads tab rfl rfl rfl rfl rfl rfl rfl rfl | exact w_load_tab tab rfl rfl rfl rfl (.head _) (by kernel_rfl) | exact w_loads_elt tab rfl rfl rfl rfl rfl rfl)
    apply ChainL.of (some 37) rfl rfl
    case h => exact w_slice1 tab rfl rfl rfl rfl 101 (by decide) (by decide) rfl rfl rfl
    apply ChainL.of (some 38) rfl rfl
    case h => (first | exact w_append_nil_own tab rfl rfl rfl rfl rfl rfl 4 (by decide) rfl rfl rfl rfl rfl rfl rfl (Nat.le_of_ble_eq_true rfl) rfl (Nat.le_of_ble_eq_true rfl) (Nat.le_of_ble_eq_true rfl) rfl | (apply w_append_own (id' := 4) tab rfl rfl rfl rfl rfl rfl; (case hm0 => decide); (case hx => first | exact rfl | exact Nat.le_of_ble_eq_true rfl); (case hob => first | exact rfl | exact Nat.le_of_ble_eq_true rfl); (case him => first | exact rfl | exact Nat.le_of_ble_eq_true rfl); (case hfz => first | exact rfl | exact Nat.le_of_ble_eq_true rfl); (case hrx => first | exact rfl | exact Nat.le_of_ble_eq_true rfl); (case hlx => first | exact rfl | exact Nat.le_of_ble_eq_true rfl); (case hy => first | exact rfl | exact Nat.le_of_ble_eq_true rfl); (case hob2 => first | exact rfl | exact Nat.le_of_ble_eq_true rfl); (case hm => first | exact rfl | exact Nat.le_of_ble_eq_true rfl); (case hr => first | exact rfl | exact Nat.le_of_ble_eq_true rfl); (case hrl => first | exact rfl | exact Nat.le_of_ble_eq_true rfl); (case hone => first | exact rfl | exact Nat.le_of_ble_eq_true rfl); (case honex => first | exact rfl | exact Nat.le_of_ble_eq_true rfl); (case hid => first | exact rfl | exact Nat.le_of_ble_eq_true rfl); (case hlim => first | exact rfl | exact Nat.le_of_ble_eq_true rfl); (case h63 => first | exact rfl | exact Nat.le_of_ble_eq_true rfl); (case hn => first | exact rfl | exact Nat.le_of_ble_eq_true rfl); (case hrows => first | exact rfl | exact Nat.le_of_ble_eq_true rfl)))
    apply ChainL.of (some 39) rfl rfl
    case h => (first | exact step_nilCheck rfl rfl | exact step_nilCheck_elt rfl rfl)
    apply ChainL.of (some 40) rfl rfl
    case h => (first | exact w_fieldAddr tab rfl rfl rfl rfl (by decide) rfl rfl | exact w_fieldAddr_elt tab rfl rfl rfl rfl (by decide) rfl rfl)
    apply ChainL.of none rfl rfl
    case h => (first | exact w_store tab rfl rfl rfl rfl rfl rfl rfl rfl rfl (Nat.le_of_ble_eq_true rfl) rfl rfl | exact w_store tab rfl rfl rfl rfl rfl (by assumption) rfl rfl rfl (Nat.le_of_ble_eq_true rfl) rfl rfl)
    exact .nil
  case hB => decide +kernel
  case hI => kernel_rfl
  show Cwp _ _ _ _
  apply one_region
  case hc =>
    apply ChainL.of (some 41) rfl rfl
    case h => (first | exact w_bin rfl rfl rfl (add_i64 rfl (by omega) (by omega)) | exact w_bin rfl rfl rfl rfl)
    apply ChainL.of (some 23) rfl rfl
    case h => exact step_move rfl
    exact .nil
  show LoopN _ _ _ _ _
  refine loop_round ?_
  refine cwp_seq ?_
  apply one_region
  case hc =>
    apply ChainL.of (some 24) rfl rfl
    case h => (first | exact w_bin rfl rfl rfl (lss_t (by omega)) | exact w_bin rfl rfl rfl (lss_f (by omega)) | exact w_bin rfl rfl rfl rfl)
    exact .nil
  show Cwp _ _ _ _
  refine cwp_seq ?_
  refine cond_f (by first | rfl | kernel_rfl) ?_
  refine cwp_exit ?_
  show Cwp _ _ _ _
  refine cwp_seq ?_
  apply one_region
  case hc =>
    apply ChainL.of (some 42) rfl rfl
    case h => exact step_move rfl
    apply ChainL.of (some 4) rfl rfl
    case h => exact step_assign rfl
    apply ChainL.of (some 5) rfl rfl
    case h => exact step_assign rfl
    exact .nil
  show Cwp _ _ _ _
  refine cwp_ret ?_
  exact ⟨.inl rfl, resH_two rfl rfl rfl, objs_ok (by kernel_rfl)⟩
theorem new9_6 (a : Int) (F : List Int) (hF : 0 < F.length) (hB : F.length * 8 ≤ 140737488355328) : HCall Try.prog 6 [cutO a (.lst 1 (F.map fun s => [.v (.int .i64 s)]))] [.v (.int .i64 9), .own 0 0 1]
    [.ob (cutO a (.lst 1 (F.map fun s => [.v (.int .i64 s)]))), .ob (strs zD), .ob (bools zT), .ob ⟨8, [[.own 1 0 9, .own 2 0 9, .v (.slice none 0 0), .own 4 0 1, .v (.int .i64 0), .v (.int .i64 0), .v (.int .i64 0), .v (.bool false)]], false⟩, .ob (cutO a (.own 5 0 F.length)), .ob (ints F)] (.tup [.ref 3 0 0, .v (.int .i64 0)]) := by
  have hone : ((F.map fun s => [SV.v (.int .i64 s)]).all fun r => r.all SV.one) = true := by simp [SV.one, Value.oneCell']
  have hpos : 0 < (F.map fun s => [SV.v (.int .i64 s)]).length := by rw [List.length_map]; exact hF
  have hlim : (F.map fun s => [SV.v (.int .i64 s)]).length * 8 ≤ 140737488355328 := by rw [List.length_map]; exact hB
  have h63 : (F.map fun s => [SV.v (.int .i64 s)]).length ≤ 9223372036854775807 := by rw [List.length_map]; omega
  refine HCall.of Try.func6 rfl (by decide +kernel) (Nat.le_of_ble_eq_true rfl) ?_
  refine cwp_seq ?_
  apply one_region
  case hc =>
    apply ChainL.of (some 4) rfl rfl
    case h => exact step_assign rfl
    apply ChainL.of (some 5) rfl rfl
    case h => exact step_assign rfl
    exact .nil
  show Cwp _ _ _ _
  refine cwp_seq ?_
  refine cwp_seq ?_
  apply one_region
  case hc =>
    apply ChainL.of (some 9) rfl rfl
    case h => exact step_move rfl
    apply ChainL.of (some 10) rfl rfl
    case h => (first | exact w_bin rfl rfl rfl (lss_t (by omega)) | exact w_bin rfl rfl rfl (lss_f (by omega)) | exact w_bin rfl rfl rfl rfl)
    apply ChainL.of (some 11) rfl rfl
    case h => exact step_move rfl
    first
    | apply ChainL.off (some 12) 2 11 false rfl rfl rfl rfl
    | apply ChainL.on (some 12) 2 11 false rfl rfl rfl rfl
      case h => exact step_move rfl
    first
    | apply ChainL.off (some 13) 2 11 false rfl rfl rfl rfl
    | apply ChainL.on (some 13) 2 11 false rfl rfl rfl rfl
      case h => (first | exact w_bin rfl rfl rfl (gtr_t (by omega)) | exact w_bin rfl rfl rfl (gtr_f (by omega)) | exact w_bin rfl rfl rfl rfl)
    apply ChainL.of (some 14) rfl rfl
    case h => exact step_pick rfl rfl
    exact .nil
  show Cwp _ _ _ _
  refine cond_f (by first | rfl | kernel_rfl) ?_
  refine cwp_skip ?_
  show Cwp _ _ _ _
  refine cwp_seq ?_
  apply one_region_draw [0, 1, 0, 4, 15, 31, 63] rfl
  case hc =>
    apply ChainL.of (some 15) rfl rfl
    case h => exact step_move rfl
    apply ChainL.of (some 16) rfl rfl
    case h => exact w_makeSlice tab rfl rfl rfl rfl 1 rfl rfl (by omega) (by dsimp only; omega) (by omega) (by decide) rfl rfl
    apply ChainL.of (some 17) rfl rfl
    case h => exact step_move rfl
    apply ChainL.of (some 18) rfl rfl
    case h => exact w_makeSlice tab rfl rfl rfl rfl 2 rfl rfl (by omega) (by dsimp only; omega) (by omega) (by decide) rfl rfl
    apply ChainL.of (some 19) rfl rfl
    case h => exact w_build tab rfl rfl (by decide) rfl rfl
    apply ChainL.of (some 20) rfl rfl
    case h => exact w_box rfl 3 rfl rfl rfl
    apply ChainL.of (some 6) rfl rfl
    case h => exact step_assign rfl
    exact .nil
  case hB => decide +kernel
  case hI => kernel_rfl
  show Cwp _ _ _ _
  refine cwp_seq ?_
  refine cwp_seq ?_
  apply one_region
  case hc =>
    apply ChainL.of (some 21) rfl rfl
    case h => exact step_move rfl
    apply ChainL.of (some 22) rfl rfl
    case h => exact w_len tab rfl rfl rfl (.own rfl rfl rfl) (n := 1) (by kernel_rfl)
    apply ChainL.of (some 23) rfl rfl
    case h => exact step_move rfl
    exact .nil
  show Cwp _ _ _ _
  refine cwp_block ?_
  refine cwp_loopN 2 ?_
  refine loop_round ?_
  refine cwp_seq ?_
  apply one_region
  case hc =>
    apply ChainL.of (some 24) rfl rfl
    case h => (first | exact w_bin rfl rfl rfl (lss_t (by omega)) | exact w_bin rfl rfl rfl (lss_f (by omega)) | exact w_bin rfl rfl rfl rfl)
    exact .nil
  show Cwp _ _ _ _
  refine cwp_seq ?_
  refine cond_t (by first | rfl | kernel_rfl) ?_
  refine cwp_skip ?_
  show Cwp _ _ _ _
  refine cwp_seq ?_
  refine cwp_block ?_
  refine cwp_seq ?_
  apply one_region
  case hc =>
    apply ChainL.of (some 25) rfl rfl
    case h => (first | exact w_index_own tab rfl rfl rfl rfl rfl rfl rfl rfl (by omega) (by omega) rfl | exact w_index_lst tab rfl rfl rfl rfl rfl rfl rfl (by omega) (by assumption))
    apply ChainL.of (some 26) rfl rfl
    case h => (first | exact w_load tab rfl rfl rfl rfl rfl rfl rfl | exact w_load tab rfl rfl rfl rfl rfl (by assumption) rfl | exact w_load_elt tab rfl rfl rfl rfl rfl | exact w_loads tab rfl rfl rfl rfl rfl rfl rfl rfl | exact w_load_tab tab rfl rfl rfl rfl (.head _) (by kernel_rfl) | exact w_loads_elt tab rfl rfl rfl rfl rfl rfl)
    apply ChainL.of (some 8) rfl rfl
    case h => exact w_alloc tab rfl rfl 102 rfl
    apply ChainL.of none rfl rfl
    case h => (first | exact w_store tab rfl rfl rfl rfl rfl rfl rfl rfl rfl (Nat.le_of_ble_eq_true rfl) rfl rfl | exact w_store tab rfl rfl rfl rfl rfl (by assumption) rfl rfl rfl (Nat.le_of_ble_eq_true rfl) rfl rfl)
    exact .nil
  show Cwp _ _ _ _
  refine cwp_seq ?_
  apply one_region
  case hc =>
    apply ChainL.of (some 27) rfl rfl
    case h => (first | exact w_fieldAddr tab rfl rfl rfl rfl (by decide) rfl rfl | exact w_fieldAddr_elt tab rfl rfl rfl rfl (by decide) rfl rfl)
    apply ChainL.of (some 28) rfl rfl
    case h => (first | exact w_load tab rfl rfl rfl rfl rfl rfl rfl | exact w_load tab rfl rfl rfl rfl rfl (by assumption) rfl | exact w_load_elt tab rfl rfl rfl rfl rfl | exact w_loads tab rfl rfl rfl rfl rfl rfl rfl rfl | exact w_load_tab tab rfl rfl rfl rfl (.head _) (by kernel_rfl) | exact w_loads_elt tab rfl rfl rfl rfl rfl rfl)
    apply ChainL.of (some 29) rfl rfl
    case h => exact w_append_nil tab rfl rfl rfl rfl rfl rfl 5 (by decide) rfl .lst hone hpos rfl hlim h63 (List.length_map _)
    apply ChainL.of (some 30) rfl rfl
    case h => (first | exact w_fieldAddr tab rfl rfl rfl rfl (by decide) rfl rfl | exact w_fieldAddr_elt tab rfl rfl rfl rfl (by decide) rfl rfl)
    apply ChainL.of none rfl rfl
    case h => (first | exact w_store tab rfl rfl rfl rfl rfl rfl rfl rfl rfl (Nat.le_of_ble_eq_true rfl) rfl rfl | exact w_store tab rfl rfl rfl rfl rfl (by assumption) rfl rfl rfl (Nat.le_of_ble_eq_true rfl) rfl rfl)
    exact .nil
  show Cwp _ _ _ _
  apply one_region_draw [0, 0, 2, 6, 14, 0, 32, 126, 255, 511, 1023] rfl
  case hc =>
    apply ChainL.of (some 31) rfl rfl
    case h => exact step_move rfl
    apply ChainL.of (some 32) rfl rfl
    case h => exact step_move rfl
    apply ChainL.of (some 33) rfl rfl
    case h => (first | exact step_nilCheck rfl rfl | exact step_nilCheck_elt rfl rfl)
    apply ChainL.of (some 34) rfl rfl
    case h => (first | exact w_fieldAddr tab rfl rfl rfl rfl (by decide) rfl rfl | exact w_fieldAddr_elt tab rfl rfl rfl rfl (by decide) rfl rfl)
    apply ChainL.of (some 35) rfl rfl
    case h => (first | exact w_load tab rfl rfl rfl rfl rfl rfl rfl | exact w_load tab rfl rfl rfl rfl rfl (by assumption) rfl | exact w_load_elt tab rfl rfl rfl rfl rfl | exact w_loads tab rfl rfl rfl rfl rfl rfl rfl rfl | exact w_load_tab tab rfl rfl rfl rfl (.head _) (by kernel_rfl) | exact w_loads_elt tab rfl rfl rfl rfl rfl rfl)
    apply ChainL.of (some 36) rfl rfl
    case h => (first | exact w_load tab rfl rfl rfl rfl rfl rfl rfl | exact w_load tab rfl rfl rfl rfl rfl (by assumption) rfl | exact w_load_elt tab rfl rfl rfl rfl rfl | exact w_loads tab rfl rfl rfl rfl rfl rfl rfl rfl | exact w_load_tab tab rfl rfl rfl rfl (.head _) (by kernel_rfl) | exact w_loads_elt tab rfl rfl rfl rfl rfl rfl)
    apply ChainL.of (some 37) rfl rfl
    case h => exact w_slice1 tab rfl rfl rfl rfl 103 (by decide) (by decide) rfl rfl rfl
    apply ChainL.of (some 38) rfl rfl
    case h => (first | exact w_append_nil_own tab rfl rfl rfl rfl rfl rfl 4 (by decide) rfl rfl rfl rfl rfl rfl rfl (Nat.le_of_ble_eq_true rfl) rfl (Nat.le_of_ble_eq_true rfl) (Nat.le_of_ble_eq_true rfl) rfl | (apply w_append_own (id' := 4) tab rfl rfl rfl rfl rfl rfl; (case hm0 => decide); (case hx => first | exact rfl | exact Nat.le_of_ble_eq_true rfl); (case hob => first | exact rfl | exact Nat.le_of_ble_eq_true rfl); (case him => first | exact rfl | exact Nat.le_of_ble_eq_true rfl); (case hfz => first | exact rfl | exact Nat.le_of_ble_eq_true rfl); (case hrx => first | exact rfl | exact Nat.le_of_ble_eq_true rfl); (case hlx => first | exact rfl | exact Nat.le_of_ble_eq_true rfl); (case hy => first | exact rfl | exact Nat.le_of_ble_eq_true rfl); (case hob2 => first | exact rfl | exact Nat.le_of_ble_eq_true rfl); (case hm => first | exact rfl | exact Nat.le_of_ble_eq_true rfl); (case hr => first | exact rfl | exact Nat.le_of_ble_eq_true rfl); (case hrl => first | exact rfl | exact Nat.le_of_ble_eq_true rfl); (case hone => first | exact rfl | exact Nat.le_of_ble_eq_true rfl); (case honex => first | exact rfl | exact Nat.le_of_ble_eq_true rfl); (case hid => first | exact rfl | exact Nat.le_of_ble_eq_true rfl); (case hlim => first | exact rfl | exact Nat.le_of_ble_eq_true rfl); (case h63 => first | exact rfl | exact Nat.le_of_ble_eq_true rfl); (case hn => first | exact rfl | exact Nat.le_of_ble_eq_true rfl); (case hrows => first | exact rfl | exact Nat.le_of_ble_eq_true rfl)))
    apply ChainL.of (some 39) rfl rfl
    case h => (first | exact step_nilCheck rfl rfl | exact step_nilCheck_elt rfl rfl)
    apply ChainL.of (some 40) rfl rfl
    case h => (first | exact w_fieldAddr tab rfl rfl rfl rfl (by decide) rfl rfl | exact w_fieldAddr_elt tab rfl rfl rfl rfl (by decide) rfl rfl)
    apply ChainL.of none rfl rfl
    case h => (first | exact w_store tab rfl rfl rfl rfl rfl rfl rfl rfl rfl (Nat.le_of_ble_eq_true rfl) rfl rfl | exact w_store tab rfl rfl rfl rfl rfl (by assumption) rfl rfl rfl (Nat.le_of_ble_eq_true rfl) rfl rfl)
    exact .nil
  case hB => decide +kernel
  case hI => kernel_rfl
  show Cwp _ _ _ _
  apply one_region
  case hc =>
    apply ChainL.of (some 41) rfl rfl
    case h => (first | exact w_bin rfl rfl rfl (add_i64 rfl (by omega) (by omega)) | exact w_bin rfl rfl rfl rfl)
    apply ChainL.of (some 23) rfl rfl
    case h => exact step_move rfl
    exact .nil
  show LoopN _ _ _ _ _
  refine loop_round ?_
  refine cwp_seq ?_
  apply one_region
  case hc =>
    apply ChainL.of (some 24) rfl rfl
    case h => (first | exact w_bin rfl rfl rfl (lss_t (by omega)) | exact w_bin rfl rfl rfl (lss_f (by omega)) | exact w_bin rfl rfl rfl rfl)
    exact .nil
  show Cwp _ _ _ _
  refine cwp_seq ?_
  refine cond_f (by first | rfl | kernel_rfl) ?_
  refine cwp_exit ?_
  show Cwp _ _ _ _
  refine cwp_seq ?_
  apply one_region
  case hc =>
    apply ChainL.of (some 42) rfl rfl
    case h => exact step_move rfl
    apply ChainL.of (some 4) rfl rfl
    case h => exact step_assign rfl
    apply ChainL.of (some 5) rfl rfl
    case h => exact step_assign rfl
    exact .nil
  show Cwp _ _ _ _
  refine cwp_ret ?_
  exact ⟨.inl rfl, resH_two rfl rfl rfl, objs_ok (by kernel_rfl)⟩
end Go.Proofs.Ytcbbpidnocgoiaa.Dk


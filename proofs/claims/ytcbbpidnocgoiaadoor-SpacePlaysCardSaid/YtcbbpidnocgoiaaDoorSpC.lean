/- Places: counting. -/
import Derived.Test.YtcbbpidnocgoiaaDoorSpB
namespace Go.Proofs.YtcbbpidnocgoiaaDoor.Sp
open Go Go.RowKit Go.Proofs.YtcbbpidnocgoiaaDoor.Eng
set_option linter.unusedVariables false
set_option linter.unusedSimpArgs false
set_option maxRecDepth 20000
theorem tz_one : HCall Tryd.prog 17 [] [.v (.int .u64 18446744073709551614)] [] (.v (.int .i64 1)) := by
  refine HCall.of Tryd.func17 rfl (by decide +kernel) (Nat.le_of_ble_eq_true rfl) ?_
  apply seq_region
  case hc =>
    apply ChainL.of (some 2) rfl rfl
    case h => exact step_assign rfl
    exact .nil
  refine cwp_seq ?_
  refine cwp_seq ?_
  apply one_region
  case hc =>
    apply ChainL.of (some 3) rfl rfl
    case h => exact step_move rfl
    apply ChainL.of (some 4) rfl rfl
    case h => (first | exact w_bin rfl rfl rfl (eql_t (by omega)) | exact w_bin rfl rfl rfl (eql_f (by omega)) | exact w_bin rfl rfl rfl rfl)
    exact .nil
  show Cwp _ _ _ _
  refine cond_f rfl ?_
  refine cwp_skip ?_
  show Cwp _ _ _ _
  apply seq_region
  case hc =>
    apply ChainL.of (some 5) rfl rfl
    case h => exact step_move rfl
    apply ChainL.of (some 6) rfl rfl
    case h => exact step_move rfl
    apply ChainL.of (some 7) rfl rfl
    case h => exact w_un rfl rfl rfl
    apply ChainL.of (some 8) rfl rfl
    case h => exact w_bin rfl rfl rfl rfl
    apply ChainL.of (some 9) rfl rfl
    case h => (first | exact w_bin rfl rfl rfl (mul_i64 rfl (by omega) (by omega)) | exact w_bin rfl rfl rfl rfl)
    apply ChainL.of (some 10) rfl rfl
    case h => (first | exact w_bin rfl rfl rfl (shr_ok (by omega)) | exact w_bin rfl rfl rfl rfl)
    apply ChainL.of (some 11) rfl rfl
    case h => exact w_index_tab (T := 41) (n := 64) (e := 5) (q := 1) (by kernel_rfl) (by kernel_rfl) rfl rfl rfl (by decide) (by decide) (by kernel_rfl)
    apply ChainL.of (some 12) rfl rfl
    case h => exact w_load_tab tab rfl rfl rfl rfl (.head _) (v := .int .u8 1) (by kernel_rfl)
    apply ChainL.of (some 13) rfl rfl
    case h => exact w_conv tab rfl rfl rfl rfl rfl rfl
    apply ChainL.of (some 2) rfl rfl
    case h => exact step_assign rfl
    exact .nil
  exact cwp_ret ⟨.inl rfl, resH_one rfl (by kernel_rfl), fun i x h => by simp at h⟩
theorem ones_one : HCall Tryd.prog 18 [] [.v (.int .u64 1)] [] (.v (.int .i64 1)) := by
  refine HCall.of Tryd.func18 rfl (by decide +kernel) (Nat.le_of_ble_eq_true rfl) ?_
  apply seq_region
  case hc =>
    apply ChainL.of (some 2) rfl rfl
    case h => exact step_assign rfl
    exact .nil
  apply seq_region
  case hc =>
    apply ChainL.of (some 3) rfl rfl
    case h => exact step_move rfl
    apply ChainL.of (some 4) rfl rfl
    case h => (first | exact w_bin rfl rfl rfl (shr_ok (by omega)) | exact w_bin rfl rfl rfl rfl)
    apply ChainL.of (some 5) rfl rfl
    case h => exact w_bin rfl rfl rfl rfl
    apply ChainL.of (some 6) rfl rfl
    case h => exact step_move rfl
    apply ChainL.of (some 7) rfl rfl
    case h => exact w_bin rfl rfl rfl rfl
    apply ChainL.of (some 8) rfl rfl
    case h => (first | exact w_bin rfl rfl rfl (add_i64 rfl (by omega) (by omega)) | exact w_bin rfl rfl rfl rfl)
    apply ChainL.of (some 0) rfl rfl
    case h => exact step_assign rfl
    exact .nil
  apply seq_region
  case hc =>
    apply ChainL.of (some 9) rfl rfl
    case h => exact step_move rfl
    apply ChainL.of (some 10) rfl rfl
    case h => (first | exact w_bin rfl rfl rfl (shr_ok (by omega)) | exact w_bin rfl rfl rfl rfl)
    apply ChainL.of (some 11) rfl rfl
    case h => exact w_bin rfl rfl rfl rfl
    apply ChainL.of (some 12) rfl rfl
    case h => exact step_move rfl
    apply ChainL.of (some 13) rfl rfl
    case h => exact w_bin rfl rfl rfl rfl
    apply ChainL.of (some 14) rfl rfl
    case h => (first | exact w_bin rfl rfl rfl (add_i64 rfl (by omega) (by omega)) | exact w_bin rfl rfl rfl rfl)
    apply ChainL.of (some 0) rfl rfl
    case h => exact step_assign rfl
    exact .nil
  apply seq_region
  case hc =>
    apply ChainL.of (some 15) rfl rfl
    case h => exact step_move rfl
    apply ChainL.of (some 16) rfl rfl
    case h => (first | exact w_bin rfl rfl rfl (shr_ok (by omega)) | exact w_bin rfl rfl rfl rfl)
    apply ChainL.of (some 17) rfl rfl
    case h => exact step_move rfl
    apply ChainL.of (some 18) rfl rfl
    case h => (first | exact w_bin rfl rfl rfl (add_i64 rfl (by omega) (by omega)) | exact w_bin rfl rfl rfl rfl)
    apply ChainL.of (some 19) rfl rfl
    case h => exact w_bin rfl rfl rfl rfl
    apply ChainL.of (some 0) rfl rfl
    case h => exact step_assign rfl
    exact .nil
  apply seq_region
  case hc =>
    apply ChainL.of (some 20) rfl rfl
    case h => exact step_move rfl
    apply ChainL.of (some 21) rfl rfl
    case h => exact step_move rfl
    apply ChainL.of (some 22) rfl rfl
    case h => (first | exact w_bin rfl rfl rfl (shr_ok (by omega)) | exact w_bin rfl rfl rfl rfl)
    apply ChainL.of (some 23) rfl rfl
    case h => (first | exact w_bin rfl rfl rfl (add_i64 rfl (by omega) (by omega)) | exact w_bin rfl rfl rfl rfl)
    apply ChainL.of (some 0) rfl rfl
    case h => exact step_assign rfl
    exact .nil
  apply seq_region
  case hc =>
    apply ChainL.of (some 24) rfl rfl
    case h => exact step_move rfl
    apply ChainL.of (some 25) rfl rfl
    case h => exact step_move rfl
    apply ChainL.of (some 26) rfl rfl
    case h => (first | exact w_bin rfl rfl rfl (shr_ok (by omega)) | exact w_bin rfl rfl rfl rfl)
    apply ChainL.of (some 27) rfl rfl
    case h => (first | exact w_bin rfl rfl rfl (add_i64 rfl (by omega) (by omega)) | exact w_bin rfl rfl rfl rfl)
    apply ChainL.of (some 0) rfl rfl
    case h => exact step_assign rfl
    exact .nil
  apply seq_region
  case hc =>
    apply ChainL.of (some 28) rfl rfl
    case h => exact step_move rfl
    apply ChainL.of (some 29) rfl rfl
    case h => exact step_move rfl
    apply ChainL.of (some 30) rfl rfl
    case h => (first | exact w_bin rfl rfl rfl (shr_ok (by omega)) | exact w_bin rfl rfl rfl rfl)
    apply ChainL.of (some 31) rfl rfl
    case h => (first | exact w_bin rfl rfl rfl (add_i64 rfl (by omega) (by omega)) | exact w_bin rfl rfl rfl rfl)
    apply ChainL.of (some 0) rfl rfl
    case h => exact step_assign rfl
    exact .nil
  apply seq_region
  case hc =>
    apply ChainL.of (some 32) rfl rfl
    case h => exact step_move rfl
    apply ChainL.of (some 33) rfl rfl
    case h => exact w_conv tab rfl rfl rfl rfl rfl rfl
    apply ChainL.of (some 34) rfl rfl
    case h => exact w_bin rfl rfl rfl rfl
    apply ChainL.of (some 2) rfl rfl
    case h => exact step_assign rfl
    exact .nil
  exact cwp_ret ⟨.inl rfl, resH_one rfl (by kernel_rfl), fun i x h => by simp at h⟩
end Go.Proofs.YtcbbpidnocgoiaaDoor.Sp


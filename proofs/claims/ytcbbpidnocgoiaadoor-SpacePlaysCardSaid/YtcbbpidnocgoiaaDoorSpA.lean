/- Places: the methods where there is no place. -/
import Derived.Test.YtcbbpidnocgoiaaDoorSpT
import Derived.Test.YtcbbpidnocgoiaaDoorEng17
namespace Go.Proofs.YtcbbpidnocgoiaaDoor.Sp
open Go Go.RowKit Go.Proofs.YtcbbpidnocgoiaaDoor.Eng
set_option linter.unusedVariables false
set_option linter.unusedSimpArgs false
set_option maxRecDepth 20000
theorem in_nil (i : Int) : HCall Tryd.prog 16 [] [.v (.pointer none), .v (.int .i64 i)] [] (.v (.bool false)) := by
  refine HCall.of Tryd.func16 rfl (by decide +kernel) (Nat.le_of_ble_eq_true rfl) ?_
  apply seq_region
  case hc =>
    apply ChainL.of (some 4) rfl rfl
    case h => exact step_assign rfl
    exact .nil
  apply seq_region
  case hc =>
    apply ChainL.of (some 5) rfl rfl
    case h => exact step_move rfl
    apply ChainL.of (some 6) rfl rfl
    case h => (first | exact w_nil_nil tab (b := false) rfl rfl rfl rfl rfl | exact w_ptr_nil tab (b := false) rfl rfl rfl rfl rfl)
    apply ChainL.of (some 7) rfl rfl
    case h => exact step_move rfl
    first
    | apply ChainL.off (some 8) 2 7 true rfl rfl rfl rfl
    | apply ChainL.on (some 8) 2 7 true rfl rfl rfl rfl
      case h => exact step_move rfl
    first
    | apply ChainL.off (some 9) 2 7 true rfl rfl rfl rfl
    | apply ChainL.on (some 9) 2 7 true rfl rfl rfl rfl
      case h => (first | exact w_bin rfl rfl rfl (geq_t (by omega)) | exact w_bin rfl rfl rfl (geq_f (by omega)) | exact w_bin rfl rfl rfl rfl)
    apply ChainL.of (some 10) rfl rfl
    case h => exact step_pick rfl rfl
    apply ChainL.of (some 11) rfl rfl
    case h => exact step_move rfl
    first
    | apply ChainL.off (some 12) 6 11 true rfl rfl rfl rfl
    | apply ChainL.on (some 12) 6 11 true rfl rfl rfl rfl
      case h => exact step_move rfl
    first
    | apply ChainL.off (some 13) 6 11 true rfl rfl rfl rfl
    | apply ChainL.on (some 13) 6 11 true rfl rfl rfl rfl
      case h => exact step_move rfl
    first
    | apply ChainL.off (some 14) 6 11 true rfl rfl rfl rfl
    | apply ChainL.on (some 14) 6 11 true rfl rfl rfl rfl
      case h => (first | exact step_nilCheck rfl rfl | exact step_nilCheck_elt rfl rfl)
    first
    | apply ChainL.off (some 15) 6 11 true rfl rfl rfl rfl
    | apply ChainL.on (some 15) 6 11 true rfl rfl rfl rfl
      case h => (first | exact w_fieldAddr tab rfl rfl rfl rfl (by decide) rfl rfl | exact w_fieldAddr_elt tab rfl rfl rfl rfl (by decide) rfl rfl)
    first
    | apply ChainL.off (some 16) 6 11 true rfl rfl rfl rfl
    | apply ChainL.on (some 16) 6 11 true rfl rfl rfl rfl
      case h => (first | exact w_load tab rfl rfl rfl rfl rfl rfl rfl | exact w_load tab rfl rfl rfl rfl rfl (by assumption) rfl | exact w_load_elt tab rfl rfl rfl rfl rfl | exact w_loads tab rfl rfl rfl rfl rfl rfl rfl rfl | exact w_load_tab tab rfl rfl rfl rfl (.head _) (by kernel_rfl) | exact w_loads_elt tab rfl rfl rfl rfl rfl rfl)
    first
    | apply ChainL.off (some 17) 6 11 true rfl rfl rfl rfl
    | apply ChainL.on (some 17) 6 11 true rfl rfl rfl rfl
      case h => (first | exact w_bin rfl rfl rfl (lss_t (by omega)) | exact w_bin rfl rfl rfl (lss_f (by omega)) | exact w_bin rfl rfl rfl rfl)
    apply ChainL.of (some 18) rfl rfl
    case h => exact step_pick rfl rfl
    apply ChainL.of (some 4) rfl rfl
    case h => exact step_assign rfl
    exact .nil
  exact cwp_ret ⟨.inl rfl, resH_one rfl rfl, fun i x h => by simp at h⟩
theorem many_nil : HCall Tryd.prog 8 [] [.v (.pointer none)] [] (.v (.int .i64 0)) := by
  refine HCall.of Tryd.func8 rfl (by decide +kernel) (Nat.le_of_ble_eq_true rfl) ?_
  apply seq_region
  case hc =>
    apply ChainL.of (some 2) rfl rfl
    case h => exact step_assign rfl
    exact .nil
  refine cwp_seq ?_
  apply seq_region
  case hc =>
    apply ChainL.of (some 3) rfl rfl
    case h => exact step_move rfl
    apply ChainL.of (some 4) rfl rfl
    case h => (first | exact w_nil_nil tab (b := true) rfl rfl rfl rfl rfl | exact w_ptr_nil tab (b := true) rfl rfl rfl rfl rfl)
    exact .nil
  refine cond_t rfl ?_
  apply seq_region
  case hc =>
    apply ChainL.of (some 2) rfl rfl
    case h => exact step_assign rfl
    exact .nil
  exact cwp_ret ⟨.inl rfl, resH_one rfl rfl, fun i x h => by simp at h⟩
theorem used_nil (i : Int) : HCall Tryd.prog 11 [] [.v (.pointer none), .v (.int .i64 i)] [] (.v (.bool true)) := by
  refine HCall.of Tryd.func11 rfl (by decide +kernel) (Nat.le_of_ble_eq_true rfl) ?_
  apply seq_region
  case hc =>
    apply ChainL.of (some 4) rfl rfl
    case h => exact step_assign rfl
    exact .nil
  apply seq_region
  case hc =>
    apply ChainL.of (some 5) rfl rfl
    case h => exact step_move rfl
    apply ChainL.of (some 6) rfl rfl
    case h => exact step_move rfl
    apply ChainL.of (some 7) rfl rfl
    case h => exact w_call (in_nil _) [] [] [] Tryd.func16 rfl (by decide +kernel) rfl rfl .nil (by decide) rfl rfl rfl rfl rfl rfl rfl rfl rfl rfl rfl
    apply ChainL.of (some 8) rfl rfl
    case h => exact w_un rfl rfl rfl
    apply ChainL.of (some 9) rfl rfl
    case h => exact step_move rfl
    first
    | apply ChainL.off (some 10) 4 9 false rfl rfl rfl rfl
    | apply ChainL.on (some 10) 4 9 false rfl rfl rfl rfl
      case h => exact step_move rfl
    first
    | apply ChainL.off (some 11) 4 9 false rfl rfl rfl rfl
    | apply ChainL.on (some 11) 4 9 false rfl rfl rfl rfl
      case h => (first | exact step_nilCheck rfl rfl | exact step_nilCheck_elt rfl rfl)
    first
    | apply ChainL.off (some 12) 4 9 false rfl rfl rfl rfl
    | apply ChainL.on (some 12) 4 9 false rfl rfl rfl rfl
      case h => (first | exact w_fieldAddr tab rfl rfl rfl rfl (by decide) rfl rfl | exact w_fieldAddr_elt tab rfl rfl rfl rfl (by decide) rfl rfl)
    first
    | apply ChainL.off (some 13) 4 9 false rfl rfl rfl rfl
    | apply ChainL.on (some 13) 4 9 false rfl rfl rfl rfl
      case h => (first | exact w_load tab rfl rfl rfl rfl rfl rfl rfl | exact w_load tab rfl rfl rfl rfl rfl (by assumption) rfl | exact w_load_elt tab rfl rfl rfl rfl rfl | exact w_loads tab rfl rfl rfl rfl rfl rfl rfl rfl | exact w_load_tab tab rfl rfl rfl rfl (.head _) (by kernel_rfl) | exact w_loads_elt tab rfl rfl rfl rfl rfl rfl)
    first
    | apply ChainL.off (some 14) 4 9 false rfl rfl rfl rfl
    | apply ChainL.on (some 14) 4 9 false rfl rfl rfl rfl
      case h => exact step_move rfl
    first
    | apply ChainL.off (some 15) 4 9 false rfl rfl rfl rfl
    | apply ChainL.on (some 15) 4 9 false rfl rfl rfl rfl
      case h => (first | exact w_bin rfl rfl rfl (quo_i64 (by omega) (by omega) (by omega) rfl) | exact w_bin rfl rfl rfl rfl)
    first
    | apply ChainL.off (some 16) 4 9 false rfl rfl rfl rfl
    | apply ChainL.on (some 16) 4 9 false rfl rfl rfl rfl
      case h => (first | exact w_index_own tab rfl rfl rfl rfl rfl rfl rfl rfl (by omega) (by omega) rfl | exact w_index_lst tab rfl rfl rfl rfl rfl rfl rfl (by omega) (by assumption))
    first
    | apply ChainL.off (some 17) 4 9 false rfl rfl rfl rfl
    | apply ChainL.on (some 17) 4 9 false rfl rfl rfl rfl
      case h => (first | exact w_load tab rfl rfl rfl rfl rfl rfl rfl | exact w_load tab rfl rfl rfl rfl rfl (by assumption) rfl | exact w_load_elt tab rfl rfl rfl rfl rfl | exact w_loads tab rfl rfl rfl rfl rfl rfl rfl rfl | exact w_load_tab tab rfl rfl rfl rfl (.head _) (by kernel_rfl) | exact w_loads_elt tab rfl rfl rfl rfl rfl rfl)
    first
    | apply ChainL.off (some 18) 4 9 false rfl rfl rfl rfl
    | apply ChainL.on (some 18) 4 9 false rfl rfl rfl rfl
      case h => exact step_move rfl
    first
    | apply ChainL.off (some 19) 4 9 false rfl rfl rfl rfl
    | apply ChainL.on (some 19) 4 9 false rfl rfl rfl rfl
      case h => (first | exact w_bin rfl rfl rfl (rem_i64 (by omega) (by omega) rfl) | exact w_bin rfl rfl rfl rfl)
    first
    | apply ChainL.off (some 20) 4 9 false rfl rfl rfl rfl
    | apply ChainL.on (some 20) 4 9 false rfl rfl rfl rfl
      case h => (first | exact w_bin rfl rfl rfl (shr_ok (by omega)) | exact w_bin rfl rfl rfl rfl)
    first
    | apply ChainL.off (some 21) 4 9 false rfl rfl rfl rfl
    | apply ChainL.on (some 21) 4 9 false rfl rfl rfl rfl
      case h => exact w_bin rfl rfl rfl rfl
    first
    | apply ChainL.off (some 22) 4 9 false rfl rfl rfl rfl
    | apply ChainL.on (some 22) 4 9 false rfl rfl rfl rfl
      case h => (first | exact w_bin rfl rfl rfl (eql_t (by omega)) | exact w_bin rfl rfl rfl (eql_f (by omega)) | exact w_bin rfl rfl rfl rfl)
    apply ChainL.of (some 23) rfl rfl
    case h => exact step_pick rfl rfl
    apply ChainL.of (some 4) rfl rfl
    case h => exact step_assign rfl
    exact .nil
  exact cwp_ret ⟨.inl rfl, resH_one rfl rfl, fun i x h => by simp at h⟩
theorem use_nil (i : Int) : HCall Tryd.prog 9 [] [.v (.pointer none), .v (.int .i64 i)] [] (.v (.bool false)) := by
  refine HCall.of Tryd.func9 rfl (by decide +kernel) (Nat.le_of_ble_eq_true rfl) ?_
  apply seq_region
  case hc =>
    apply ChainL.of (some 4) rfl rfl
    case h => exact step_assign rfl
    exact .nil
  refine cwp_seq ?_
  apply seq_region
  case hc =>
    apply ChainL.of (some 5) rfl rfl
    case h => exact step_move rfl
    apply ChainL.of (some 6) rfl rfl
    case h => exact step_move rfl
    apply ChainL.of (some 7) rfl rfl
    case h => exact w_call (used_nil _) [] [] [] Tryd.func11 rfl (by decide +kernel) rfl rfl .nil (by decide) rfl rfl rfl rfl rfl rfl rfl rfl rfl rfl rfl
    exact .nil
  refine cond_t rfl ?_
  apply seq_region
  case hc =>
    apply ChainL.of (some 4) rfl rfl
    case h => exact step_assign rfl
    exact .nil
  exact cwp_ret ⟨.inl rfl, resH_one rfl rfl, fun i x h => by simp at h⟩
theorem free_nil (i : Int) : HCall Tryd.prog 10 [] [.v (.pointer none), .v (.int .i64 i)] [] (.v (.bool false)) := by
  refine HCall.of Tryd.func10 rfl (by decide +kernel) (Nat.le_of_ble_eq_true rfl) ?_
  apply seq_region
  case hc =>
    apply ChainL.of (some 4) rfl rfl
    case h => exact step_assign rfl
    exact .nil
  refine cwp_seq ?_
  apply seq_region
  case hc =>
    apply ChainL.of (some 5) rfl rfl
    case h => exact step_move rfl
    apply ChainL.of (some 6) rfl rfl
    case h => exact step_move rfl
    apply ChainL.of (some 7) rfl rfl
    case h => exact w_call (in_nil _) [] [] [] Tryd.func16 rfl (by decide +kernel) rfl rfl .nil (by decide) rfl rfl rfl rfl rfl rfl rfl rfl rfl rfl rfl
    apply ChainL.of (some 8) rfl rfl
    case h => exact w_un rfl rfl rfl
    apply ChainL.of (some 9) rfl rfl
    case h => exact step_move rfl
    first
    | apply ChainL.off (some 10) 4 9 false rfl rfl rfl rfl
    | apply ChainL.on (some 10) 4 9 false rfl rfl rfl rfl
      case h => exact step_move rfl
    first
    | apply ChainL.off (some 11) 4 9 false rfl rfl rfl rfl
    | apply ChainL.on (some 11) 4 9 false rfl rfl rfl rfl
      case h => exact step_move rfl
    first
    | apply ChainL.off (some 12) 4 9 false rfl rfl rfl rfl
    | apply ChainL.on (some 12) 4 9 false rfl rfl rfl rfl
      case h => exact w_call (used_nil _) [] [] [] Tryd.func11 rfl (by decide +kernel) rfl rfl .nil (by decide) rfl rfl rfl rfl rfl rfl rfl rfl rfl rfl rfl
    first
    | apply ChainL.off (some 13) 4 9 false rfl rfl rfl rfl
    | apply ChainL.on (some 13) 4 9 false rfl rfl rfl rfl
      case h => exact w_un rfl rfl rfl
    apply ChainL.of (some 14) rfl rfl
    case h => exact step_pick rfl rfl
    exact .nil
  refine cond_t rfl ?_
  apply seq_region
  case hc =>
    apply ChainL.of (some 4) rfl rfl
    case h => exact step_assign rfl
    exact .nil
  exact cwp_ret ⟨.inl rfl, resH_one rfl rfl, fun i x h => by simp at h⟩
theorem left_nil : HCall Tryd.prog 14 [] [.v (.pointer none)] [] (.v (.int .i64 0)) := by
  refine HCall.of Tryd.func14 rfl (by decide +kernel) (Nat.le_of_ble_eq_true rfl) ?_
  apply seq_region
  case hc =>
    apply ChainL.of (some 2) rfl rfl
    case h => exact step_assign rfl
    exact .nil
  refine cwp_seq ?_
  apply seq_region
  case hc =>
    apply ChainL.of (some 6) rfl rfl
    case h => exact step_move rfl
    apply ChainL.of (some 7) rfl rfl
    case h => (first | exact w_nil_nil tab (b := true) rfl rfl rfl rfl rfl | exact w_ptr_nil tab (b := true) rfl rfl rfl rfl rfl)
    exact .nil
  refine cond_t rfl ?_
  apply seq_region
  case hc =>
    apply ChainL.of (some 2) rfl rfl
    case h => exact step_assign rfl
    exact .nil
  exact cwp_ret ⟨.inl rfl, resH_one rfl rfl, fun i x h => by simp at h⟩
theorem first_nil (i : Int) : HCall Tryd.prog 12 [] [.v (.pointer none), .v (.int .i64 i)] [] (.v (.int .i64 (-1))) := by
  refine HCall.of Tryd.func12 rfl (by decide +kernel) (Nat.le_of_ble_eq_true rfl) ?_
  apply seq_region
  case hc =>
    apply ChainL.of (some 4) rfl rfl
    case h => exact step_assign rfl
    exact .nil
  refine cwp_seq ?_
  apply seq_region
  case hc =>
    apply ChainL.of (some 7) rfl rfl
    case h => exact step_move rfl
    apply ChainL.of (some 8) rfl rfl
    case h => (first | exact w_nil_nil tab (b := true) rfl rfl rfl rfl rfl | exact w_ptr_nil tab (b := true) rfl rfl rfl rfl rfl)
    exact .nil
  refine cond_t rfl ?_
  apply seq_region
  case hc =>
    apply ChainL.of (some 4) rfl rfl
    case h => exact step_assign rfl
    exact .nil
  exact cwp_ret ⟨.inl rfl, resH_one rfl rfl, fun i x h => by simp at h⟩
theorem copy_nil : HCall Tryd.prog 15 [] [.v (.pointer none)] [] (.v (.pointer none)) := by
  refine HCall.of Tryd.func15 rfl (by decide +kernel) (Nat.le_of_ble_eq_true rfl) ?_
  apply seq_region
  case hc =>
    apply ChainL.of (some 2) rfl rfl
    case h => exact step_assign rfl
    exact .nil
  refine cwp_seq ?_
  apply seq_region
  case hc =>
    apply ChainL.of (some 4) rfl rfl
    case h => exact step_move rfl
    apply ChainL.of (some 5) rfl rfl
    case h => (first | exact w_nil_nil tab (b := true) rfl rfl rfl rfl rfl | exact w_ptr_nil tab (b := true) rfl rfl rfl rfl rfl)
    exact .nil
  refine cond_t rfl ?_
  apply seq_region
  case hc =>
    apply ChainL.of (some 2) rfl rfl
    case h => exact step_assign rfl
    exact .nil
  exact cwp_ret ⟨.inl rfl, resH_one rfl rfl, fun i x h => by simp at h⟩
end Go.Proofs.YtcbbpidnocgoiaaDoor.Sp


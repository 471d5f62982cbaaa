/- Disks: no disk. -/
import Derived.Test.YtcbbpidnocgoiaaDkT
namespace Go.Proofs.Ytcbbpidnocgoiaa.Dk
open Go Go.RowKit Go.Proofs.Ytcbbpidnocgoiaa.Eng
set_option linter.unusedVariables false
set_option linter.unusedSimpArgs false
set_option maxRecDepth 20000
theorem dead_nil : HCall Try.prog 10 [] [.v (.pointer none)] [] (.v (.bool true)) := by
  refine HCall.of Try.func10 rfl (by decide +kernel) (Nat.le_of_ble_eq_true rfl) ?_
  refine cwp_seq ?_
  apply one_region
  case hc =>
    apply ChainL.of (some 2) rfl rfl
    case h => exact step_assign rfl
    exact .nil
  show Cwp _ _ _ _
  refine cwp_seq ?_
  apply one_region
  case hc =>
    apply ChainL.of (some 3) rfl rfl
    case h => exact step_move rfl
    apply ChainL.of (some 4) rfl rfl
    case h => (first | exact w_nil_nil tab (b := true) rfl rfl rfl rfl rfl | exact w_ptr_nil tab (b := true) rfl rfl rfl rfl rfl)
    apply ChainL.of (some 5) rfl rfl
    case h => exact step_move rfl
    first
    | apply ChainL.off (some 6) 2 5 false rfl rfl rfl rfl
    | apply ChainL.on (some 6) 2 5 false rfl rfl rfl rfl
      case h => exact step_move rfl
    first
    | apply ChainL.off (some 7) 2 5 false rfl rfl rfl rfl
    | apply ChainL.on (some 7) 2 5 false rfl rfl rfl rfl
      case h => (first | exact step_nilCheck rfl rfl | exact step_nilCheck_elt rfl rfl)
    first
    | apply ChainL.off (some 8) 2 5 false rfl rfl rfl rfl
    | apply ChainL.on (some 8) 2 5 false rfl rfl rfl rfl
      case h => (first | exact w_fieldAddr tab rfl rfl rfl rfl (by decide) rfl rfl | exact w_fieldAddr_elt tab rfl rfl rfl rfl (by decide) rfl rfl)
    first
    | apply ChainL.off (some 9) 2 5 false rfl rfl rfl rfl
    | apply ChainL.on (some 9) 2 5 false rfl rfl rfl rfl
      case h => (first | exact w_load tab rfl rfl rfl rfl rfl rfl rfl | exact w_load tab rfl rfl rfl rfl rfl (by assumption) rfl | exact w_load_elt tab rfl rfl rfl rfl rfl | exact w_loads tab rfl rfl rfl rfl rfl rfl rfl rfl | exact w_load_tab tab rfl rfl rfl rfl (.head _) (by kernel_rfl) | exact w_loads_elt tab rfl rfl rfl rfl rfl rfl)
    apply ChainL.of (some 10) rfl rfl
    case h => exact step_pick rfl rfl
    apply ChainL.of (some 2) rfl rfl
    case h => exact step_assign rfl
    exact .nil
  show Cwp _ _ _ _
  refine cwp_ret ?_
  exact ⟨.inl rfl, resH_one rfl rfl, fun i x h => by simp at h⟩
theorem up_nil : HCall Try.prog 11 [] [.v (.pointer none)] [] (.tup []) := by
  refine HCall.of Try.func11 rfl (by decide +kernel) (Nat.le_of_ble_eq_true rfl) ?_
  refine cwp_seq ?_
  apply one_region
  case hc =>
    apply ChainL.of (some 2) rfl rfl
    case h => exact step_move rfl
    apply ChainL.of (some 3) rfl rfl
    case h => (first | exact w_nil_nil tab (b := false) rfl rfl rfl rfl rfl | exact w_ptr_nil tab (b := false) rfl rfl rfl rfl rfl)
    apply ChainL.of (some 4) rfl rfl
    case h => exact step_move rfl
    first
    | apply ChainL.off (some 5) 2 4 true rfl rfl rfl rfl
    | apply ChainL.on (some 5) 2 4 true rfl rfl rfl rfl
      case h => exact step_move rfl
    first
    | apply ChainL.off (some 6) 2 4 true rfl rfl rfl rfl
    | apply ChainL.on (some 6) 2 4 true rfl rfl rfl rfl
      case h => (first | exact step_nilCheck rfl rfl | exact step_nilCheck_elt rfl rfl)
    first
    | apply ChainL.off (some 7) 2 4 true rfl rfl rfl rfl
    | apply ChainL.on (some 7) 2 4 true rfl rfl rfl rfl
      case h => (first | exact w_fieldAddr tab rfl rfl rfl rfl (by decide) rfl rfl | exact w_fieldAddr_elt tab rfl rfl rfl rfl (by decide) rfl rfl)
    first
    | apply ChainL.off (some 8) 2 4 true rfl rfl rfl rfl
    | apply ChainL.on (some 8) 2 4 true rfl rfl rfl rfl
      case h => (first | exact w_load tab rfl rfl rfl rfl rfl rfl rfl | exact w_load tab rfl rfl rfl rfl rfl (by assumption) rfl | exact w_load_elt tab rfl rfl rfl rfl rfl | exact w_loads tab rfl rfl rfl rfl rfl rfl rfl rfl | exact w_load_tab tab rfl rfl rfl rfl (.head _) (by kernel_rfl) | exact w_loads_elt tab rfl rfl rfl rfl rfl rfl)
    apply ChainL.of (some 9) rfl rfl
    case h => exact step_pick rfl rfl
    exact .nil
  show Cwp _ _ _ _
  refine cond_f (by first | rfl | kernel_rfl) ?_
  refine cwp_skip ?_
  exact ⟨.inr rfl, resH_none rfl, fun i x h => by simp at h⟩
theorem read_nil (n : Int) : HCall Try.prog 12 [] [.v (.pointer none), .v (.int .i64 n)] [] (.tup [.v (.string ⟨#[]⟩), .v (.int .i64 40)]) := by
  refine HCall.of Try.func12 rfl (by decide +kernel) (Nat.le_of_ble_eq_true rfl) ?_
  refine cwp_seq ?_
  apply one_region
  case hc =>
    apply ChainL.of (some 4) rfl rfl
    case h => exact step_assign rfl
    apply ChainL.of (some 5) rfl rfl
    case h => exact step_assign rfl
    exact .nil
  show Cwp _ _ _ _
  refine cwp_seq ?_
  refine cwp_block ?_
  refine cwp_seq ?_
  apply one_region
  case hc =>
    apply ChainL.of (some 8) rfl rfl
    case h => exact step_move rfl
    apply ChainL.of (some 9) rfl rfl
    case h => exact w_call dead_nil [] [] [] Try.func10 rfl (by decide +kernel) rfl rfl .nil (by decide) rfl rfl rfl rfl rfl rfl rfl rfl rfl rfl rfl
    apply ChainL.of (some 7) rfl rfl
    case h => exact step_assign rfl
    exact .nil
  show Cwp _ _ _ _
  refine cond_t (by first | rfl | kernel_rfl) ?_
  refine cwp_seq ?_
  apply one_region
  case hc =>
    apply ChainL.of (some 4) rfl rfl
    case h => exact step_assign rfl
    apply ChainL.of (some 5) rfl rfl
    case h => exact step_assign rfl
    exact .nil
  show Cwp _ _ _ _
  refine cwp_ret ?_
  exact ⟨.inl rfl, resH_two rfl rfl rfl, fun i x h => by simp at h⟩
theorem write_nil (n : Int) (s : ByteArray) : HCall Try.prog 8 [] [.v (.pointer none), .v (.int .i64 n), .v (.string s)] [] (.v (.int .i64 40)) := by
  refine HCall.of Try.func8 rfl (by decide +kernel) (Nat.le_of_ble_eq_true rfl) ?_
  refine cwp_seq ?_
  apply one_region
  case hc =>
    apply ChainL.of (some 6) rfl rfl
    case h => exact step_assign rfl
    exact .nil
  show Cwp _ _ _ _
  refine cwp_seq ?_
  refine cwp_block ?_
  refine cwp_seq ?_
  apply one_region
  case hc =>
    apply ChainL.of (some 8) rfl rfl
    case h => exact step_move rfl
    apply ChainL.of (some 9) rfl rfl
    case h => exact w_call dead_nil [] [] [] Try.func10 rfl (by decide +kernel) rfl rfl .nil (by decide) rfl rfl rfl rfl rfl rfl rfl rfl rfl rfl rfl
    apply ChainL.of (some 7) rfl rfl
    case h => exact step_assign rfl
    exact .nil
  show Cwp _ _ _ _
  refine cond_t (by first | rfl | kernel_rfl) ?_
  refine cwp_seq ?_
  apply one_region
  case hc =>
    apply ChainL.of (some 6) rfl rfl
    case h => exact step_assign rfl
    exact .nil
  show Cwp _ _ _ _
  refine cwp_ret ?_
  exact ⟨.inl rfl, resH_one rfl rfl, fun i x h => by simp at h⟩
theorem flush_nil : HCall Try.prog 9 [] [.v (.pointer none)] [] (.v (.int .i64 40)) := by
  refine HCall.of Try.func9 rfl (by decide +kernel) (Nat.le_of_ble_eq_true rfl) ?_
  refine cwp_seq ?_
  apply one_region
  case hc =>
    apply ChainL.of (some 2) rfl rfl
    case h => exact step_assign rfl
    exact .nil
  show Cwp _ _ _ _
  refine cwp_seq ?_
  refine cwp_seq ?_
  apply one_region
  case hc =>
    apply ChainL.of (some 5) rfl rfl
    case h => exact step_move rfl
    apply ChainL.of (some 6) rfl rfl
    case h => exact w_call dead_nil [] [] [] Try.func10 rfl (by decide +kernel) rfl rfl .nil (by decide) rfl rfl rfl rfl rfl rfl rfl rfl rfl rfl rfl
    apply ChainL.of (some 7) rfl rfl
    case h => exact step_move rfl
    first
    | apply ChainL.off (some 8) 2 7 false rfl rfl rfl rfl
    | apply ChainL.on (some 8) 2 7 false rfl rfl rfl rfl
      case h => exact step_move rfl
    first
    | apply ChainL.off (some 9) 2 7 false rfl rfl rfl rfl
    | apply ChainL.on (some 9) 2 7 false rfl rfl rfl rfl
      case h => exact (by fail)
    apply ChainL.of (some 10) rfl rfl
    case h => exact step_pick rfl rfl
    exact .nil
  show Cwp _ _ _ _
  refine cond_t (by first | rfl | kernel_rfl) ?_
  refine cwp_seq ?_
  apply one_region
  case hc =>
    apply ChainL.of (some 2) rfl rfl
    case h => exact step_assign rfl
    exact .nil
  show Cwp _ _ _ _
  refine cwp_ret ?_
  exact ⟨.inl rfl, resH_one rfl rfl, fun i x h => by simp at h⟩
theorem fails_nil : HCall Try.prog 13 [] [.v (.pointer none)] [] (.v (.int .i64 0)) := by
  refine HCall.of Try.func13 rfl (by decide +kernel) (Nat.le_of_ble_eq_true rfl) ?_
  refine cwp_seq ?_
  apply one_region
  case hc =>
    apply ChainL.of (some 2) rfl rfl
    case h => exact step_assign rfl
    exact .nil
  show Cwp _ _ _ _
  refine cwp_seq ?_
  refine cwp_seq ?_
  apply one_region
  case hc =>
    apply ChainL.of (some 3) rfl rfl
    case h => exact step_move rfl
    apply ChainL.of (some 4) rfl rfl
    case h => (first | exact w_nil_nil tab (b := true) rfl rfl rfl rfl rfl | exact w_ptr_nil tab (b := true) rfl rfl rfl rfl rfl)
    exact .nil
  show Cwp _ _ _ _
  refine cond_t (by first | rfl | kernel_rfl) ?_
  refine cwp_seq ?_
  apply one_region
  case hc =>
    apply ChainL.of (some 2) rfl rfl
    case h => exact step_assign rfl
    exact .nil
  show Cwp _ _ _ _
  refine cwp_ret ?_
  exact ⟨.inl rfl, resH_one rfl rfl, fun i x h => by simp at h⟩
theorem sectors_nil : HCall Try.prog 14 [] [.v (.pointer none)] [] (.v (.int .i64 0)) := by
  refine HCall.of Try.func14 rfl (by decide +kernel) (Nat.le_of_ble_eq_true rfl) ?_
  refine cwp_seq ?_
  apply one_region
  case hc =>
    apply ChainL.of (some 2) rfl rfl
    case h => exact step_assign rfl
    exact .nil
  show Cwp _ _ _ _
  refine cwp_seq ?_
  refine cwp_seq ?_
  apply one_region
  case hc =>
    apply ChainL.of (some 3) rfl rfl
    case h => exact step_move rfl
    apply ChainL.of (some 4) rfl rfl
    case h => (first | exact w_nil_nil tab (b := true) rfl rfl rfl rfl rfl | exact w_ptr_nil tab (b := true) rfl rfl rfl rfl rfl)
    exact .nil
  show Cwp _ _ _ _
  refine cond_t (by first | rfl | kernel_rfl) ?_
  refine cwp_seq ?_
  apply one_region
  case hc =>
    apply ChainL.of (some 2) rfl rfl
    case h => exact step_assign rfl
    exact .nil
  show Cwp _ _ _ _
  refine cwp_ret ?_
  exact ⟨.inl rfl, resH_one rfl rfl, fun i x h => by simp at h⟩
theorem acts_nil : HCall Try.prog 15 [] [.v (.pointer none)] [] (.v (.int .i64 0)) := by
  refine HCall.of Try.func15 rfl (by decide +kernel) (Nat.le_of_ble_eq_true rfl) ?_
  refine cwp_seq ?_
  apply one_region
  case hc =>
    apply ChainL.of (some 2) rfl rfl
    case h => exact step_assign rfl
    exact .nil
  show Cwp _ _ _ _
  refine cwp_seq ?_
  refine cwp_seq ?_
  apply one_region
  case hc =>
    apply ChainL.of (some 3) rfl rfl
    case h => exact step_move rfl
    apply ChainL.of (some 4) rfl rfl
    case h => (first | exact w_nil_nil tab (b := true) rfl rfl rfl rfl rfl | exact w_ptr_nil tab (b := true) rfl rfl rfl rfl rfl)
    exact .nil
  show Cwp _ _ _ _
  refine cond_t (by first | rfl | kernel_rfl) ?_
  refine cwp_seq ?_
  apply one_region
  case hc =>
    apply ChainL.of (some 2) rfl rfl
    case h => exact step_assign rfl
    exact .nil
  show Cwp _ _ _ _
  refine cwp_ret ?_
  exact ⟨.inl rfl, resH_one rfl rfl, fun i x h => by simp at h⟩
/-- New of a number of sectors that may not be. -/
theorem new_bad (n : Int) (h : n < 0 ∨ 16384 < n) : HCall Try.prog 6 [] [.v (.int .i64 n), .v (.slice none 0 0)] [] (.tup [.v (.pointer none), .v (.int .i64 1)]) := by
  refine HCall.of Try.func6 rfl (by decide +kernel) (Nat.le_of_ble_eq_true rfl) ?_
  by_cases h0 : n < 0
  ·
    refine cwp_seq ?_
    apply one_region
    case hc =>
      apply ChainL.of (some 4) rfl rfl
      case h => exact step_assign rfl
      apply ChainL.of (some 5) rfl rfl
      case h => exact step_assign rfl
      exact .nil
    show Cwp _ _ _ _
    refine cwp_seq ?_
    refine cwp_seq ?_
    apply one_region
    case hc =>
      apply ChainL.of (some 9) rfl rfl
      case h => exact step_move rfl
      apply ChainL.of (some 10) rfl rfl
      case h => (first | exact w_bin rfl rfl rfl (lss_t (by omega)) | exact w_bin rfl rfl rfl (lss_f (by omega)) | exact w_bin rfl rfl rfl rfl)
      apply ChainL.of (some 11) rfl rfl
      case h => exact step_move rfl
      first
      | apply ChainL.off (some 12) 2 11 false rfl rfl rfl rfl
      | apply ChainL.on (some 12) 2 11 false rfl rfl rfl rfl
        case h => exact step_move rfl
      first
      | apply ChainL.off (some 13) 2 11 false rfl rfl rfl rfl
      | apply ChainL.on (some 13) 2 11 false rfl rfl rfl rfl
        case h => (first | exact w_bin rfl rfl rfl (gtr_t (by omega)) | exact w_bin rfl rfl rfl (gtr_f (by omega)) | exact w_bin rfl rfl rfl rfl)
      apply ChainL.of (some 14) rfl rfl
      case h => exact step_pick rfl rfl
      exact .nil
    show Cwp _ _ _ _
    refine cond_t (by first | rfl | kernel_rfl) ?_
    refine cwp_seq ?_
    apply one_region
    case hc =>
      apply ChainL.of (some 4) rfl rfl
      case h => exact step_assign rfl
      apply ChainL.of (some 5) rfl rfl
      case h => exact step_assign rfl
      exact .nil
    show Cwp _ _ _ _
    refine cwp_ret ?_
    exact ⟨.inl rfl, resH_two rfl rfl rfl, fun i x h => by simp at h⟩
  ·
    refine cwp_seq ?_
    apply one_region
    case hc =>
      apply ChainL.of (some 4) rfl rfl
      case h => exact step_assign rfl
      apply ChainL.of (some 5) rfl rfl
      case h => exact step_assign rfl
      exact .nil
    show Cwp _ _ _ _
    refine cwp_seq ?_
    refine cwp_seq ?_
    apply one_region
    case hc =>
      apply ChainL.of (some 9) rfl rfl
      case h => exact step_move rfl
      apply ChainL.of (some 10) rfl rfl
      case h => (first | exact w_bin rfl rfl rfl (lss_t (by omega)) | exact w_bin rfl rfl rfl (lss_f (by omega)) | exact w_bin rfl rfl rfl rfl)
      apply ChainL.of (some 11) rfl rfl
      case h => exact step_move rfl
      first
      | apply ChainL.off (some 12) 2 11 false rfl rfl rfl rfl
      | apply ChainL.on (some 12) 2 11 false rfl rfl rfl rfl
        case h => exact step_move rfl
      first
      | apply ChainL.off (some 13) 2 11 false rfl rfl rfl rfl
      | apply ChainL.on (some 13) 2 11 false rfl rfl rfl rfl
        case h => (first | exact w_bin rfl rfl rfl (gtr_t (by omega)) | exact w_bin rfl rfl rfl (gtr_f (by omega)) | exact w_bin rfl rfl rfl rfl)
      apply ChainL.of (some 14) rfl rfl
      case h => exact step_pick rfl rfl
      exact .nil
    show Cwp _ _ _ _
    refine cond_t (by first | rfl | kernel_rfl) ?_
    refine cwp_seq ?_
    apply one_region
    case hc =>
      apply ChainL.of (some 4) rfl rfl
      case h => exact step_assign rfl
      apply ChainL.of (some 5) rfl rfl
      case h => exact step_assign rfl
      exact .nil
    show Cwp _ _ _ _
    refine cwp_ret ?_
    exact ⟨.inl rfl, resH_two rfl rfl rfl, fun i x h => by simp at h⟩
theorem new_3 : HCall Try.prog 6 [] [.v (.int .i64 3), .v (.slice none 0 0)] [.ob ⟨1, List.replicate 3 [.v (.string ⟨#[]⟩)], false⟩, .ob ⟨1, List.replicate 3 [.v (.bool false)], false⟩,
    .ob ⟨8, [[.own 0 0 3, .own 1 0 3, .v (.slice none 0 0), .v (.slice none 0 0), .v (.int .i64 0), .v (.int .i64 0), .v (.int .i64 0), .v (.bool false)]], false⟩] (.tup [.ref 2 0 0, .v (.int .i64 0)]) := by
  refine HCall.of Try.func6 rfl (by decide +kernel) (Nat.le_of_ble_eq_true rfl) ?_
  refine cwp_seq ?_
  apply one_region
  case hc =>
    apply ChainL.of (some 4) rfl rfl
    case h => exact step_assign rfl
    apply ChainL.of (some 5) rfl rfl
    case h => exact step_assign rfl
    exact .nil
  show Cwp _ _ _ _
  refine cwp_seq ?_
  refine cwp_seq ?_
  apply one_region
  case hc =>
    apply ChainL.of (some 9) rfl rfl
    case h => exact step_move rfl
    apply ChainL.of (some 10) rfl rfl
    case h => (first | exact w_bin rfl rfl rfl (lss_t (by omega)) | exact w_bin rfl rfl rfl (lss_f (by omega)) | exact w_bin rfl rfl rfl rfl)
    apply ChainL.of (some 11) rfl rfl
    case h => exact step_move rfl
    first
    | apply ChainL.off (some 12) 2 11 false rfl rfl rfl rfl
    | apply ChainL.on (some 12) 2 11 false rfl rfl rfl rfl
      case h => exact step_move rfl
    first
    | apply ChainL.off (some 13) 2 11 false rfl rfl rfl rfl
    | apply ChainL.on (some 13) 2 11 false rfl rfl rfl rfl
      case h => (first | exact w_bin rfl rfl rfl (gtr_t (by omega)) | exact w_bin rfl rfl rfl (gtr_f (by omega)) | exact w_bin rfl rfl rfl rfl)
    apply ChainL.of (some 14) rfl rfl
    case h => exact step_pick rfl rfl
    exact .nil
  show Cwp _ _ _ _
  refine cond_f (by first | rfl | kernel_rfl) ?_
  refine cwp_skip ?_
  show Cwp _ _ _ _
  refine cwp_seq ?_
  apply one_region_draw [0, 1, 0, 4, 15, 31, 63] rfl
  case hc =>
    apply ChainL.of (some 15) rfl rfl
    case h => exact step_move rfl
    apply ChainL.of (some 16) rfl rfl
    case h => exact w_makeSlice tab rfl rfl rfl rfl 0 rfl rfl (by omega) (by dsimp only; omega) (by omega) (by decide) rfl rfl
    apply ChainL.of (some 17) rfl rfl
    case h => exact step_move rfl
    apply ChainL.of (some 18) rfl rfl
    case h => exact w_makeSlice tab rfl rfl rfl rfl 1 rfl rfl (by omega) (by dsimp only; omega) (by omega) (by decide) rfl rfl
    apply ChainL.of (some 19) rfl rfl
    case h => exact w_build tab rfl rfl (by decide) rfl rfl
    apply ChainL.of (some 20) rfl rfl
    case h => exact w_box rfl 2 rfl rfl rfl
    apply ChainL.of (some 6) rfl rfl
    case h => exact step_assign rfl
    exact .nil
  case hB => decide +kernel
  case hI => kernel_rfl
  show Cwp _ _ _ _
  refine cwp_seq ?_
  refine cwp_seq ?_
  apply one_region
  case hc =>
    apply ChainL.of (some 21) rfl rfl
    case h => exact step_move rfl
    apply ChainL.of (some 22) rfl rfl
    case h => (first | exact w_len tab rfl rfl rfl (.own rfl rfl rfl) rfl | exact w_len tab rfl rfl rfl .lst rfl | exact w_len tab rfl rfl rfl (.nil (m := 0)) rfl)
    apply ChainL.of (some 23) rfl rfl
    case h => exact step_move rfl
    exact .nil
  show Cwp _ _ _ _
  refine cwp_block ?_
  refine cwp_loopN 1 ?_
  refine loop_round ?_
  refine cwp_seq ?_
  apply one_region
  case hc =>
    apply ChainL.of (some 24) rfl rfl
    case h => (first | exact w_bin rfl rfl rfl (lss_t (by omega)) | exact w_bin rfl rfl rfl (lss_f (by omega)) | exact w_bin rfl rfl rfl rfl)
    exact .nil
  show Cwp _ _ _ _
  refine cwp_seq ?_
  refine cond_f (by first | rfl | kernel_rfl) ?_
  refine cwp_exit ?_
  show Cwp _ _ _ _
  refine cwp_seq ?_
  apply one_region
  case hc =>
    apply ChainL.of (some 42) rfl rfl
    case h => exact step_move rfl
    apply ChainL.of (some 4) rfl rfl
    case h => exact step_assign rfl
    apply ChainL.of (some 5) rfl rfl
    case h => exact step_assign rfl
    exact .nil
  show Cwp _ _ _ _
  refine cwp_ret ?_
  exact ⟨.inl rfl, resH_two rfl rfl rfl, objs_ok rfl⟩
end Go.Proofs.Ytcbbpidnocgoiaa.Dk


/- Places: the law of no place. -/
import Derived.Test.YtcbbpidnocgoiaaDoorSpD
namespace Go.Proofs.YtcbbpidnocgoiaaDoor.Sp
open Go Go.RowKit Go.Proofs.YtcbbpidnocgoiaaDoor.Eng
set_option linter.unusedVariables false
set_option linter.unusedSimpArgs false
set_option maxRecDepth 20000
theorem awake_t : HCall Tryd.prog 7 [] [] [] (.v (.bool true)) := by
  refine HCall.of Tryd.func7 rfl (by decide +kernel) (Nat.le_of_ble_eq_true rfl) ?_
  refine cwp_seq ?_
  apply one_region
  case hc =>
    apply ChainL.of (some 0) rfl rfl
    case h => exact step_assign rfl
    exact .nil
  show Cwp _ _ _ _
  refine cwp_seq ?_
  apply one_region
  case hc =>
    apply ChainL.of (some 2) rfl rfl
    case h => exact w_call (new_pos 3 (by decide) (by decide)) [] [] [1, 0] Tryd.func6 rfl (by decide +kernel) rfl rfl .nil (by decide) rfl rfl rfl rfl rfl rfl rfl rfl rfl rfl rfl
    apply ChainL.of (some 1) rfl rfl
    case h => exact step_assign rfl
    exact .nil
  show Cwp _ _ _ _
  refine cwp_seq ?_
  apply one_region
  case hc =>
    apply ChainL.of (some 3) rfl rfl
    case h => exact step_move rfl
    apply ChainL.of (some 4) rfl rfl
    case h => exact w_call use_3 [] [0, 1] [] Tryd.func9 rfl (by decide +kernel) rfl rfl .nil (by decide) (sp_hco _ _ 0 1 _) (by kernel_rfl) rfl (sp_hlt _ _ _) rfl (sp_hok _ _ _) rfl rfl rfl rfl (sp_zip _ _ 0 1 _)
    apply ChainL.of (some 5) rfl rfl
    case h => exact step_move rfl
    first
    | apply ChainL.off (some 6) 2 5 true rfl rfl rfl rfl
    | apply ChainL.on (some 6) 2 5 true rfl rfl rfl rfl
      case h => exact step_move rfl
    first
    | apply ChainL.off (some 7) 2 5 true rfl rfl rfl rfl
    | apply ChainL.on (some 7) 2 5 true rfl rfl rfl rfl
      case h => exact w_call first_3 [] [0, 1] [] Tryd.func12 rfl (by decide +kernel) rfl rfl .nil (by decide) (sp_hco _ _ 0 1 _) (by kernel_rfl) rfl (sp_hlt _ _ _) rfl (sp_hok _ _ _) rfl rfl rfl rfl (sp_zip _ _ 0 1 _)
    first
    | apply ChainL.off (some 8) 2 5 true rfl rfl rfl rfl
    | apply ChainL.on (some 8) 2 5 true rfl rfl rfl rfl
      case h => (first | exact w_bin rfl rfl rfl (eql_t (by omega)) | exact w_bin rfl rfl rfl (eql_f (by omega)) | exact w_bin rfl rfl rfl rfl)
    apply ChainL.of (some 9) rfl rfl
    case h => exact step_pick rfl rfl
    apply ChainL.of (some 10) rfl rfl
    case h => exact step_move rfl
    first
    | apply ChainL.off (some 11) 7 10 true rfl rfl rfl rfl
    | apply ChainL.on (some 11) 7 10 true rfl rfl rfl rfl
      case h => exact step_move rfl
    first
    | apply ChainL.off (some 12) 7 10 true rfl rfl rfl rfl
    | apply ChainL.on (some 12) 7 10 true rfl rfl rfl rfl
      case h => exact w_call left_3 [] [0, 1] [] Tryd.func14 rfl (by decide +kernel) rfl rfl .nil (by decide) (sp_hco _ _ 0 1 _) (by kernel_rfl) rfl (sp_hlt _ _ _) rfl (sp_hok _ _ _) rfl rfl rfl rfl (sp_zip _ _ 0 1 _)
    first
    | apply ChainL.off (some 13) 7 10 true rfl rfl rfl rfl
    | apply ChainL.on (some 13) 7 10 true rfl rfl rfl rfl
      case h => (first | exact w_bin rfl rfl rfl (eql_t (by omega)) | exact w_bin rfl rfl rfl (eql_f (by omega)) | exact w_bin rfl rfl rfl rfl)
    apply ChainL.of (some 14) rfl rfl
    case h => exact step_pick rfl rfl
    apply ChainL.of (some 0) rfl rfl
    case h => exact step_assign rfl
    exact .nil
  show Cwp _ _ _ _
  refine cwp_ret ?_
  exact ⟨.inl rfl, resH_one rfl rfl, fun i x h => by simp at h⟩
theorem first_0 (n : Int) : HCall Tryd.prog 12 [sp 0 0, wd []] [.ref 0 0 0, .v (.int .i64 n)] [.ob (sp 0 0), .ob (wd [])] (.v (.int .i64 (-1))) := by
  refine HCall.of Tryd.func12 rfl (by decide +kernel) (Nat.le_of_ble_eq_true rfl) ?_
  by_cases h : n < 0
  ·
    refine cwp_seq ?_
    apply one_region
    case hc =>
      apply ChainL.of (some 4) rfl rfl
      case h => exact step_assign rfl
      exact .nil
    show Cwp _ _ _ _
    refine cwp_seq ?_
    refine cwp_seq ?_
    apply one_region
    case hc =>
      apply ChainL.of (some 7) rfl rfl
      case h => exact step_move rfl
      apply ChainL.of (some 8) rfl rfl
      case h => (first | exact w_nil_nil tab (b := true) rfl rfl rfl rfl rfl | exact w_ptr_nil tab (b := true) rfl rfl rfl rfl rfl)
      exact .nil
    show Cwp _ _ _ _
    refine cond_f (by first | rfl | kernel_rfl) ?_
    refine cwp_skip ?_
    show Cwp _ _ _ _
    refine cwp_seq ?_
    refine cwp_seq ?_
    apply one_region
    case hc =>
      apply ChainL.of (some 9) rfl rfl
      case h => exact step_move rfl
      apply ChainL.of (some 10) rfl rfl
      case h => (first | exact w_max rfl rfl rfl (if_pos (by omega)) | exact w_max rfl rfl rfl (if_neg (by omega)) | exact w_max rfl rfl rfl rfl)
      apply ChainL.of (some 5) rfl rfl
      case h => exact step_assign rfl
      exact .nil
    show Cwp _ _ _ _
    refine cwp_block ?_
    refine cwp_loopN 1 ?_
    refine loop_round ?_
    refine cwp_seq ?_
    refine cwp_seq ?_
    apply one_region
    case hc =>
      apply ChainL.of (some 11) rfl rfl
      case h => exact step_move rfl
      apply ChainL.of (some 12) rfl rfl
      case h => exact step_move rfl
      apply ChainL.of (some 13) rfl rfl
      case h => (first | exact step_nilCheck rfl rfl | exact step_nilCheck_elt rfl rfl)
      apply ChainL.of (some 14) rfl rfl
      case h => (first | exact w_fieldAddr tab rfl rfl rfl rfl (by decide) rfl rfl | exact w_fieldAddr_elt tab rfl rfl rfl rfl (by decide) rfl rfl)
      apply ChainL.of (some 15) rfl rfl
      case h => (first | exact w_load tab rfl rfl rfl rfl rfl rfl rfl | exact w_load tab rfl rfl rfl rfl rfl (by assumption) rfl | exact w_load_elt tab rfl rfl rfl rfl rfl | exact w_loads tab rfl rfl rfl rfl rfl rfl rfl rfl | exact w_load_tab tab rfl rfl rfl rfl (.head _) (by kernel_rfl) | exact w_loads_elt tab rfl rfl rfl rfl rfl rfl)
      apply ChainL.of (some 16) rfl rfl
      case h => (first | exact w_bin rfl rfl rfl (lss_t (by omega)) | exact w_bin rfl rfl rfl (lss_f (by omega)) | exact w_bin rfl rfl rfl rfl)
      exact .nil
    show Cwp _ _ _ _
    refine cond_f (by first | rfl | kernel_rfl) ?_
    refine cwp_exit ?_
    show Cwp _ _ _ _
    refine cwp_seq ?_
    apply one_region
    case hc =>
      apply ChainL.of (some 4) rfl rfl
      case h => exact step_assign rfl
      exact .nil
    show Cwp _ _ _ _
    refine cwp_ret ?_
    exact ⟨.inl rfl, resH_one rfl rfl, objs_ok rfl⟩
  ·
    refine cwp_seq ?_
    apply one_region
    case hc =>
      apply ChainL.of (some 4) rfl rfl
      case h => exact step_assign rfl
      exact .nil
    show Cwp _ _ _ _
    refine cwp_seq ?_
    refine cwp_seq ?_
    apply one_region
    case hc =>
      apply ChainL.of (some 7) rfl rfl
      case h => exact step_move rfl
      apply ChainL.of (some 8) rfl rfl
      case h => (first | exact w_nil_nil tab (b := true) rfl rfl rfl rfl rfl | exact w_ptr_nil tab (b := true) rfl rfl rfl rfl rfl)
      exact .nil
    show Cwp _ _ _ _
    refine cond_f (by first | rfl | kernel_rfl) ?_
    refine cwp_skip ?_
    show Cwp _ _ _ _
    refine cwp_seq ?_
    refine cwp_seq ?_
    apply one_region
    case hc =>
      apply ChainL.of (some 9) rfl rfl
      case h => exact step_move rfl
      apply ChainL.of (some 10) rfl rfl
      case h => (first | exact w_max rfl rfl rfl (if_pos (by omega)) | exact w_max rfl rfl rfl (if_neg (by omega)) | exact w_max rfl rfl rfl rfl)
      apply ChainL.of (some 5) rfl rfl
      case h => exact step_assign rfl
      exact .nil
    show Cwp _ _ _ _
    refine cwp_block ?_
    refine cwp_loopN 1 ?_
    refine loop_round ?_
    refine cwp_seq ?_
    refine cwp_seq ?_
    apply one_region
    case hc =>
      apply ChainL.of (some 11) rfl rfl
      case h => exact step_move rfl
      apply ChainL.of (some 12) rfl rfl
      case h => exact step_move rfl
      apply ChainL.of (some 13) rfl rfl
      case h => (first | exact step_nilCheck rfl rfl | exact step_nilCheck_elt rfl rfl)
      apply ChainL.of (some 14) rfl rfl
      case h => (first | exact w_fieldAddr tab rfl rfl rfl rfl (by decide) rfl rfl | exact w_fieldAddr_elt tab rfl rfl rfl rfl (by decide) rfl rfl)
      apply ChainL.of (some 15) rfl rfl
      case h => (first | exact w_load tab rfl rfl rfl rfl rfl rfl rfl | exact w_load tab rfl rfl rfl rfl rfl (by assumption) rfl | exact w_load_elt tab rfl rfl rfl rfl rfl | exact w_loads tab rfl rfl rfl rfl rfl rfl rfl rfl | exact w_load_tab tab rfl rfl rfl rfl (.head _) (by kernel_rfl) | exact w_loads_elt tab rfl rfl rfl rfl rfl rfl)
      apply ChainL.of (some 16) rfl rfl
      case h => (first | exact w_bin rfl rfl rfl (lss_t (by omega)) | exact w_bin rfl rfl rfl (lss_f (by omega)) | exact w_bin rfl rfl rfl rfl)
      exact .nil
    show Cwp _ _ _ _
    refine cond_f (by first | rfl | kernel_rfl) ?_
    refine cwp_exit ?_
    show Cwp _ _ _ _
    refine cwp_seq ?_
    apply one_region
    case hc =>
      apply ChainL.of (some 4) rfl rfl
      case h => exact step_assign rfl
      exact .nil
    show Cwp _ _ _ _
    refine cwp_ret ?_
    exact ⟨.inl rfl, resH_one rfl rfl, objs_ok rfl⟩
/-- The low ten bits. -/
def lo (n : Int) : Int := IntKind.wrap .i64 (((BitVec.ofInt 64 n &&& BitVec.ofInt 64 1023)).toNat : Nat)
theorem lo_le (n : Int) : 0 ≤ lo n ∧ lo n ≤ 1023 := by
  have h : ((BitVec.ofInt 64 n &&& BitVec.ofInt 64 1023)).toNat ≤ 1023 := by
    rw [BitVec.toNat_and]
    exact Nat.le_trans Nat.and_le_right (by decide)
  unfold lo
  rw [wrap_i64 (by omega) (by omega)]
  omega
theorem and_lo (n : Int) : abin .and (.int .i64 n) (.int .i64 1023) = some (.int .i64 (lo n)) := rfl
theorem none_t (n : Int) : HCall Tryd.prog 5 [] [.v (.int .i64 n)] [] (.v (.bool true)) := by
  have hlo := lo_le n
  refine HCall.of Tryd.func5 rfl (by decide +kernel) (Nat.le_of_ble_eq_true rfl) ?_
  refine cwp_seq ?_
  apply one_region
  case hc =>
    apply ChainL.of (some 2) rfl rfl
    case h => exact step_assign rfl
    exact .nil
  show Cwp _ _ _ _
  refine cwp_seq ?_
  apply one_region
  case hc =>
    apply ChainL.of (some 3) rfl rfl
    case h => exact step_assign rfl
    exact .nil
  show Cwp _ _ _ _
  refine cwp_seq ?_
  apply one_region
  case hc =>
    apply ChainL.of (some 5) rfl rfl
    case h => exact step_move rfl
    apply ChainL.of (some 6) rfl rfl
    case h => exact w_bin rfl rfl rfl (and_lo n)
    apply ChainL.of (some 7) rfl rfl
    case h => (first | exact w_bin rfl rfl rfl (sub_i64 rfl (by omega) (by omega)) | exact w_bin rfl rfl rfl rfl)
    apply ChainL.of (some 8) rfl rfl
    case h => exact w_call (new_neg _ (by omega)) [] [] [1, 0] Tryd.func6 rfl (by decide +kernel) rfl rfl .nil (by decide) rfl rfl rfl rfl rfl rfl rfl rfl rfl rfl rfl
    apply ChainL.of (some 4) rfl rfl
    case h => exact step_assign rfl
    exact .nil
  show Cwp _ _ _ _
  refine cwp_seq ?_
  apply one_region
  case hc =>
    apply ChainL.of (some 9) rfl rfl
    case h => exact w_call awake_t [] [] [] Tryd.func7 rfl (by decide +kernel) rfl rfl .nil (by decide) rfl rfl rfl rfl rfl rfl rfl rfl rfl rfl rfl
    apply ChainL.of (some 10) rfl rfl
    case h => exact step_move rfl
    first
    | apply ChainL.off (some 11) 1 10 true rfl rfl rfl rfl
    | apply ChainL.on (some 11) 1 10 true rfl rfl rfl rfl
      case h => exact step_move rfl
    first
    | apply ChainL.off (some 12) 1 10 true rfl rfl rfl rfl
    | apply ChainL.on (some 12) 1 10 true rfl rfl rfl rfl
      case h => (first | exact w_call many_nil [] [] [] Tryd.func8 rfl (by decide +kernel) rfl rfl .nil (by decide) rfl rfl rfl rfl rfl rfl rfl rfl rfl rfl rfl | exact w_call (many_ob 0 0 []) [] [0, 1] [] Tryd.func8 rfl (by decide +kernel) rfl rfl .nil (by decide) (sp_hco _ _ 0 1 _) (by kernel_rfl) rfl (sp_hlt _ _ _) rfl (sp_hok _ _ _) rfl rfl rfl rfl (sp_zip _ _ 0 1 _))
    first
    | apply ChainL.off (some 13) 1 10 true rfl rfl rfl rfl
    | apply ChainL.on (some 13) 1 10 true rfl rfl rfl rfl
      case h => (first | exact w_bin rfl rfl rfl (eql_t (by omega)) | exact w_bin rfl rfl rfl (eql_f (by omega)) | exact w_bin rfl rfl rfl rfl)
    apply ChainL.of (some 14) rfl rfl
    case h => exact step_pick rfl rfl
    apply ChainL.of (some 15) rfl rfl
    case h => exact step_move rfl
    first
    | apply ChainL.off (some 16) 6 15 true rfl rfl rfl rfl
    | apply ChainL.on (some 16) 6 15 true rfl rfl rfl rfl
      case h => exact step_move rfl
    first
    | apply ChainL.off (some 17) 6 15 true rfl rfl rfl rfl
    | apply ChainL.on (some 17) 6 15 true rfl rfl rfl rfl
      case h => exact step_move rfl
    first
    | apply ChainL.off (some 18) 6 15 true rfl rfl rfl rfl
    | apply ChainL.on (some 18) 6 15 true rfl rfl rfl rfl
      case h => exact w_call (used_nil _) [] [] [] Tryd.func11 rfl (by decide +kernel) rfl rfl .nil (by decide) rfl rfl rfl rfl rfl rfl rfl rfl rfl rfl rfl
    apply ChainL.of (some 19) rfl rfl
    case h => exact step_pick rfl rfl
    apply ChainL.of (some 20) rfl rfl
    case h => exact step_move rfl
    first
    | apply ChainL.off (some 21) 11 20 true rfl rfl rfl rfl
    | apply ChainL.on (some 21) 11 20 true rfl rfl rfl rfl
      case h => exact step_move rfl
    first
    | apply ChainL.off (some 22) 11 20 true rfl rfl rfl rfl
    | apply ChainL.on (some 22) 11 20 true rfl rfl rfl rfl
      case h => exact step_move rfl
    first
    | apply ChainL.off (some 23) 11 20 true rfl rfl rfl rfl
    | apply ChainL.on (some 23) 11 20 true rfl rfl rfl rfl
      case h => exact w_call (use_nil _) [] [] [] Tryd.func9 rfl (by decide +kernel) rfl rfl .nil (by decide) rfl rfl rfl rfl rfl rfl rfl rfl rfl rfl rfl
    first
    | apply ChainL.off (some 24) 11 20 true rfl rfl rfl rfl
    | apply ChainL.on (some 24) 11 20 true rfl rfl rfl rfl
      case h => exact w_un rfl rfl rfl
    apply ChainL.of (some 25) rfl rfl
    case h => exact step_pick rfl rfl
    apply ChainL.of (some 26) rfl rfl
    case h => exact step_move rfl
    first
    | apply ChainL.off (some 27) 17 26 true rfl rfl rfl rfl
    | apply ChainL.on (some 27) 17 26 true rfl rfl rfl rfl
      case h => exact step_move rfl
    first
    | apply ChainL.off (some 28) 17 26 true rfl rfl rfl rfl
    | apply ChainL.on (some 28) 17 26 true rfl rfl rfl rfl
      case h => exact step_move rfl
    first
    | apply ChainL.off (some 29) 17 26 true rfl rfl rfl rfl
    | apply ChainL.on (some 29) 17 26 true rfl rfl rfl rfl
      case h => exact w_call (free_nil _) [] [] [] Tryd.func10 rfl (by decide +kernel) rfl rfl .nil (by decide) rfl rfl rfl rfl rfl rfl rfl rfl rfl rfl rfl
    first
    | apply ChainL.off (some 30) 17 26 true rfl rfl rfl rfl
    | apply ChainL.on (some 30) 17 26 true rfl rfl rfl rfl
      case h => exact w_un rfl rfl rfl
    apply ChainL.of (some 31) rfl rfl
    case h => exact step_pick rfl rfl
    apply ChainL.of (some 32) rfl rfl
    case h => exact step_move rfl
    first
    | apply ChainL.off (some 33) 23 32 true rfl rfl rfl rfl
    | apply ChainL.on (some 33) 23 32 true rfl rfl rfl rfl
      case h => exact step_move rfl
    first
    | apply ChainL.off (some 34) 23 32 true rfl rfl rfl rfl
    | apply ChainL.on (some 34) 23 32 true rfl rfl rfl rfl
      case h => exact w_call left_nil [] [] [] Tryd.func14 rfl (by decide +kernel) rfl rfl .nil (by decide) rfl rfl rfl rfl rfl rfl rfl rfl rfl rfl rfl
    first
    | apply ChainL.off (some 35) 23 32 true rfl rfl rfl rfl
    | apply ChainL.on (some 35) 23 32 true rfl rfl rfl rfl
      case h => (first | exact w_bin rfl rfl rfl (eql_t (by omega)) | exact w_bin rfl rfl rfl (eql_f (by omega)) | exact w_bin rfl rfl rfl rfl)
    apply ChainL.of (some 36) rfl rfl
    case h => exact step_pick rfl rfl
    apply ChainL.of (some 37) rfl rfl
    case h => exact step_move rfl
    first
    | apply ChainL.off (some 38) 28 37 true rfl rfl rfl rfl
    | apply ChainL.on (some 38) 28 37 true rfl rfl rfl rfl
      case h => exact step_move rfl
    first
    | apply ChainL.off (some 39) 28 37 true rfl rfl rfl rfl
    | apply ChainL.on (some 39) 28 37 true rfl rfl rfl rfl
      case h => exact step_move rfl
    first
    | apply ChainL.off (some 40) 28 37 true rfl rfl rfl rfl
    | apply ChainL.on (some 40) 28 37 true rfl rfl rfl rfl
      case h => (first | exact w_call (first_nil _) [] [] [] Tryd.func12 rfl (by decide +kernel) rfl rfl .nil (by decide) rfl rfl rfl rfl rfl rfl rfl rfl rfl rfl rfl | exact w_call (first_0 _) [] [0, 1] [] Tryd.func12 rfl (by decide +kernel) rfl rfl .nil (by decide) (sp_hco _ _ 0 1 _) (by kernel_rfl) rfl (sp_hlt _ _ _) rfl (sp_hok _ _ _) rfl rfl rfl rfl (sp_zip _ _ 0 1 _))
    first
    | apply ChainL.off (some 41) 28 37 true rfl rfl rfl rfl
    | apply ChainL.on (some 41) 28 37 true rfl rfl rfl rfl
      case h => (first | exact w_bin rfl rfl rfl (eql_t (by omega)) | exact w_bin rfl rfl rfl (eql_f (by omega)) | exact w_bin rfl rfl rfl rfl)
    apply ChainL.of (some 42) rfl rfl
    case h => exact step_pick rfl rfl
    apply ChainL.of (some 43) rfl rfl
    case h => exact step_move rfl
    first
    | apply ChainL.off (some 44) 34 43 true rfl rfl rfl rfl
    | apply ChainL.on (some 44) 34 43 true rfl rfl rfl rfl
      case h => exact step_move rfl
    first
    | apply ChainL.off (some 45) 34 43 true rfl rfl rfl rfl
    | apply ChainL.on (some 45) 34 43 true rfl rfl rfl rfl
      case h => exact w_call copy_nil [] [] [] Tryd.func15 rfl (by decide +kernel) rfl rfl .nil (by decide) rfl rfl rfl rfl rfl rfl rfl rfl rfl rfl rfl
    first
    | apply ChainL.off (some 46) 34 43 true rfl rfl rfl rfl
    | apply ChainL.on (some 46) 34 43 true rfl rfl rfl rfl
      case h => (first | exact w_nil_nil tab (b := true) rfl rfl rfl rfl rfl | exact w_ptr_nil tab (b := true) rfl rfl rfl rfl rfl)
    apply ChainL.of (some 47) rfl rfl
    case h => exact step_pick rfl rfl
    apply ChainL.of (some 48) rfl rfl
    case h => exact step_move rfl
    first
    | apply ChainL.off (some 49) 39 48 true rfl rfl rfl rfl
    | apply ChainL.on (some 49) 39 48 true rfl rfl rfl rfl
      case h => exact step_move rfl
    first
    | apply ChainL.off (some 50) 39 48 true rfl rfl rfl rfl
    | apply ChainL.on (some 50) 39 48 true rfl rfl rfl rfl
      case h => (first | exact w_call many_nil [] [] [] Tryd.func8 rfl (by decide +kernel) rfl rfl .nil (by decide) rfl rfl rfl rfl rfl rfl rfl rfl rfl rfl rfl | exact w_call (many_ob 0 0 []) [] [0, 1] [] Tryd.func8 rfl (by decide +kernel) rfl rfl .nil (by decide) (sp_hco _ _ 0 1 _) (by kernel_rfl) rfl (sp_hlt _ _ _) rfl (sp_hok _ _ _) rfl rfl rfl rfl (sp_zip _ _ 0 1 _))
    first
    | apply ChainL.off (some 51) 39 48 true rfl rfl rfl rfl
    | apply ChainL.on (some 51) 39 48 true rfl rfl rfl rfl
      case h => (first | exact w_bin rfl rfl rfl (eql_t (by omega)) | exact w_bin rfl rfl rfl (eql_f (by omega)) | exact w_bin rfl rfl rfl rfl)
    apply ChainL.of (some 52) rfl rfl
    case h => exact step_pick rfl rfl
    apply ChainL.of (some 53) rfl rfl
    case h => exact step_move rfl
    first
    | apply ChainL.off (some 54) 44 53 true rfl rfl rfl rfl
    | apply ChainL.on (some 54) 44 53 true rfl rfl rfl rfl
      case h => exact step_move rfl
    first
    | apply ChainL.off (some 55) 44 53 true rfl rfl rfl rfl
    | apply ChainL.on (some 55) 44 53 true rfl rfl rfl rfl
      case h => exact step_move rfl
    first
    | apply ChainL.off (some 56) 44 53 true rfl rfl rfl rfl
    | apply ChainL.on (some 56) 44 53 true rfl rfl rfl rfl
      case h => (first | exact w_call (first_nil _) [] [] [] Tryd.func12 rfl (by decide +kernel) rfl rfl .nil (by decide) rfl rfl rfl rfl rfl rfl rfl rfl rfl rfl rfl | exact w_call (first_0 _) [] [0, 1] [] Tryd.func12 rfl (by decide +kernel) rfl rfl .nil (by decide) (sp_hco _ _ 0 1 _) (by kernel_rfl) rfl (sp_hlt _ _ _) rfl (sp_hok _ _ _) rfl rfl rfl rfl (sp_zip _ _ 0 1 _))
    first
    | apply ChainL.off (some 57) 44 53 true rfl rfl rfl rfl
    | apply ChainL.on (some 57) 44 53 true rfl rfl rfl rfl
      case h => (first | exact w_bin rfl rfl rfl (eql_t (by omega)) | exact w_bin rfl rfl rfl (eql_f (by omega)) | exact w_bin rfl rfl rfl rfl)
    apply ChainL.of (some 58) rfl rfl
    case h => exact step_pick rfl rfl
    apply ChainL.of (some 2) rfl rfl
    case h => exact step_assign rfl
    exact .nil
  show Cwp _ _ _ _
  refine cwp_ret ?_
  exact ⟨.inl rfl, resH_one rfl rfl, fun i x h => by simp at h⟩
end Go.Proofs.YtcbbpidnocgoiaaDoor.Sp


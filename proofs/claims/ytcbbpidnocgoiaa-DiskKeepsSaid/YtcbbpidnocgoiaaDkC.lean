/- Disks: the law of no disk. -/
import Derived.Test.YtcbbpidnocgoiaaDkB
namespace Go.Proofs.Ytcbbpidnocgoiaa.Dk
open Go Go.RowKit Go.Proofs.Ytcbbpidnocgoiaa.Eng
set_option linter.unusedVariables false
set_option linter.unusedSimpArgs false
set_option maxRecDepth 20000
theorem awake_t : HCall Try.prog 7 [] [] [] (.v (.bool true)) := by
  refine HCall.of Try.func7 rfl (by decide +kernel) (Nat.le_of_ble_eq_true rfl) ?_
  refine cwp_seq ?_
  apply one_region
  case hc =>
    apply ChainL.of (some 0) rfl rfl
    case h => exact step_assign rfl
    exact .nil
  show Cwp _ _ _ _
  refine cwp_seq ?_
  apply one_region
  case hc =>
    apply ChainL.of (some 7) rfl rfl
    case h => exact w_call new_3 [] [] [1, 2, 0] Try.func6 rfl (by decide +kernel) rfl rfl .nil (by decide) rfl rfl rfl rfl rfl rfl rfl rfl rfl rfl rfl
    apply ChainL.of (some 6) rfl rfl
    case h => exact step_move rfl
    apply ChainL.of (some 8) rfl rfl
    case h => exact step_extract rfl rfl rfl
    apply ChainL.of (some 9) rfl rfl
    case h => exact step_extract rfl rfl rfl
    apply ChainL.of (some 1) rfl rfl
    case h => exact step_assign rfl
    apply ChainL.of (some 2) rfl rfl
    case h => exact step_assign rfl
    exact .nil
  show Cwp _ _ _ _
  refine cwp_seq ?_
  apply one_region
  case hc =>
    apply ChainL.of (some 10) rfl rfl
    case h => exact step_move rfl
    apply ChainL.of (some 11) rfl rfl
    case h => exact w_call write_3 [] [0, 1, 2] [3] Try.func8 rfl (by decide +kernel) rfl rfl .nil (by decide) rfl (by kernel_rfl) rfl rfl rfl (by kernel_rfl) rfl rfl rfl rfl rfl
    apply ChainL.of (some 3) rfl rfl
    case h => exact step_assign rfl
    exact .nil
  show Cwp _ _ _ _
  refine cwp_seq ?_
  apply one_region
  case hc =>
    apply ChainL.of (some 13) rfl rfl
    case h => exact step_move rfl
    apply ChainL.of (some 14) rfl rfl
    case h => exact w_call read_3 [] [0, 1, 2, 3] [] Try.func12 rfl (by decide +kernel) rfl rfl .nil (by decide) rfl (by kernel_rfl) rfl rfl rfl (by kernel_rfl) rfl rfl rfl rfl rfl
    apply ChainL.of (some 12) rfl rfl
    case h => exact step_move rfl
    apply ChainL.of (some 15) rfl rfl
    case h => exact step_extract rfl rfl rfl
    apply ChainL.of (some 16) rfl rfl
    case h => exact step_extract rfl rfl rfl
    apply ChainL.of (some 4) rfl rfl
    case h => exact step_assign rfl
    apply ChainL.of (some 5) rfl rfl
    case h => exact step_assign rfl
    exact .nil
  show Cwp _ _ _ _
  refine cwp_seq ?_
  apply one_region
  case hc =>
    apply ChainL.of (some 17) rfl rfl
    case h => exact step_move rfl
    apply ChainL.of (some 18) rfl rfl
    case h => (first | exact w_bin rfl rfl rfl (eql_t (by omega)) | exact w_bin rfl rfl rfl (eql_f (by omega)) | exact w_bin rfl rfl rfl rfl)
    apply ChainL.of (some 19) rfl rfl
    case h => exact step_move rfl
    first
    | apply ChainL.off (some 20) 2 19 true rfl rfl rfl rfl
    | apply ChainL.on (some 20) 2 19 true rfl rfl rfl rfl
      case h => exact step_move rfl
    first
    | apply ChainL.off (some 21) 2 19 true rfl rfl rfl rfl
    | apply ChainL.on (some 21) 2 19 true rfl rfl rfl rfl
      case h => (first | exact w_bin rfl rfl rfl (eql_t (by omega)) | exact w_bin rfl rfl rfl (eql_f (by omega)) | exact w_bin rfl rfl rfl rfl)
    apply ChainL.of (some 22) rfl rfl
    case h => exact step_pick rfl rfl
    apply ChainL.of (some 23) rfl rfl
    case h => exact step_move rfl
    first
    | apply ChainL.off (some 24) 6 23 true rfl rfl rfl rfl
    | apply ChainL.on (some 24) 6 23 true rfl rfl rfl rfl
      case h => exact step_move rfl
    first
    | apply ChainL.off (some 25) 6 23 true rfl rfl rfl rfl
    | apply ChainL.on (some 25) 6 23 true rfl rfl rfl rfl
      case h => (first | exact w_bin rfl rfl rfl (eql_t (by omega)) | exact w_bin rfl rfl rfl (eql_f (by omega)) | exact w_bin rfl rfl rfl rfl)
    apply ChainL.of (some 26) rfl rfl
    case h => exact step_pick rfl rfl
    apply ChainL.of (some 27) rfl rfl
    case h => exact step_move rfl
    first
    | apply ChainL.off (some 28) 10 27 true rfl rfl rfl rfl
    | apply ChainL.on (some 28) 10 27 true rfl rfl rfl rfl
      case h => exact step_move rfl
    first
    | apply ChainL.off (some 29) 10 27 true rfl rfl rfl rfl
    | apply ChainL.on (some 29) 10 27 true rfl rfl rfl rfl
      case h => exact w_len_str (T := 9) (by kernel_rfl) rfl rfl (n := 256) (by kernel_rfl)
    first
    | apply ChainL.off (some 30) 10 27 true rfl rfl rfl rfl
    | apply ChainL.on (some 30) 10 27 true rfl rfl rfl rfl
      case h => (first | exact w_bin rfl rfl rfl (eql_t (by omega)) | exact w_bin rfl rfl rfl (eql_f (by omega)) | exact w_bin rfl rfl rfl rfl)
    apply ChainL.of (some 31) rfl rfl
    case h => exact step_pick rfl rfl
    apply ChainL.of (some 32) rfl rfl
    case h => exact step_move rfl
    first
    | apply ChainL.off (some 33) 15 32 true rfl rfl rfl rfl
    | apply ChainL.on (some 33) 15 32 true rfl rfl rfl rfl
      case h => exact step_move rfl
    first
    | apply ChainL.off (some 34) 15 32 true rfl rfl rfl rfl
    | apply ChainL.on (some 34) 15 32 true rfl rfl rfl rfl
      case h => exact w_index_str (T := 9) (by kernel_rfl) rfl rfl rfl (by decide) (c := 120) (by kernel_rfl) (n := 120) (by kernel_rfl)
    first
    | apply ChainL.off (some 35) 15 32 true rfl rfl rfl rfl
    | apply ChainL.on (some 35) 15 32 true rfl rfl rfl rfl
      case h => (first | exact w_bin rfl rfl rfl (eql_t (by omega)) | exact w_bin rfl rfl rfl (eql_f (by omega)) | exact w_bin rfl rfl rfl rfl)
    apply ChainL.of (some 36) rfl rfl
    case h => exact step_pick rfl rfl
    apply ChainL.of (some 0) rfl rfl
    case h => exact step_assign rfl
    exact .nil
  show Cwp _ _ _ _
  refine cwp_ret ?_
  exact ⟨.inl rfl, resH_one rfl rfl, fun i x h => by simp at h⟩
/-- The low ten bits. -/
def lo (n : Int) : Int := IntKind.wrap .i64 (((BitVec.ofInt 64 n &&& BitVec.ofInt 64 1023)).toNat : Nat)
theorem lo_le (n : Int) : 0 ≤ lo n ∧ lo n ≤ 1023 := by
  have h : ((BitVec.ofInt 64 n &&& BitVec.ofInt 64 1023)).toNat ≤ 1023 := by
    rw [BitVec.toNat_and]
    exact Nat.le_trans Nat.and_le_right (by decide)
  unfold lo
  rw [wrap_i64 (by omega) (by omega)]
  omega
theorem and_lo (n : Int) : abin .and (.int .i64 n) (.int .i64 1023) = some (.int .i64 (lo n)) := rfl
theorem none_t (n : Int) (s : ByteArray) : HCall Try.prog 4 [] [.v (.int .i64 n), .v (.string s)] [] (.v (.bool true)) := by
  have hlo := lo_le n
  refine HCall.of Try.func4 rfl (by decide +kernel) (Nat.le_of_ble_eq_true rfl) ?_
  refine cwp_seq ?_
  apply one_region
  case hc =>
    apply ChainL.of (some 4) rfl rfl
    case h => exact step_assign rfl
    exact .nil
  show Cwp _ _ _ _
  refine cwp_seq ?_
  apply one_region
  case hc =>
    apply ChainL.of (some 5) rfl rfl
    case h => exact step_assign rfl
    exact .nil
  show Cwp _ _ _ _
  refine cwp_seq ?_
  apply one_region
  case hc =>
    apply ChainL.of (some 12) rfl rfl
    case h => exact step_move rfl
    apply ChainL.of (some 13) rfl rfl
    case h => exact w_call up_nil [] [] [] Try.func11 rfl (by decide +kernel) rfl rfl .nil (by decide) rfl rfl rfl rfl rfl rfl rfl rfl rfl rfl rfl
    exact .nil
  show Cwp _ _ _ _
  refine cwp_seq ?_
  apply one_region
  case hc =>
    apply ChainL.of (some 15) rfl rfl
    case h => exact step_move rfl
    apply ChainL.of (some 16) rfl rfl
    case h => exact step_move rfl
    apply ChainL.of (some 17) rfl rfl
    case h => exact w_call (read_nil _) [] [] [] Try.func12 rfl (by decide +kernel) rfl rfl .nil (by decide) rfl rfl rfl rfl rfl rfl rfl rfl rfl rfl rfl
    apply ChainL.of (some 14) rfl rfl
    case h => exact step_move rfl
    apply ChainL.of (some 18) rfl rfl
    case h => exact step_extract rfl rfl rfl
    apply ChainL.of (some 19) rfl rfl
    case h => exact step_extract rfl rfl rfl
    apply ChainL.of (some 6) rfl rfl
    case h => exact step_assign rfl
    apply ChainL.of (some 7) rfl rfl
    case h => exact step_assign rfl
    exact .nil
  show Cwp _ _ _ _
  refine cwp_seq ?_
  apply one_region
  case hc =>
    apply ChainL.of (some 21) rfl rfl
    case h => exact step_move rfl
    apply ChainL.of (some 22) rfl rfl
    case h => exact w_bin rfl rfl rfl (and_lo n)
    apply ChainL.of (some 23) rfl rfl
    case h => (first | exact w_bin rfl rfl rfl (sub_i64 rfl (by omega) (by omega)) | exact w_bin rfl rfl rfl rfl)
    apply ChainL.of (some 24) rfl rfl
    case h => exact w_call (new_bad _ (by omega)) [] [] [] Try.func6 rfl (by decide +kernel) rfl rfl .nil (by decide) rfl rfl rfl rfl rfl rfl rfl rfl rfl rfl rfl
    apply ChainL.of (some 20) rfl rfl
    case h => exact step_move rfl
    apply ChainL.of (some 25) rfl rfl
    case h => exact step_extract rfl rfl rfl
    apply ChainL.of (some 26) rfl rfl
    case h => exact step_extract rfl rfl rfl
    apply ChainL.of (some 8) rfl rfl
    case h => exact step_assign rfl
    apply ChainL.of (some 9) rfl rfl
    case h => exact step_assign rfl
    exact .nil
  show Cwp _ _ _ _
  refine cwp_seq ?_
  apply one_region
  case hc =>
    apply ChainL.of (some 28) rfl rfl
    case h => exact step_move rfl
    apply ChainL.of (some 29) rfl rfl
    case h => exact w_bin rfl rfl rfl (and_lo n)
    apply ChainL.of (some 30) rfl rfl
    case h => (first | exact w_bin rfl rfl rfl (add_i64 rfl (by omega) (by omega)) | exact w_bin rfl rfl rfl rfl)
    apply ChainL.of (some 31) rfl rfl
    case h => exact w_call (new_bad _ (by omega)) [] [] [] Try.func6 rfl (by decide +kernel) rfl rfl .nil (by decide) rfl rfl rfl rfl rfl rfl rfl rfl rfl rfl rfl
    apply ChainL.of (some 27) rfl rfl
    case h => exact step_move rfl
    apply ChainL.of (some 32) rfl rfl
    case h => exact step_extract rfl rfl rfl
    apply ChainL.of (some 33) rfl rfl
    case h => exact step_extract rfl rfl rfl
    apply ChainL.of (some 10) rfl rfl
    case h => exact step_assign rfl
    apply ChainL.of (some 11) rfl rfl
    case h => exact step_assign rfl
    exact .nil
  show Cwp _ _ _ _
  refine cwp_seq ?_
  apply one_region
  case hc =>
    apply ChainL.of (some 34) rfl rfl
    case h => exact w_call awake_t [] [] [] Try.func7 rfl (by decide +kernel) rfl rfl .nil (by decide) rfl rfl rfl rfl rfl rfl rfl rfl rfl rfl rfl
    apply ChainL.of (some 35) rfl rfl
    case h => exact step_move rfl
    first
    | apply ChainL.off (some 36) 1 35 true rfl rfl rfl rfl
    | apply ChainL.on (some 36) 1 35 true rfl rfl rfl rfl
      case h => exact step_move rfl
    first
    | apply ChainL.off (some 37) 1 35 true rfl rfl rfl rfl
    | apply ChainL.on (some 37) 1 35 true rfl rfl rfl rfl
      case h => (first | exact w_bin rfl rfl rfl (eql_t (by omega)) | exact w_bin rfl rfl rfl (eql_f (by omega)) | exact w_bin rfl rfl rfl rfl)
    apply ChainL.of (some 38) rfl rfl
    case h => exact step_pick rfl rfl
    apply ChainL.of (some 39) rfl rfl
    case h => exact step_move rfl
    first
    | apply ChainL.off (some 40) 5 39 true rfl rfl rfl rfl
    | apply ChainL.on (some 40) 5 39 true rfl rfl rfl rfl
      case h => exact step_move rfl
    first
    | apply ChainL.off (some 41) 5 39 true rfl rfl rfl rfl
    | apply ChainL.on (some 41) 5 39 true rfl rfl rfl rfl
      case h => exact step_move rfl
    first
    | apply ChainL.off (some 42) 5 39 true rfl rfl rfl rfl
    | apply ChainL.on (some 42) 5 39 true rfl rfl rfl rfl
      case h => exact step_move rfl
    first
    | apply ChainL.off (some 43) 5 39 true rfl rfl rfl rfl
    | apply ChainL.on (some 43) 5 39 true rfl rfl rfl rfl
      case h => exact w_call (write_nil _ _) [] [] [] Try.func8 rfl (by decide +kernel) rfl rfl .nil (by decide) rfl rfl rfl rfl rfl rfl rfl rfl rfl rfl rfl
    first
    | apply ChainL.off (some 44) 5 39 true rfl rfl rfl rfl
    | apply ChainL.on (some 44) 5 39 true rfl rfl rfl rfl
      case h => (first | exact w_bin rfl rfl rfl (eql_t (by omega)) | exact w_bin rfl rfl rfl (eql_f (by omega)) | exact w_bin rfl rfl rfl rfl)
    apply ChainL.of (some 45) rfl rfl
    case h => exact step_pick rfl rfl
    apply ChainL.of (some 46) rfl rfl
    case h => exact step_move rfl
    first
    | apply ChainL.off (some 47) 12 46 true rfl rfl rfl rfl
    | apply ChainL.on (some 47) 12 46 true rfl rfl rfl rfl
      case h => exact step_move rfl
    first
    | apply ChainL.off (some 48) 12 46 true rfl rfl rfl rfl
    | apply ChainL.on (some 48) 12 46 true rfl rfl rfl rfl
      case h => exact w_call flush_nil [] [] [] Try.func9 rfl (by decide +kernel) rfl rfl .nil (by decide) rfl rfl rfl rfl rfl rfl rfl rfl rfl rfl rfl
    first
    | apply ChainL.off (some 49) 12 46 true rfl rfl rfl rfl
    | apply ChainL.on (some 49) 12 46 true rfl rfl rfl rfl
      case h => (first | exact w_bin rfl rfl rfl (eql_t (by omega)) | exact w_bin rfl rfl rfl (eql_f (by omega)) | exact w_bin rfl rfl rfl rfl)
    apply ChainL.of (some 50) rfl rfl
    case h => exact step_pick rfl rfl
    apply ChainL.of (some 51) rfl rfl
    case h => exact step_move rfl
    first
    | apply ChainL.off (some 52) 17 51 true rfl rfl rfl rfl
    | apply ChainL.on (some 52) 17 51 true rfl rfl rfl rfl
      case h => exact step_move rfl
    first
    | apply ChainL.off (some 53) 17 51 true rfl rfl rfl rfl
    | apply ChainL.on (some 53) 17 51 true rfl rfl rfl rfl
      case h => exact w_call dead_nil [] [] [] Try.func10 rfl (by decide +kernel) rfl rfl .nil (by decide) rfl rfl rfl rfl rfl rfl rfl rfl rfl rfl rfl
    apply ChainL.of (some 54) rfl rfl
    case h => exact step_pick rfl rfl
    apply ChainL.of (some 55) rfl rfl
    case h => exact step_move rfl
    first
    | apply ChainL.off (some 56) 21 55 true rfl rfl rfl rfl
    | apply ChainL.on (some 56) 21 55 true rfl rfl rfl rfl
      case h => exact step_move rfl
    first
    | apply ChainL.off (some 57) 21 55 true rfl rfl rfl rfl
    | apply ChainL.on (some 57) 21 55 true rfl rfl rfl rfl
      case h => exact w_call sectors_nil [] [] [] Try.func14 rfl (by decide +kernel) rfl rfl .nil (by decide) rfl rfl rfl rfl rfl rfl rfl rfl rfl rfl rfl
    first
    | apply ChainL.off (some 58) 21 55 true rfl rfl rfl rfl
    | apply ChainL.on (some 58) 21 55 true rfl rfl rfl rfl
      case h => (first | exact w_bin rfl rfl rfl (eql_t (by omega)) | exact w_bin rfl rfl rfl (eql_f (by omega)) | exact w_bin rfl rfl rfl rfl)
    apply ChainL.of (some 59) rfl rfl
    case h => exact step_pick rfl rfl
    apply ChainL.of (some 60) rfl rfl
    case h => exact step_move rfl
    first
    | apply ChainL.off (some 61) 26 60 true rfl rfl rfl rfl
    | apply ChainL.on (some 61) 26 60 true rfl rfl rfl rfl
      case h => exact step_move rfl
    first
    | apply ChainL.off (some 62) 26 60 true rfl rfl rfl rfl
    | apply ChainL.on (some 62) 26 60 true rfl rfl rfl rfl
      case h => exact w_call acts_nil [] [] [] Try.func15 rfl (by decide +kernel) rfl rfl .nil (by decide) rfl rfl rfl rfl rfl rfl rfl rfl rfl rfl rfl
    first
    | apply ChainL.off (some 63) 26 60 true rfl rfl rfl rfl
    | apply ChainL.on (some 63) 26 60 true rfl rfl rfl rfl
      case h => (first | exact w_bin rfl rfl rfl (eql_t (by omega)) | exact w_bin rfl rfl rfl (eql_f (by omega)) | exact w_bin rfl rfl rfl rfl)
    apply ChainL.of (some 64) rfl rfl
    case h => exact step_pick rfl rfl
    apply ChainL.of (some 65) rfl rfl
    case h => exact step_move rfl
    first
    | apply ChainL.off (some 66) 31 65 true rfl rfl rfl rfl
    | apply ChainL.on (some 66) 31 65 true rfl rfl rfl rfl
      case h => exact step_move rfl
    first
    | apply ChainL.off (some 67) 31 65 true rfl rfl rfl rfl
    | apply ChainL.on (some 67) 31 65 true rfl rfl rfl rfl
      case h => exact w_call fails_nil [] [] [] Try.func13 rfl (by decide +kernel) rfl rfl .nil (by decide) rfl rfl rfl rfl rfl rfl rfl rfl rfl rfl rfl
    first
    | apply ChainL.off (some 68) 31 65 true rfl rfl rfl rfl
    | apply ChainL.on (some 68) 31 65 true rfl rfl rfl rfl
      case h => (first | exact w_bin rfl rfl rfl (eql_t (by omega)) | exact w_bin rfl rfl rfl (eql_f (by omega)) | exact w_bin rfl rfl rfl rfl)
    apply ChainL.of (some 69) rfl rfl
    case h => exact step_pick rfl rfl
    apply ChainL.of (some 70) rfl rfl
    case h => exact step_move rfl
    first
    | apply ChainL.off (some 71) 36 70 true rfl rfl rfl rfl
    | apply ChainL.on (some 71) 36 70 true rfl rfl rfl rfl
      case h => exact step_move rfl
    first
    | apply ChainL.off (some 72) 36 70 true rfl rfl rfl rfl
    | apply ChainL.on (some 72) 36 70 true rfl rfl rfl rfl
      case h => (first | exact w_bin rfl rfl rfl (eql_t (by omega)) | exact w_bin rfl rfl rfl (eql_f (by omega)) | exact w_bin rfl rfl rfl rfl)
    apply ChainL.of (some 73) rfl rfl
    case h => exact step_pick rfl rfl
    apply ChainL.of (some 74) rfl rfl
    case h => exact step_move rfl
    first
    | apply ChainL.off (some 75) 40 74 true rfl rfl rfl rfl
    | apply ChainL.on (some 75) 40 74 true rfl rfl rfl rfl
      case h => exact step_move rfl
    first
    | apply ChainL.off (some 76) 40 74 true rfl rfl rfl rfl
    | apply ChainL.on (some 76) 40 74 true rfl rfl rfl rfl
      case h => (first | exact w_bin rfl rfl rfl (eql_t (by omega)) | exact w_bin rfl rfl rfl (eql_f (by omega)) | exact w_bin rfl rfl rfl rfl)
    apply ChainL.of (some 77) rfl rfl
    case h => exact step_pick rfl rfl
    apply ChainL.of (some 4) rfl rfl
    case h => exact step_assign rfl
    exact .nil
  show Cwp _ _ _ _
  refine cwp_ret ?_
  exact ⟨.inl rfl, resH_one rfl rfl, fun i x h => by simp at h⟩
end Go.Proofs.Ytcbbpidnocgoiaa.Dk


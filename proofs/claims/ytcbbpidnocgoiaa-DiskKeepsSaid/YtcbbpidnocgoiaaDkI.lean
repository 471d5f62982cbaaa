/- Disks: writes of another text. -/
import Derived.Test.YtcbbpidnocgoiaaDkH
namespace Go.Proofs.Ytcbbpidnocgoiaa.Dk
open Go Go.RowKit Go.Proofs.Ytcbbpidnocgoiaa.Eng
set_option linter.unusedVariables false
set_option linter.unusedSimpArgs false
set_option maxRecDepth 20000
theorem wfail_5_0 (n a fails : Int) (h0 : 0 ≤ n) (h1 : a < n + 1) (h2 : 0 < a) (h3 : n ≤ 100) (h4 : 0 ≤ fails) (h5 : fails ≤ 100) (D : List ByteArray) (T : List Bool) (hD : D.length = 9) (hT : T.length = 9) :
    HCall Try.prog 8 [dsk (.v (.slice none 0 0)) (.own 3 0 1) n n fails false, strs D, bools T, cutO a (.v (.slice none 0 0))] [.ref 0 0 0, .v (.int .i64 8), .v (.string oth)]
    [.ob (dsk (.v (.slice none 0 0)) (.lst 2 []) (n + 1) (n + 1) (fails + 1) true), .ob (strs (itD [] D 1)), .ob (bools (itT [] T 1)), .ob (cutO a (.v (.slice none 0 0)))] (.v (.int .i64 40)) := by
  have c1 := alive_4 (.v (.slice none 0 0)) (.own 3 0 1) n n fails (strs D) (bools T) (cutO a (.v (.slice none 0 0)))
  have c2 := actfail_5_1 n a fails h0 h1 h2 h3 h4 h5 D T hD hT
  obtain ⟨L, hL⟩ : ∃ L : Int, (oth.size : Int) = L := ⟨_, rfl⟩
  have hL5 : L = 5 := by rw [← hL]; kernel_rfl
  have g2 : oth.size = 5 := by omega
  have hlen : ((strs D).rows.drop 0).take 9 = D.map fun s => [.v (.string s)] := by rw [List.drop_zero]; exact List.take_of_length_le (by simp [strs, hD])
  have hpad : ((⟨1, List.replicate (256 - L).toNat [SV.v (.int .u8 0)], false⟩ : Ob).rows.drop 0).take (256 - L).toNat = (List.replicate (256 - oth.size) 0).map fun n => [SV.v (.int .u8 n)] := by
    rw [List.drop_zero, List.take_of_length_le (by simp), List.map_replicate]
    have e : (256 - L).toNat = 256 - oth.size := by omega
    show List.replicate (256 - L).toNat _ = _
    rw [e]
  have hpl : (List.replicate (256 - oth.size) (0 : Int)).length = (256 - L).toNat := by rw [List.length_replicate]; omega
  have hfull : abin .add (.string oth) (.string (strOfNums (List.replicate (256 - oth.size) 0))) = some (.string (full oth)) := by
    simp only [abin]
    rw [if_neg (by rw [strOfNums_size, List.length_replicate]; omega)]
    rfl
  refine HCall.of Try.func8 rfl (by decide +kernel) (Nat.le_of_ble_eq_true rfl) ?_
  refine cwp_seq ?_
  apply one_region
  case hc =>
    apply ChainL.of (some 6) rfl rfl
    case h => exact step_assign rfl
    exact .nil
  show Cwp _ _ _ _
  refine cwp_seq ?_
  refine cwp_block ?_
  refine cwp_seq ?_
  apply one_region
  case hc =>
    apply ChainL.of (some 8) rfl rfl
    case h => exact step_move rfl
    apply ChainL.of (some 9) rfl rfl
    case h => exact w_call c1 [] [0, 1, 2, 3] [] Try.func10 rfl (by decide +kernel) rfl rfl .nil (by decide) (map4 rfl (strs_ren _ _) (bools_ren _ _) rfl) rfl rfl (all4 rfl (strs_lt _ _) (bools_lt _ _) rfl) rfl (all4 rfl (strs_lt _ _) (bools_lt _ _) rfl) rfl rfl rfl rfl (zip4 rfl (os_strs _ _) (os_bools _ _) rfl)
    apply ChainL.of (some 7) rfl rfl
    case h => exact step_assign rfl
    exact .nil
  show Cwp _ _ _ _
  refine cond_f (by first | rfl | kernel_rfl) ?_
  refine cwp_seq ?_
  apply one_region
  case hc =>
    apply ChainL.of (some 11) rfl rfl
    case h => exact step_move rfl
    apply ChainL.of (some 12) rfl rfl
    case h => (first | exact w_bin rfl rfl rfl (lss_t (by omega)) | exact w_bin rfl rfl rfl (lss_f (by omega)) | exact w_bin rfl rfl rfl rfl)
    apply ChainL.of (some 13) rfl rfl
    case h => exact step_move rfl
    first
    | apply ChainL.off (some 14) 2 13 false rfl rfl rfl rfl
    | apply ChainL.on (some 14) 2 13 false rfl rfl rfl rfl
      case h => exact step_move rfl
    first
    | apply ChainL.off (some 15) 2 13 false rfl rfl rfl rfl
    | apply ChainL.on (some 15) 2 13 false rfl rfl rfl rfl
      case h => exact step_move rfl
    first
    | apply ChainL.off (some 16) 2 13 false rfl rfl rfl rfl
    | apply ChainL.on (some 16) 2 13 false rfl rfl rfl rfl
      case h => (first | exact step_nilCheck rfl rfl | exact step_nilCheck_elt rfl rfl)
    first
    | apply ChainL.off (some 17) 2 13 false rfl rfl rfl rfl
    | apply ChainL.on (some 17) 2 13 false rfl rfl rfl rfl
      case h => (first | exact w_fieldAddr tab rfl rfl rfl rfl (by decide) rfl rfl | exact w_fieldAddr_elt tab rfl rfl rfl rfl (by decide) rfl rfl)
    first
    | apply ChainL.off (some 18) 2 13 false rfl rfl rfl rfl
    | apply ChainL.on (some 18) 2 13 false rfl rfl rfl rfl
      case h => (first | exact w_load tab rfl rfl rfl rfl rfl rfl rfl | exact w_load tab rfl rfl rfl rfl rfl (by assumption) rfl | exact w_load_elt tab rfl rfl rfl rfl rfl | exact w_loads tab rfl rfl rfl rfl rfl rfl rfl rfl | exact w_load_tab tab rfl rfl rfl rfl (.head _) (by kernel_rfl) | exact w_loads_elt tab rfl rfl rfl rfl rfl rfl)
    first
    | apply ChainL.off (some 19) 2 13 false rfl rfl rfl rfl
    | apply ChainL.on (some 19) 2 13 false rfl rfl rfl rfl
      case h => exact w_len tab rfl rfl rfl (.own rfl hlen (by simp [hD])) (n := 9) (by simp [hD])
    first
    | apply ChainL.off (some 20) 2 13 false rfl rfl rfl rfl
    | apply ChainL.on (some 20) 2 13 false rfl rfl rfl rfl
      case h => (first | exact w_bin rfl rfl rfl (geq_t (by omega)) | exact w_bin rfl rfl rfl (geq_f (by omega)) | exact w_bin rfl rfl rfl rfl)
    apply ChainL.of (some 21) rfl rfl
    case h => exact step_pick rfl rfl
    apply ChainL.of (some 10) rfl rfl
    case h => exact step_assign rfl
    exact .nil
  show Cwp _ _ _ _
  refine cond_f (by first | rfl | kernel_rfl) ?_
  refine cwp_seq ?_
  apply one_region
  case hc =>
    apply ChainL.of (some 23) rfl rfl
    case h => exact step_move rfl
    apply ChainL.of (some 24) rfl rfl
    case h => exact w_len_str (T := 9) (by kernel_rfl) rfl rfl hL
    apply ChainL.of (some 25) rfl rfl
    case h => (first | exact w_bin rfl rfl rfl (gtr_t (by omega)) | exact w_bin rfl rfl rfl (gtr_f (by omega)) | exact w_bin rfl rfl rfl rfl)
    apply ChainL.of (some 22) rfl rfl
    case h => exact step_assign rfl
    exact .nil
  show Cwp _ _ _ _
  refine cond_f (by first | rfl | kernel_rfl) ?_
  refine cwp_skip ?_
  show Cwp _ _ _ _
  refine cwp_seq ?_
  apply one_region
  case hc =>
    apply ChainL.of (some 26) rfl rfl
    case h => exact step_move rfl
    apply ChainL.of (some 27) rfl rfl
    case h => exact step_move rfl
    apply ChainL.of (some 28) rfl rfl
    case h => exact w_len_str (T := 9) (by kernel_rfl) rfl rfl hL
    apply ChainL.of (some 29) rfl rfl
    case h => (first | exact w_bin rfl rfl rfl (sub_i64 rfl (by omega) (by omega)) | exact w_bin rfl rfl rfl rfl)
    apply ChainL.of (some 30) rfl rfl
    case h => exact w_makeSlice tab rfl rfl rfl rfl 100 rfl rfl (by omega) (by dsimp only; omega) (by omega) (by decide) rfl rfl
    apply ChainL.of (some 31) rfl rfl
    case h => exact w_str_any (T := 51) (T2 := 9) (e := 5) (by kernel_rfl) (by kernel_rfl) (by kernel_rfl) rfl rfl rfl rfl (List.replicate (256 - oth.size) 0) hpad hpl rfl
    apply ChainL.of (some 32) rfl rfl
    case h => exact w_bin rfl rfl rfl hfull
    apply ChainL.of (some 2) rfl rfl
    case h => exact step_assign rfl
    exact .nil
  show Cwp _ _ _ _
  refine cwp_seq ?_
  apply one_region
  case hc =>
    apply ChainL.of (some 33) rfl rfl
    case h => exact step_move rfl
    apply ChainL.of (some 34) rfl rfl
    case h => exact step_move rfl
    apply ChainL.of (some 35) rfl rfl
    case h => (first | exact step_nilCheck rfl rfl | exact step_nilCheck_elt rfl rfl)
    apply ChainL.of (some 36) rfl rfl
    case h => (first | exact w_fieldAddr tab rfl rfl rfl rfl (by decide) rfl rfl | exact w_fieldAddr_elt tab rfl rfl rfl rfl (by decide) rfl rfl)
    apply ChainL.of (some 37) rfl rfl
    case h => (first | exact w_load tab rfl rfl rfl rfl rfl rfl rfl | exact w_load tab rfl rfl rfl rfl rfl (by assumption) rfl | exact w_load_elt tab rfl rfl rfl rfl rfl | exact w_loads tab rfl rfl rfl rfl rfl rfl rfl rfl | exact w_load_tab tab rfl rfl rfl rfl (.head _) (by kernel_rfl) | exact w_loads_elt tab rfl rfl rfl rfl rfl rfl)
    apply ChainL.of (some 38) rfl rfl
    case h => exact step_move rfl
    apply ChainL.of (some 39) rfl rfl
    case h => exact step_move rfl
    apply ChainL.of (some 40) rfl rfl
    case h => exact w_build tab rfl rfl (by decide) rfl rfl
    apply ChainL.of (some 41) rfl rfl
    case h => exact w_slice1 tab rfl rfl rfl rfl 101 (by decide) (by decide) rfl rfl rfl
    apply ChainL.of (some 42) rfl rfl
    case h => (first | exact w_append_nil_own tab rfl rfl rfl rfl rfl rfl 4 (by decide) rfl rfl rfl rfl rfl rfl rfl (Nat.le_of_ble_eq_true rfl) rfl (Nat.le_of_ble_eq_true rfl) (Nat.le_of_ble_eq_true rfl) rfl | (apply w_append_own (id' := 4) tab rfl rfl rfl rfl rfl rfl; (case hm0 => decide); (case hx => first | exact rfl | exact Nat.le_of_ble_eq_true rfl); (case hob => first | exact rfl | exact Nat.le_of_ble_eq_true rfl); (case him => first | exact rfl | exact Nat.le_of_ble_eq_true rfl); (case hfz => first | exact rfl | exact Nat.le_of_ble_eq_true rfl); (case hrx => first | exact rfl | exact Nat.le_of_ble_eq_true rfl); (case hlx => first | exact rfl | exact Nat.le_of_ble_eq_true rfl); (case hy => first | exact rfl | exact Nat.le_of_ble_eq_true rfl); (case hob2 => first | exact rfl | exact Nat.le_of_ble_eq_true rfl); (case hm => first | exact rfl | exact Nat.le_of_ble_eq_true rfl); (case hr => first | exact rfl | exact Nat.le_of_ble_eq_true rfl); (case hrl => first | exact rfl | exact Nat.le_of_ble_eq_true rfl); (case hone => first | exact rfl | exact Nat.le_of_ble_eq_true rfl); (case honex => first | exact rfl | exact Nat.le_of_ble_eq_true rfl); (case hid => first | exact rfl | exact Nat.le_of_ble_eq_true rfl); (case hlim => first | exact rfl | exact Nat.le_of_ble_eq_true rfl); (case h63 => first | exact rfl | exact Nat.le_of_ble_eq_true rfl); (case hn => first | exact rfl | exact Nat.le_of_ble_eq_true rfl); (case hrows => first | exact rfl | exact Nat.le_of_ble_eq_true rfl)))
    apply ChainL.of (some 43) rfl rfl
    case h => (first | exact step_nilCheck rfl rfl | exact step_nilCheck_elt rfl rfl)
    apply ChainL.of (some 44) rfl rfl
    case h => (first | exact w_fieldAddr tab rfl rfl rfl rfl (by decide) rfl rfl | exact w_fieldAddr_elt tab rfl rfl rfl rfl (by decide) rfl rfl)
    apply ChainL.of none rfl rfl
    case h => (first | exact w_store tab rfl rfl rfl rfl rfl rfl rfl rfl rfl (Nat.le_of_ble_eq_true rfl) rfl rfl | exact w_store tab rfl rfl rfl rfl rfl (by assumption) rfl rfl rfl (Nat.le_of_ble_eq_true rfl) rfl rfl)
    exact .nil
  show Cwp _ _ _ _
  refine cwp_seq ?_
  refine cwp_seq ?_
  apply one_region
  case hc =>
    apply ChainL.of (some 45) rfl rfl
    case h => exact step_move rfl
    apply ChainL.of (some 46) rfl rfl
    case h => exact w_call c2 [] [0, 1, 2, 4, 3] [] Try.func20 rfl (by decide +kernel) rfl rfl .nil (by decide) (map5 rfl (strs_ren _ _) (bools_ren _ _) rfl rfl) rfl rfl (all5 rfl (strs_lt _ _) (bools_lt _ _) rfl rfl) rfl (all5 rfl (strs_lt _ _) (bools_lt _ _) rfl rfl) rfl rfl rfl rfl (zip5 rfl (os_strs _ _) (os_bools _ _) rfl rfl)
    exact .nil
  show Cwp _ _ _ _
  refine cond_t (by first | rfl | kernel_rfl) ?_
  refine cwp_seq ?_
  apply one_region
  case hc =>
    apply ChainL.of (some 6) rfl rfl
    case h => exact step_assign rfl
    exact .nil
  show Cwp _ _ _ _
  refine cwp_ret ?_
  exact ⟨.inl rfl, resH_one rfl rfl, objs_ok rfl⟩
theorem wok_5_1 (n a fails : Int) (h0 : 0 ≤ n) (h1 : n + 1 ≤ a) (h2 : a ≤ 100) (D : List ByteArray) (T : List Bool) (hD : D.length = 9) :
    HCall Try.prog 8 [dsk (.own 3 0 1) (.own 4 0 1) n n fails false, strs D, bools T, othO 1, cutO a (.v (.slice none 0 0))] [.ref 0 0 0, .v (.int .i64 8), .v (.string oth)]
    [.ob (dsk (.own 5 0 2) (.own 4 0 1) (n + 1) (n + 1) fails false), .ob (strs D), .ob (bools T), .dead, .ob (cutO a (.v (.slice none 0 0))), .ob (othO 2)] (.v (.int .i64 0)) := by
  have c1 := alive_5 (.own 3 0 1) (.own 4 0 1) n n fails (strs D) (bools T) (othO 1) (cutO a (.v (.slice none 0 0)))
  have c2 := actok_5 2 n a fails (.v (.slice none 0 0)) h0 h1 h2 D T (othO 2)
  obtain ⟨L, hL⟩ : ∃ L : Int, (oth.size : Int) = L := ⟨_, rfl⟩
  have hL5 : L = 5 := by rw [← hL]; kernel_rfl
  have g2 : oth.size = 5 := by omega
  have hlen : ((strs D).rows.drop 0).take 9 = D.map fun s => [.v (.string s)] := by rw [List.drop_zero]; exact List.take_of_length_le (by simp [strs, hD])
  have hpad : ((⟨1, List.replicate (256 - L).toNat [SV.v (.int .u8 0)], false⟩ : Ob).rows.drop 0).take (256 - L).toNat = (List.replicate (256 - oth.size) 0).map fun n => [SV.v (.int .u8 n)] := by
    rw [List.drop_zero, List.take_of_length_le (by simp), List.map_replicate]
    have e : (256 - L).toNat = 256 - oth.size := by omega
    show List.replicate (256 - L).toNat _ = _
    rw [e]
  have hpl : (List.replicate (256 - oth.size) (0 : Int)).length = (256 - L).toNat := by rw [List.length_replicate]; omega
  have hfull : abin .add (.string oth) (.string (strOfNums (List.replicate (256 - oth.size) 0))) = some (.string (full oth)) := by
    simp only [abin]
    rw [if_neg (by rw [strOfNums_size, List.length_replicate]; omega)]
    rfl
  refine HCall.of Try.func8 rfl (by decide +kernel) (Nat.le_of_ble_eq_true rfl) ?_
  refine cwp_seq ?_
  apply one_region
  case hc =>
    apply ChainL.of (some 6) rfl rfl
    case h => exact step_assign rfl
    exact .nil
  show Cwp _ _ _ _
  refine cwp_seq ?_
  refine cwp_block ?_
  refine cwp_seq ?_
  apply one_region
  case hc =>
    apply ChainL.of (some 8) rfl rfl
    case h => exact step_move rfl
    apply ChainL.of (some 9) rfl rfl
    case h => exact w_call c1 [] [0, 1, 2, 3, 4] [] Try.func10 rfl (by decide +kernel) rfl rfl .nil (by decide) (map5 rfl (strs_ren _ _) (bools_ren _ _) rfl rfl) rfl rfl (all5 rfl (strs_lt _ _) (bools_lt _ _) rfl rfl) rfl (all5 rfl (strs_lt _ _) (bools_lt _ _) rfl rfl) rfl rfl rfl rfl (zip5 rfl (os_strs _ _) (os_bools _ _) rfl rfl)
    apply ChainL.of (some 7) rfl rfl
    case h => exact step_assign rfl
    exact .nil
  show Cwp _ _ _ _
  refine cond_f (by first | rfl | kernel_rfl) ?_
  refine cwp_seq ?_
  apply one_region
  case hc =>
    apply ChainL.of (some 11) rfl rfl
    case h => exact step_move rfl
    apply ChainL.of (some 12) rfl rfl
    case h => (first | exact w_bin rfl rfl rfl (lss_t (by omega)) | exact w_bin rfl rfl rfl (lss_f (by omega)) | exact w_bin rfl rfl rfl rfl)
    apply ChainL.of (some 13) rfl rfl
    case h => exact step_move rfl
    first
    | apply ChainL.off (some 14) 2 13 false rfl rfl rfl rfl
    | apply ChainL.on (some 14) 2 13 false rfl rfl rfl rfl
      case h => exact step_move rfl
    first
    | apply ChainL.off (some 15) 2 13 false rfl rfl rfl rfl
    | apply ChainL.on (some 15) 2 13 false rfl rfl rfl rfl
      case h => exact step_move rfl
    first
    | apply ChainL.off (some 16) 2 13 false rfl rfl rfl rfl
    | apply ChainL.on (some 16) 2 13 false rfl rfl rfl rfl
      case h => (first | exact step_nilCheck rfl rfl | exact step_nilCheck_elt rfl rfl)
    first
    | apply ChainL.off (some 17) 2 13 false rfl rfl rfl rfl
    | apply ChainL.on (some 17) 2 13 false rfl rfl rfl rfl
      case h => (first | exact w_fieldAddr tab rfl rfl rfl rfl (by decide) rfl rfl | exact w_fieldAddr_elt tab rfl rfl rfl rfl (by decide) rfl rfl)
    first
    | apply ChainL.off (some 18) 2 13 false rfl rfl rfl rfl
    | apply ChainL.on (some 18) 2 13 false rfl rfl rfl rfl
      case h => (first | exact w_load tab rfl rfl rfl rfl rfl rfl rfl | exact w_load tab rfl rfl rfl rfl rfl (by assumption) rfl | exact w_load_elt tab rfl rfl rfl rfl rfl | exact w_loads tab rfl rfl rfl rfl rfl rfl rfl rfl | exact w_load_tab tab rfl rfl rfl rfl (.head _) (by kernel_rfl) | exact w_loads_elt tab rfl rfl rfl rfl rfl rfl)
    first
    | apply ChainL.off (some 19) 2 13 false rfl rfl rfl rfl
    | apply ChainL.on (some 19) 2 13 false rfl rfl rfl rfl
      case h => exact w_len tab rfl rfl rfl (.own rfl hlen (by simp [hD])) (n := 9) (by simp [hD])
    first
    | apply ChainL.off (some 20) 2 13 false rfl rfl rfl rfl
    | apply ChainL.on (some 20) 2 13 false rfl rfl rfl rfl
      case h => (first | exact w_bin rfl rfl rfl (geq_t (by omega)) | exact w_bin rfl rfl rfl (geq_f (by omega)) | exact w_bin rfl rfl rfl rfl)
    apply ChainL.of (some 21) rfl rfl
    case h => exact step_pick rfl rfl
    apply ChainL.of (some 10) rfl rfl
    case h => exact step_assign rfl
    exact .nil
  show Cwp _ _ _ _
  refine cond_f (by first | rfl | kernel_rfl) ?_
  refine cwp_seq ?_
  apply one_region
  case hc =>
    apply ChainL.of (some 23) rfl rfl
    case h => exact step_move rfl
    apply ChainL.of (some 24) rfl rfl
    case h => exact w_len_str (T := 9) (by kernel_rfl) rfl rfl hL
    apply ChainL.of (some 25) rfl rfl
    case h => (first | exact w_bin rfl rfl rfl (gtr_t (by omega)) | exact w_bin rfl rfl rfl (gtr_f (by omega)) | exact w_bin rfl rfl rfl rfl)
    apply ChainL.of (some 22) rfl rfl
    case h => exact step_assign rfl
    exact .nil
  show Cwp _ _ _ _
  refine cond_f (by first | rfl | kernel_rfl) ?_
  refine cwp_skip ?_
  show Cwp _ _ _ _
  refine cwp_seq ?_
  apply one_region
  case hc =>
    apply ChainL.of (some 26) rfl rfl
    case h => exact step_move rfl
    apply ChainL.of (some 27) rfl rfl
    case h => exact step_move rfl
    apply ChainL.of (some 28) rfl rfl
    case h => exact w_len_str (T := 9) (by kernel_rfl) rfl rfl hL
    apply ChainL.of (some 29) rfl rfl
    case h => (first | exact w_bin rfl rfl rfl (sub_i64 rfl (by omega) (by omega)) | exact w_bin rfl rfl rfl rfl)
    apply ChainL.of (some 30) rfl rfl
    case h => exact w_makeSlice tab rfl rfl rfl rfl 102 rfl rfl (by omega) (by dsimp only; omega) (by omega) (by decide) rfl rfl
    apply ChainL.of (some 31) rfl rfl
    case h => exact w_str_any (T := 51) (T2 := 9) (e := 5) (by kernel_rfl) (by kernel_rfl) (by kernel_rfl) rfl rfl rfl rfl (List.replicate (256 - oth.size) 0) hpad hpl rfl
    apply ChainL.of (some 32) rfl rfl
    case h => exact w_bin rfl rfl rfl hfull
    apply ChainL.of (some 2) rfl rfl
    case h => exact step_assign rfl
    exact .nil
  show Cwp _ _ _ _
  refine cwp_seq ?_
  apply one_region
  case hc =>
    apply ChainL.of (some 33) rfl rfl
    case h => exact step_move rfl
    apply ChainL.of (some 34) rfl rfl
    case h => exact step_move rfl
    apply ChainL.of (some 35) rfl rfl
    case h => (first | exact step_nilCheck rfl rfl | exact step_nilCheck_elt rfl rfl)
    apply ChainL.of (some 36) rfl rfl
    case h => (first | exact w_fieldAddr tab rfl rfl rfl rfl (by decide) rfl rfl | exact w_fieldAddr_elt tab rfl rfl rfl rfl (by decide) rfl rfl)
    apply ChainL.of (some 37) rfl rfl
    case h => (first | exact w_load tab rfl rfl rfl rfl rfl rfl rfl | exact w_load tab rfl rfl rfl rfl rfl (by assumption) rfl | exact w_load_elt tab rfl rfl rfl rfl rfl | exact w_loads tab rfl rfl rfl rfl rfl rfl rfl rfl | exact w_load_tab tab rfl rfl rfl rfl (.head _) (by kernel_rfl) | exact w_loads_elt tab rfl rfl rfl rfl rfl rfl)
    apply ChainL.of (some 38) rfl rfl
    case h => exact step_move rfl
    apply ChainL.of (some 39) rfl rfl
    case h => exact step_move rfl
    apply ChainL.of (some 40) rfl rfl
    case h => exact w_build tab rfl rfl (by decide) rfl rfl
    apply ChainL.of (some 41) rfl rfl
    case h => exact w_slice1 tab rfl rfl rfl rfl 103 (by decide) (by decide) rfl rfl rfl
    apply ChainL.of (some 42) rfl rfl
    case h => (first | exact w_append_nil_own tab rfl rfl rfl rfl rfl rfl 5 (by decide) rfl rfl rfl rfl rfl rfl rfl (Nat.le_of_ble_eq_true rfl) rfl (Nat.le_of_ble_eq_true rfl) (Nat.le_of_ble_eq_true rfl) rfl | (apply w_append_own (id' := 5) tab rfl rfl rfl rfl rfl rfl; (case hm0 => decide); (case hx => first | exact rfl | exact Nat.le_of_ble_eq_true rfl); (case hob => first | exact rfl | exact Nat.le_of_ble_eq_true rfl); (case him => first | exact rfl | exact Nat.le_of_ble_eq_true rfl); (case hfz => first | exact rfl | exact Nat.le_of_ble_eq_true rfl); (case hrx => first | exact rfl | exact Nat.le_of_ble_eq_true rfl); (case hlx => first | exact rfl | exact Nat.le_of_ble_eq_true rfl); (case hy => first | exact rfl | exact Nat.le_of_ble_eq_true rfl); (case hob2 => first | exact rfl | exact Nat.le_of_ble_eq_true rfl); (case hm => first | exact rfl | exact Nat.le_of_ble_eq_true rfl); (case hr => first | exact rfl | exact Nat.le_of_ble_eq_true rfl); (case hrl => first | exact rfl | exact Nat.le_of_ble_eq_true rfl); (case hone => first | exact rfl | exact Nat.le_of_ble_eq_true rfl); (case honex => first | exact rfl | exact Nat.le_of_ble_eq_true rfl); (case hid => first | exact rfl | exact Nat.le_of_ble_eq_true rfl); (case hlim => first | exact rfl | exact Nat.le_of_ble_eq_true rfl); (case h63 => first | exact rfl | exact Nat.le_of_ble_eq_true rfl); (case hn => first | exact rfl | exact Nat.le_of_ble_eq_true rfl); (case hrows => first | exact rfl | exact Nat.le_of_ble_eq_true rfl)))
    apply ChainL.of (some 43) rfl rfl
    case h => (first | exact step_nilCheck rfl rfl | exact step_nilCheck_elt rfl rfl)
    apply ChainL.of (some 44) rfl rfl
    case h => (first | exact w_fieldAddr tab rfl rfl rfl rfl (by decide) rfl rfl | exact w_fieldAddr_elt tab rfl rfl rfl rfl (by decide) rfl rfl)
    apply ChainL.of none rfl rfl
    case h => (first | exact w_store tab rfl rfl rfl rfl rfl rfl rfl rfl rfl (Nat.le_of_ble_eq_true rfl) rfl rfl | exact w_store tab rfl rfl rfl rfl rfl (by assumption) rfl rfl rfl (Nat.le_of_ble_eq_true rfl) rfl rfl)
    exact .nil
  show Cwp _ _ _ _
  refine cwp_seq ?_
  refine cwp_seq ?_
  apply one_region
  case hc =>
    apply ChainL.of (some 45) rfl rfl
    case h => exact step_move rfl
    apply ChainL.of (some 46) rfl rfl
    case h => exact w_call c2 [] [0, 1, 2, 5, 4] [] Try.func20 rfl (by decide +kernel) rfl rfl .nil (by decide) (map5 rfl (strs_ren _ _) (bools_ren _ _) rfl rfl) rfl rfl (all5 rfl (strs_lt _ _) (bools_lt _ _) rfl rfl) rfl (all5 rfl (strs_lt _ _) (bools_lt _ _) rfl rfl) rfl rfl rfl rfl (zip5 rfl (os_strs _ _) (os_bools _ _) rfl rfl)
    exact .nil
  show Cwp _ _ _ _
  refine cond_f (by first | rfl | kernel_rfl) ?_
  refine cwp_skip ?_
  show Cwp _ _ _ _
  refine cwp_seq ?_
  apply one_region
  case hc =>
    apply ChainL.of (some 6) rfl rfl
    case h => exact step_assign rfl
    exact .nil
  show Cwp _ _ _ _
  refine cwp_ret ?_
  exact ⟨.inl rfl, resH_one rfl rfl, objs_ok rfl⟩
theorem wfail_5_1 (n a fails : Int) (h0 : 0 ≤ n) (h1 : a < n + 1) (h2 : 0 < a) (h3 : n ≤ 100) (h4 : 0 ≤ fails) (h5 : fails ≤ 100) (D : List ByteArray) (T : List Bool) (hD : D.length = 9) (hT : T.length = 9) :
    HCall Try.prog 8 [dsk (.own 3 0 1) (.own 4 0 1) n n fails false, strs D, bools T, othO 1, cutO a (.v (.slice none 0 0))] [.ref 0 0 0, .v (.int .i64 8), .v (.string oth)]
    [.ob (dsk (.v (.slice none 0 0)) (.lst 2 []) (n + 1) (n + 1) (fails + 1) true), .ob (strs (itD [] D 2)), .ob (bools (itT [] T 2)), .dead, .ob (cutO a (.v (.slice none 0 0)))] (.v (.int .i64 40)) := by
  have c1 := alive_5 (.own 3 0 1) (.own 4 0 1) n n fails (strs D) (bools T) (othO 1) (cutO a (.v (.slice none 0 0)))
  have c2 := actfail_5_2 n a fails h0 h1 h2 h3 h4 h5 D T hD hT
  obtain ⟨L, hL⟩ : ∃ L : Int, (oth.size : Int) = L := ⟨_, rfl⟩
  have hL5 : L = 5 := by rw [← hL]; kernel_rfl
  have g2 : oth.size = 5 := by omega
  have hlen : ((strs D).rows.drop 0).take 9 = D.map fun s => [.v (.string s)] := by rw [List.drop_zero]; exact List.take_of_length_le (by simp [strs, hD])
  have hpad : ((⟨1, List.replicate (256 - L).toNat [SV.v (.int .u8 0)], false⟩ : Ob).rows.drop 0).take (256 - L).toNat = (List.replicate (256 - oth.size) 0).map fun n => [SV.v (.int .u8 n)] := by
    rw [List.drop_zero, List.take_of_length_le (by simp), List.map_replicate]
    have e : (256 - L).toNat = 256 - oth.size := by omega
    show List.replicate (256 - L).toNat _ = _
    rw [e]
  have hpl : (List.replicate (256 - oth.size) (0 : Int)).length = (256 - L).toNat := by rw [List.length_replicate]; omega
  have hfull : abin .add (.string oth) (.string (strOfNums (List.replicate (256 - oth.size) 0))) = some (.string (full oth)) := by
    simp only [abin]
    rw [if_neg (by rw [strOfNums_size, List.length_replicate]; omega)]
    rfl
  refine HCall.of Try.func8 rfl (by decide +kernel) (Nat.le_of_ble_eq_true rfl) ?_
  refine cwp_seq ?_
  apply one_region
  case hc =>
    apply ChainL.of (some 6) rfl rfl
    case h => exact step_assign rfl
    exact .nil
  show Cwp _ _ _ _
  refine cwp_seq ?_
  refine cwp_block ?_
  refine cwp_seq ?_
  apply one_region
  case hc =>
    apply ChainL.of (some 8) rfl rfl
    case h => exact step_move rfl
    apply ChainL.of (some 9) rfl rfl
    case h => exact w_call c1 [] [0, 1, 2, 3, 4] [] Try.func10 rfl (by decide +kernel) rfl rfl .nil (by decide) (map5 rfl (strs_ren _ _) (bools_ren _ _) rfl rfl) rfl rfl (all5 rfl (strs_lt _ _) (bools_lt _ _) rfl rfl) rfl (all5 rfl (strs_lt _ _) (bools_lt _ _) rfl rfl) rfl rfl rfl rfl (zip5 rfl (os_strs _ _) (os_bools _ _) rfl rfl)
    apply ChainL.of (some 7) rfl rfl
    case h => exact step_assign rfl
    exact .nil
  show Cwp _ _ _ _
  refine cond_f (by first | rfl | kernel_rfl) ?_
  refine cwp_seq ?_
  apply one_region
  case hc =>
    apply ChainL.of (some 11) rfl rfl
    case h => exact step_move rfl
    apply ChainL.of (some 12) rfl rfl
    case h => (first | exact w_bin rfl rfl rfl (lss_t (by omega)) | exact w_bin rfl rfl rfl (lss_f (by omega)) | exact w_bin rfl rfl rfl rfl)
    apply ChainL.of (some 13) rfl rfl
    case h => exact step_move rfl
    first
    | apply ChainL.off (some 14) 2 13 false rfl rfl rfl rfl
    | apply ChainL.on (some 14) 2 13 false rfl rfl rfl rfl
      case h => exact step_move rfl
    first
    | apply ChainL.off (some 15) 2 13 false rfl rfl rfl rfl
    | apply ChainL.on (some 15) 2 13 false rfl rfl rfl rfl
      case h => exact step_move rfl
    first
    | apply ChainL.off (some 16) 2 13 false rfl rfl rfl rfl
    | apply ChainL.on (some 16) 2 13 false rfl rfl rfl rfl
      case h => (first | exact step_nilCheck rfl rfl | exact step_nilCheck_elt rfl rfl)
    first
    | apply ChainL.off (some 17) 2 13 false rfl rfl rfl rfl
    | apply ChainL.on (some 17) 2 13 false rfl rfl rfl rfl
      case h => (first | exact w_fieldAddr tab rfl rfl rfl rfl (by decide) rfl rfl | exact w_fieldAddr_elt tab rfl rfl rfl rfl (by decide) rfl rfl)
    first
    | apply ChainL.off (some 18) 2 13 false rfl rfl rfl rfl
    | apply ChainL.on (some 18) 2 13 false rfl rfl rfl rfl
      case h => (first | exact w_load tab rfl rfl rfl rfl rfl rfl rfl | exact w_load tab rfl rfl rfl rfl rfl (by assumption) rfl | exact w_load_elt tab rfl rfl rfl rfl rfl | exact w_loads tab rfl rfl rfl rfl rfl rfl rfl rfl | exact w_load_tab tab rfl rfl rfl rfl (.head _) (by kernel_rfl) | exact w_loads_elt tab rfl rfl rfl rfl rfl rfl)
    first
    | apply ChainL.off (some 19) 2 13 false rfl rfl rfl rfl
    | apply ChainL.on (some 19) 2 13 false rfl rfl rfl rfl
      case h => exact w_len tab rfl rfl rfl (.own rfl hlen (by simp [hD])) (n := 9) (by simp [hD])
    first
    | apply ChainL.off (some 20) 2 13 false rfl rfl rfl rfl
    | apply ChainL.on (some 20) 2 13 false rfl rfl rfl rfl
      case h => (first | exact w_bin rfl rfl rfl (geq_t (by omega)) | exact w_bin rfl rfl rfl (geq_f (by omega)) | exact w_bin rfl rfl rfl rfl)
    apply ChainL.of (some 21) rfl rfl
    case h => exact step_pick rfl rfl
    apply ChainL.of (some 10) rfl rfl
    case h => exact step_assign rfl
    exact .nil
  show Cwp _ _ _ _
  refine cond_f (by first | rfl | kernel_rfl) ?_
  refine cwp_seq ?_
  apply one_region
  case hc =>
    apply ChainL.of (some 23) rfl rfl
    case h => exact step_move rfl
    apply ChainL.of (some 24) rfl rfl
    case h => exact w_len_str (T := 9) (by kernel_rfl) rfl rfl hL
    apply ChainL.of (some 25) rfl rfl
    case h => (first | exact w_bin rfl rfl rfl (gtr_t (by omega)) | exact w_bin rfl rfl rfl (gtr_f (by omega)) | exact w_bin rfl rfl rfl rfl)
    apply ChainL.of (some 22) rfl rfl
    case h => exact step_assign rfl
    exact .nil
  show Cwp _ _ _ _
  refine cond_f (by first | rfl | kernel_rfl) ?_
  refine cwp_skip ?_
  show Cwp _ _ _ _
  refine cwp_seq ?_
  apply one_region
  case hc =>
    apply ChainL.of (some 26) rfl rfl
    case h => exact step_move rfl
    apply ChainL.of (some 27) rfl rfl
    case h => exact step_move rfl
    apply ChainL.of (some 28) rfl rfl
    case h => exact w_len_str (T := 9) (by kernel_rfl) rfl rfl hL
    apply ChainL.of (some 29) rfl rfl
    case h => (first | exact w_bin rfl rfl rfl (sub_i64 rfl (by omega) (by omega)) | exact w_bin rfl rfl rfl rfl)
    apply ChainL.of (some 30) rfl rfl
    case h => exact w_makeSlice tab rfl rfl rfl rfl 104 rfl rfl (by omega) (by dsimp only; omega) (by omega) (by decide) rfl rfl
    apply ChainL.of (some 31) rfl rfl
    case h => exact w_str_any (T := 51) (T2 := 9) (e := 5) (by kernel_rfl) (by kernel_rfl) (by kernel_rfl) rfl rfl rfl rfl (List.replicate (256 - oth.size) 0) hpad hpl rfl
    apply ChainL.of (some 32) rfl rfl
    case h => exact w_bin rfl rfl rfl hfull
    apply ChainL.of (some 2) rfl rfl
    case h => exact step_assign rfl
    exact .nil
  show Cwp _ _ _ _
  refine cwp_seq ?_
  apply one_region
  case hc =>
    apply ChainL.of (some 33) rfl rfl
    case h => exact step_move rfl
    apply ChainL.of (some 34) rfl rfl
    case h => exact step_move rfl
    apply ChainL.of (some 35) rfl rfl
    case h => (first | exact step_nilCheck rfl rfl | exact step_nilCheck_elt rfl rfl)
    apply ChainL.of (some 36) rfl rfl
    case h => (first | exact w_fieldAddr tab rfl rfl rfl rfl (by decide) rfl rfl | exact w_fieldAddr_elt tab rfl rfl rfl rfl (by decide) rfl rfl)
    apply ChainL.of (some 37) rfl rfl
    case h => (first | exact w_load tab rfl rfl rfl rfl rfl rfl rfl | exact w_load tab rfl rfl rfl rfl rfl (by assumption) rfl | exact w_load_elt tab rfl rfl rfl rfl rfl | exact w_loads tab rfl rfl rfl rfl rfl rfl rfl rfl | exact w_load_tab tab rfl rfl rfl rfl (.head _) (by kernel_rfl) | exact w_loads_elt tab rfl rfl rfl rfl rfl rfl)
    apply ChainL.of (some 38) rfl rfl
    case h => exact step_move rfl
    apply ChainL.of (some 39) rfl rfl
    case h => exact step_move rfl
    apply ChainL.of (some 40) rfl rfl
    case h => exact w_build tab rfl rfl (by decide) rfl rfl
    apply ChainL.of (some 41) rfl rfl
    case h => exact w_slice1 tab rfl rfl rfl rfl 105 (by decide) (by decide) rfl rfl rfl
    apply ChainL.of (some 42) rfl rfl
    case h => (first | exact w_append_nil_own tab rfl rfl rfl rfl rfl rfl 5 (by decide) rfl rfl rfl rfl rfl rfl rfl (Nat.le_of_ble_eq_true rfl) rfl (Nat.le_of_ble_eq_true rfl) (Nat.le_of_ble_eq_true rfl) rfl | (apply w_append_own (id' := 5) tab rfl rfl rfl rfl rfl rfl; (case hm0 => decide); (case hx => first | exact rfl | exact Nat.le_of_ble_eq_true rfl); (case hob => first | exact rfl | exact Nat.le_of_ble_eq_true rfl); (case him => first | exact rfl | exact Nat.le_of_ble_eq_true rfl); (case hfz => first | exact rfl | exact Nat.le_of_ble_eq_true rfl); (case hrx => first | exact rfl | exact Nat.le_of_ble_eq_true rfl); (case hlx => first | exact rfl | exact Nat.le_of_ble_eq_true rfl); (case hy => first | exact rfl | exact Nat.le_of_ble_eq_true rfl); (case hob2 => first | exact rfl | exact Nat.le_of_ble_eq_true rfl); (case hm => first | exact rfl | exact Nat.le_of_ble_eq_true rfl); (case hr => first | exact rfl | exact Nat.le_of_ble_eq_true rfl); (case hrl => first | exact rfl | exact Nat.le_of_ble_eq_true rfl); (case hone => first | exact rfl | exact Nat.le_of_ble_eq_true rfl); (case honex => first | exact rfl | exact Nat.le_of_ble_eq_true rfl); (case hid => first | exact rfl | exact Nat.le_of_ble_eq_true rfl); (case hlim => first | exact rfl | exact Nat.le_of_ble_eq_true rfl); (case h63 => first | exact rfl | exact Nat.le_of_ble_eq_true rfl); (case hn => first | exact rfl | exact Nat.le_of_ble_eq_true rfl); (case hrows => first | exact rfl | exact Nat.le_of_ble_eq_true rfl)))
    apply ChainL.of (some 43) rfl rfl
    case h => (first | exact step_nilCheck rfl rfl | exact step_nilCheck_elt rfl rfl)
    apply ChainL.of (some 44) rfl rfl
    case h => (first | exact w_fieldAddr tab rfl rfl rfl rfl (by decide) rfl rfl | exact w_fieldAddr_elt tab rfl rfl rfl rfl (by decide) rfl rfl)
    apply ChainL.of none rfl rfl
    case h => (first | exact w_store tab rfl rfl rfl rfl rfl rfl rfl rfl rfl (Nat.le_of_ble_eq_true rfl) rfl rfl | exact w_store tab rfl rfl rfl rfl rfl (by assumption) rfl rfl rfl (Nat.le_of_ble_eq_true rfl) rfl rfl)
    exact .nil
  show Cwp _ _ _ _
  refine cwp_seq ?_
  refine cwp_seq ?_
  apply one_region
  case hc =>
    apply ChainL.of (some 45) rfl rfl
    case h => exact step_move rfl
    apply ChainL.of (some 46) rfl rfl
    case h => exact w_call c2 [] [0, 1, 2, 5, 4] [] Try.func20 rfl (by decide +kernel) rfl rfl .nil (by decide) (map5 rfl (strs_ren _ _) (bools_ren _ _) rfl rfl) rfl rfl (all5 rfl (strs_lt _ _) (bools_lt _ _) rfl rfl) rfl (all5 rfl (strs_lt _ _) (bools_lt _ _) rfl rfl) rfl rfl rfl rfl (zip5 rfl (os_strs _ _) (os_bools _ _) rfl rfl)
    exact .nil
  show Cwp _ _ _ _
  refine cond_t (by first | rfl | kernel_rfl) ?_
  refine cwp_seq ?_
  apply one_region
  case hc =>
    apply ChainL.of (some 6) rfl rfl
    case h => exact step_assign rfl
    exact .nil
  show Cwp _ _ _ _
  refine cwp_ret ?_
  exact ⟨.inl rfl, resH_one rfl rfl, objs_ok rfl⟩
theorem wok_5_2 (n a fails : Int) (h0 : 0 ≤ n) (h1 : n + 1 ≤ a) (h2 : a ≤ 100) (D : List ByteArray) (T : List Bool) (hD : D.length = 9) :
    HCall Try.prog 8 [dsk (.own 3 0 2) (.own 4 0 1) n n fails false, strs D, bools T, othO 2, cutO a (.v (.slice none 0 0))] [.ref 0 0 0, .v (.int .i64 8), .v (.string oth)]
    [.ob (dsk (.own 5 0 3) (.own 4 0 1) (n + 1) (n + 1) fails false), .ob (strs D), .ob (bools T), .dead, .ob (cutO a (.v (.slice none 0 0))), .ob (othO 3)] (.v (.int .i64 0)) := by
  have c1 := alive_5 (.own 3 0 2) (.own 4 0 1) n n fails (strs D) (bools T) (othO 2) (cutO a (.v (.slice none 0 0)))
  have c2 := actok_5 3 n a fails (.v (.slice none 0 0)) h0 h1 h2 D T (othO 3)
  obtain ⟨L, hL⟩ : ∃ L : Int, (oth.size : Int) = L := ⟨_, rfl⟩
  have hL5 : L = 5 := by rw [← hL]; kernel_rfl
  have g2 : oth.size = 5 := by omega
  have hlen : ((strs D).rows.drop 0).take 9 = D.map fun s => [.v (.string s)] := by rw [List.drop_zero]; exact List.take_of_length_le (by simp [strs, hD])
  have hpad : ((⟨1, List.replicate (256 - L).toNat [SV.v (.int .u8 0)], false⟩ : Ob).rows.drop 0).take (256 - L).toNat = (List.replicate (256 - oth.size) 0).map fun n => [SV.v (.int .u8 n)] := by
    rw [List.drop_zero, List.take_of_length_le (by simp), List.map_replicate]
    have e : (256 - L).toNat = 256 - oth.size := by omega
    show List.replicate (256 - L).toNat _ = _
    rw [e]
  have hpl : (List.replicate (256 - oth.size) (0 : Int)).length = (256 - L).toNat := by rw [List.length_replicate]; omega
  have hfull : abin .add (.string oth) (.string (strOfNums (List.replicate (256 - oth.size) 0))) = some (.string (full oth)) := by
    simp only [abin]
    rw [if_neg (by rw [strOfNums_size, List.length_replicate]; omega)]
    rfl
  refine HCall.of Try.func8 rfl (by decide +kernel) (Nat.le_of_ble_eq_true rfl) ?_
  refine cwp_seq ?_
  apply one_region
  case hc =>
    apply ChainL.of (some 6) rfl rfl
    case h => exact step_assign rfl
    exact .nil
  show Cwp _ _ _ _
  refine cwp_seq ?_
  refine cwp_block ?_
  refine cwp_seq ?_
  apply one_region
  case hc =>
    apply ChainL.of (some 8) rfl rfl
    case h => exact step_move rfl
    apply ChainL.of (some 9) rfl rfl
    case h => exact w_call c1 [] [0, 1, 2, 3, 4] [] Try.func10 rfl (by decide +kernel) rfl rfl .nil (by decide) (map5 rfl (strs_ren _ _) (bools_ren _ _) rfl rfl) rfl rfl (all5 rfl (strs_lt _ _) (bools_lt _ _) rfl rfl) rfl (all5 rfl (strs_lt _ _) (bools_lt _ _) rfl rfl) rfl rfl rfl rfl (zip5 rfl (os_strs _ _) (os_bools _ _) rfl rfl)
    apply ChainL.of (some 7) rfl rfl
    case h => exact step_assign rfl
    exact .nil
  show Cwp _ _ _ _
  refine cond_f (by first | rfl | kernel_rfl) ?_
  refine cwp_seq ?_
  apply one_region
  case hc =>
    apply ChainL.of (some 11) rfl rfl
    case h => exact step_move rfl
    apply ChainL.of (some 12) rfl rfl
    case h => (first | exact w_bin rfl rfl rfl (lss_t (by omega)) | exact w_bin rfl rfl rfl (lss_f (by omega)) | exact w_bin rfl rfl rfl rfl)
    apply ChainL.of (some 13) rfl rfl
    case h => exact step_move rfl
    first
    | apply ChainL.off (some 14) 2 13 false rfl rfl rfl rfl
    | apply ChainL.on (some 14) 2 13 false rfl rfl rfl rfl
      case h => exact step_move rfl
    first
    | apply ChainL.off (some 15) 2 13 false rfl rfl rfl rfl
    | apply ChainL.on (some 15) 2 13 false rfl rfl rfl rfl
      case h => exact step_move rfl
    first
    | apply ChainL.off (some 16) 2 13 false rfl rfl rfl rfl
    | apply ChainL.on (some 16) 2 13 false rfl rfl rfl rfl
      case h => (first | exact step_nilCheck rfl rfl | exact step_nilCheck_elt rfl rfl)
    first
    | apply ChainL.off (some 17) 2 13 false rfl rfl rfl rfl
    | apply ChainL.on (some 17) 2 13 false rfl rfl rfl rfl
      case h => (first | exact w_fieldAddr tab rfl rfl rfl rfl (by decide) rfl rfl | exact w_fieldAddr_elt tab rfl rfl rfl rfl (by decide) rfl rfl)
    first
    | apply ChainL.off (some 18) 2 13 false rfl rfl rfl rfl
    | apply ChainL.on (some 18) 2 13 false rfl rfl rfl rfl
      case h => (first | exact w_load tab rfl rfl rfl rfl rfl rfl rfl | exact w_load tab rfl rfl rfl rfl rfl (by assumption) rfl | exact w_load_elt tab rfl rfl rfl rfl rfl | exact w_loads tab rfl rfl rfl rfl rfl rfl rfl rfl | exact w_load_tab tab rfl rfl rfl rfl (.head _) (by kernel_rfl) | exact w_loads_elt tab rfl rfl rfl rfl rfl rfl)
    first
    | apply ChainL.off (some 19) 2 13 false rfl rfl rfl rfl
    | apply ChainL.on (some 19) 2 13 false rfl rfl rfl rfl
      case h => exact w_len tab rfl rfl rfl (.own rfl hlen (by simp [hD])) (n := 9) (by simp [hD])
    first
    | apply ChainL.off (some 20) 2 13 false rfl rfl rfl rfl
    | apply ChainL.on (some 20) 2 13 false rfl rfl rfl rfl
      case h => (first | exact w_bin rfl rfl rfl (geq_t (by omega)) | exact w_bin rfl rfl rfl (geq_f (by omega)) | exact w_bin rfl rfl rfl rfl)
    apply ChainL.of (some 21) rfl rfl
    case h => exact step_pick rfl rfl
    apply ChainL.of (some 10) rfl rfl
    case h => exact step_assign rfl
    exact .nil
  show Cwp _ _ _ _
  refine cond_f (by first | rfl | kernel_rfl) ?_
  refine cwp_seq ?_
  apply one_region
  case hc =>
    apply ChainL.of (some 23) rfl rfl
    case h => exact step_move rfl
    apply ChainL.of (some 24) rfl rfl
    case h => exact w_len_str (T := 9) (by kernel_rfl) rfl rfl hL
    apply ChainL.of (some 25) rfl rfl
    case h => (first | exact w_bin rfl rfl rfl (gtr_t (by omega)) | exact w_bin rfl rfl rfl (gtr_f (by omega)) | exact w_bin rfl rfl rfl rfl)
    apply ChainL.of (some 22) rfl rfl
    case h => exact step_assign rfl
    exact .nil
  show Cwp _ _ _ _
  refine cond_f (by first | rfl | kernel_rfl) ?_
  refine cwp_skip ?_
  show Cwp _ _ _ _
  refine cwp_seq ?_
  apply one_region
  case hc =>
    apply ChainL.of (some 26) rfl rfl
    case h => exact step_move rfl
    apply ChainL.of (some 27) rfl rfl
    case h => exact step_move rfl
    apply ChainL.of (some 28) rfl rfl
    case h => exact w_len_str (T := 9) (by kernel_rfl) rfl rfl hL
    apply ChainL.of (some 29) rfl rfl
    case h => (first | exact w_bin rfl rfl rfl (sub_i64 rfl (by omega) (by omega)) | exact w_bin rfl rfl rfl rfl)
    apply ChainL.of (some 30) rfl rfl
    case h => exact w_makeSlice tab rfl rfl rfl rfl 106 rfl rfl (by omega) (by dsimp only; omega) (by omega) (by decide) rfl rfl
    apply ChainL.of (some 31) rfl rfl
    case h => exact w_str_any (T := 51) (T2 := 9) (e := 5) (by kernel_rfl) (by kernel_rfl) (by kernel_rfl) rfl rfl rfl rfl (List.replicate (256 - oth.size) 0) hpad hpl rfl
    apply ChainL.of (some 32) rfl rfl
    case h => exact w_bin rfl rfl rfl hfull
    apply ChainL.of (some 2) rfl rfl
    case h => exact step_assign rfl
    exact .nil
  show Cwp _ _ _ _
  refine cwp_seq ?_
  apply one_region
  case hc =>
    apply ChainL.of (some 33) rfl rfl
    case h => exact step_move rfl
    apply ChainL.of (some 34) rfl rfl
    case h => exact step_move rfl
    apply ChainL.of (some 35) rfl rfl
    case h => (first | exact step_nilCheck rfl rfl | exact step_nilCheck_elt rfl rfl)
    apply ChainL.of (some 36) rfl rfl
    case h => (first | exact w_fieldAddr tab rfl rfl rfl rfl (by decide) rfl rfl | exact w_fieldAddr_elt tab rfl rfl rfl rfl (by decide) rfl rfl)
    apply ChainL.of (some 37) rfl rfl
    case h => (first | exact w_load tab rfl rfl rfl rfl rfl rfl rfl | exact w_load tab rfl rfl rfl rfl rfl (by assumption) rfl | exact w_load_elt tab rfl rfl rfl rfl rfl | exact w_loads tab rfl rfl rfl rfl rfl rfl rfl rfl | exact w_load_tab tab rfl rfl rfl rfl (.head _) (by kernel_rfl) | exact w_loads_elt tab rfl rfl rfl rfl rfl rfl)
    apply ChainL.of (some 38) rfl rfl
    case h => exact step_move rfl
    apply ChainL.of (some 39) rfl rfl
    case h => exact step_move rfl
    apply ChainL.of (some 40) rfl rfl
    case h => exact w_build tab rfl rfl (by decide) rfl rfl
    apply ChainL.of (some 41) rfl rfl
    case h => exact w_slice1 tab rfl rfl rfl rfl 107 (by decide) (by decide) rfl rfl rfl
    apply ChainL.of (some 42) rfl rfl
    case h => (first | exact w_append_nil_own tab rfl rfl rfl rfl rfl rfl 5 (by decide) rfl rfl rfl rfl rfl rfl rfl (Nat.le_of_ble_eq_true rfl) rfl (Nat.le_of_ble_eq_true rfl) (Nat.le_of_ble_eq_true rfl) rfl | (apply w_append_own (id' := 5) tab rfl rfl rfl rfl rfl rfl; (case hm0 => decide); (case hx => first | exact rfl | exact Nat.le_of_ble_eq_true rfl); (case hob => first | exact rfl | exact Nat.le_of_ble_eq_true rfl); (case him => first | exact rfl | exact Nat.le_of_ble_eq_true rfl); (case hfz => first | exact rfl | exact Nat.le_of_ble_eq_true rfl); (case hrx => first | exact rfl | exact Nat.le_of_ble_eq_true rfl); (case hlx => first | exact rfl | exact Nat.le_of_ble_eq_true rfl); (case hy => first | exact rfl | exact Nat.le_of_ble_eq_true rfl); (case hob2 => first | exact rfl | exact Nat.le_of_ble_eq_true rfl); (case hm => first | exact rfl | exact Nat.le_of_ble_eq_true rfl); (case hr => first | exact rfl | exact Nat.le_of_ble_eq_true rfl); (case hrl => first | exact rfl | exact Nat.le_of_ble_eq_true rfl); (case hone => first | exact rfl | exact Nat.le_of_ble_eq_true rfl); (case honex => first | exact rfl | exact Nat.le_of_ble_eq_true rfl); (case hid => first | exact rfl | exact Nat.le_of_ble_eq_true rfl); (case hlim => first | exact rfl | exact Nat.le_of_ble_eq_true rfl); (case h63 => first | exact rfl | exact Nat.le_of_ble_eq_true rfl); (case hn => first | exact rfl | exact Nat.le_of_ble_eq_true rfl); (case hrows => first | exact rfl | exact Nat.le_of_ble_eq_true rfl)))
    apply ChainL.of (some 43) rfl rfl
    case h => (first | exact step_nilCheck rfl rfl | exact step_nilCheck_elt rfl rfl)
    apply ChainL.of (some 44) rfl rfl
    case h => (first | exact w_fieldAddr tab rfl rfl rfl rfl (by decide) rfl rfl | exact w_fieldAddr_elt tab rfl rfl rfl rfl (by decide) rfl rfl)
    apply ChainL.of none rfl rfl
    case h => (first | exact w_store tab rfl rfl rfl rfl rfl rfl rfl rfl rfl (Nat.le_of_ble_eq_true rfl) rfl rfl | exact w_store tab rfl rfl rfl rfl rfl (by assumption) rfl rfl rfl (Nat.le_of_ble_eq_true rfl) rfl rfl)
    exact .nil
  show Cwp _ _ _ _
  refine cwp_seq ?_
  refine cwp_seq ?_
  apply one_region
  case hc =>
    apply ChainL.of (some 45) rfl rfl
    case h => exact step_move rfl
    apply ChainL.of (some 46) rfl rfl
    case h => exact w_call c2 [] [0, 1, 2, 5, 4] [] Try.func20 rfl (by decide +kernel) rfl rfl .nil (by decide) (map5 rfl (strs_ren _ _) (bools_ren _ _) rfl rfl) rfl rfl (all5 rfl (strs_lt _ _) (bools_lt _ _) rfl rfl) rfl (all5 rfl (strs_lt _ _) (bools_lt _ _) rfl rfl) rfl rfl rfl rfl (zip5 rfl (os_strs _ _) (os_bools _ _) rfl rfl)
    exact .nil
  show Cwp _ _ _ _
  refine cond_f (by first | rfl | kernel_rfl) ?_
  refine cwp_skip ?_
  show Cwp _ _ _ _
  refine cwp_seq ?_
  apply one_region
  case hc =>
    apply ChainL.of (some 6) rfl rfl
    case h => exact step_assign rfl
    exact .nil
  show Cwp _ _ _ _
  refine cwp_ret ?_
  exact ⟨.inl rfl, resH_one rfl rfl, objs_ok rfl⟩
theorem wfail_5_2 (n a fails : Int) (h0 : 0 ≤ n) (h1 : a < n + 1) (h2 : 0 < a) (h3 : n ≤ 100) (h4 : 0 ≤ fails) (h5 : fails ≤ 100) (D : List ByteArray) (T : List Bool) (hD : D.length = 9) (hT : T.length = 9) :
    HCall Try.prog 8 [dsk (.own 3 0 2) (.own 4 0 1) n n fails false, strs D, bools T, othO 2, cutO a (.v (.slice none 0 0))] [.ref 0 0 0, .v (.int .i64 8), .v (.string oth)]
    [.ob (dsk (.v (.slice none 0 0)) (.lst 2 []) (n + 1) (n + 1) (fails + 1) true), .ob (strs (itD [] D 3)), .ob (bools (itT [] T 3)), .dead, .ob (cutO a (.v (.slice none 0 0)))] (.v (.int .i64 40)) := by
  have c1 := alive_5 (.own 3 0 2) (.own 4 0 1) n n fails (strs D) (bools T) (othO 2) (cutO a (.v (.slice none 0 0)))
  have c2 := actfail_5_3 n a fails h0 h1 h2 h3 h4 h5 D T hD hT
  obtain ⟨L, hL⟩ : ∃ L : Int, (oth.size : Int) = L := ⟨_, rfl⟩
  have hL5 : L = 5 := by rw [← hL]; kernel_rfl
  have g2 : oth.size = 5 := by omega
  have hlen : ((strs D).rows.drop 0).take 9 = D.map fun s => [.v (.string s)] := by rw [List.drop_zero]; exact List.take_of_length_le (by simp [strs, hD])
  have hpad : ((⟨1, List.replicate (256 - L).toNat [SV.v (.int .u8 0)], false⟩ : Ob).rows.drop 0).take (256 - L).toNat = (List.replicate (256 - oth.size) 0).map fun n => [SV.v (.int .u8 n)] := by
    rw [List.drop_zero, List.take_of_length_le (by simp), List.map_replicate]
    have e : (256 - L).toNat = 256 - oth.size := by omega
    show List.replicate (256 - L).toNat _ = _
    rw [e]
  have hpl : (List.replicate (256 - oth.size) (0 : Int)).length = (256 - L).toNat := by rw [List.length_replicate]; omega
  have hfull : abin .add (.string oth) (.string (strOfNums (List.replicate (256 - oth.size) 0))) = some (.string (full oth)) := by
    simp only [abin]
    rw [if_neg (by rw [strOfNums_size, List.length_replicate]; omega)]
    rfl
  refine HCall.of Try.func8 rfl (by decide +kernel) (Nat.le_of_ble_eq_true rfl) ?_
  refine cwp_seq ?_
  apply one_region
  case hc =>
    apply ChainL.of (some 6) rfl rfl
    case h => exact step_assign rfl
    exact .nil
  show Cwp _ _ _ _
  refine cwp_seq ?_
  refine cwp_block ?_
  refine cwp_seq ?_
  apply one_region
  case hc =>
    apply ChainL.of (some 8) rfl rfl
    case h => exact step_move rfl
    apply ChainL.of (some 9) rfl rfl
    case h => exact w_call c1 [] [0, 1, 2, 3, 4] [] Try.func10 rfl (by decide +kernel) rfl rfl .nil (by decide) (map5 rfl (strs_ren _ _) (bools_ren _ _) rfl rfl) rfl rfl (all5 rfl (strs_lt _ _) (bools_lt _ _) rfl rfl) rfl (all5 rfl (strs_lt _ _) (bools_lt _ _) rfl rfl) rfl rfl rfl rfl (zip5 rfl (os_strs _ _) (os_bools _ _) rfl rfl)
    apply ChainL.of (some 7) rfl rfl
    case h => exact step_assign rfl
    exact .nil
  show Cwp _ _ _ _
  refine cond_f (by first | rfl | kernel_rfl) ?_
  refine cwp_seq ?_
  apply one_region
  case hc =>
    apply ChainL.of (some 11) rfl rfl
    case h => exact step_move rfl
    apply ChainL.of (some 12) rfl rfl
    case h => (first | exact w_bin rfl rfl rfl (lss_t (by omega)) | exact w_bin rfl rfl rfl (lss_f (by omega)) | exact w_bin rfl rfl rfl rfl)
    apply ChainL.of (some 13) rfl rfl
    case h => exact step_move rfl
    first
    | apply ChainL.off (some 14) 2 13 false rfl rfl rfl rfl
    | apply ChainL.on (some 14) 2 13 false rfl rfl rfl rfl
      case h => exact step_move rfl
    first
    | apply ChainL.off (some 15) 2 13 false rfl rfl rfl rfl
    | apply ChainL.on (some 15) 2 13 false rfl rfl rfl rfl
      case h => exact step_move rfl
    first
    | apply ChainL.off (some 16) 2 13 false rfl rfl rfl rfl
    | apply ChainL.on (some 16) 2 13 false rfl rfl rfl rfl
      case h => (first | exact step_nilCheck rfl rfl | exact step_nilCheck_elt rfl rfl)
    first
    | apply ChainL.off (some 17) 2 13 false rfl rfl rfl rfl
    | apply ChainL.on (some 17) 2 13 false rfl rfl rfl rfl
      case h => (first | exact w_fieldAddr tab rfl rfl rfl rfl (by decide) rfl rfl | exact w_fieldAddr_elt tab rfl rfl rfl rfl (by decide) rfl rfl)
    first
    | apply ChainL.off (some 18) 2 13 false rfl rfl rfl rfl
    | apply ChainL.on (some 18) 2 13 false rfl rfl rfl rfl
      case h => (first | exact w_load tab rfl rfl rfl rfl rfl rfl rfl | exact w_load tab rfl rfl rfl rfl rfl (by assumption) rfl | exact w_load_elt tab rfl rfl rfl rfl rfl | exact w_loads tab rfl rfl rfl rfl rfl rfl rfl rfl | exact w_load_tab tab rfl rfl rfl rfl (.head _) (by kernel_rfl) | exact w_loads_elt tab rfl rfl rfl rfl rfl rfl)
    first
    | apply ChainL.off (some 19) 2 13 false rfl rfl rfl rfl
    | apply ChainL.on (some 19) 2 13 false rfl rfl rfl rfl
      case h => exact w_len tab rfl rfl rfl (.own rfl hlen (by simp [hD])) (n := 9) (by simp [hD])
    first
    | apply ChainL.off (some 20) 2 13 false rfl rfl rfl rfl
    | apply ChainL.on (some 20) 2 13 false rfl rfl rfl rfl
      case h => (first | exact w_bin rfl rfl rfl (geq_t (by omega)) | exact w_bin rfl rfl rfl (geq_f (by omega)) | exact w_bin rfl rfl rfl rfl)
    apply ChainL.of (some 21) rfl rfl
    case h => exact step_pick rfl rfl
    apply ChainL.of (some 10) rfl rfl
    case h => exact step_assign rfl
    exact .nil
  show Cwp _ _ _ _
  refine cond_f (by first | rfl | kernel_rfl) ?_
  refine cwp_seq ?_
  apply one_region
  case hc =>
    apply ChainL.of (some 23) rfl rfl
    case h => exact step_move rfl
    apply ChainL.of (some 24) rfl rfl
    case h => exact w_len_str (T := 9) (by kernel_rfl) rfl rfl hL
    apply ChainL.of (some 25) rfl rfl
    case h => (first | exact w_bin rfl rfl rfl (gtr_t (by omega)) | exact w_bin rfl rfl rfl (gtr_f (by omega)) | exact w_bin rfl rfl rfl rfl)
    apply ChainL.of (some 22) rfl rfl
    case h => exact step_assign rfl
    exact .nil
  show Cwp _ _ _ _
  refine cond_f (by first | rfl | kernel_rfl) ?_
  refine cwp_skip ?_
  show Cwp _ _ _ _
  refine cwp_seq ?_
  apply one_region
  case hc =>
    apply ChainL.of (some 26) rfl rfl
    case h => exact step_move rfl
    apply ChainL.of (some 27) rfl rfl
    case h => exact step_move rfl
    apply ChainL.of (some 28) rfl rfl
    case h => exact w_len_str (T := 9) (by kernel_rfl) rfl rfl hL
    apply ChainL.of (some 29) rfl rfl
    case h => (first | exact w_bin rfl rfl rfl (sub_i64 rfl (by omega) (by omega)) | exact w_bin rfl rfl rfl rfl)
    apply ChainL.of (some 30) rfl rfl
    case h => exact w_makeSlice tab rfl rfl rfl rfl 108 rfl rfl (by omega) (by dsimp only; omega) (by omega) (by decide) rfl rfl
    apply ChainL.of (some 31) rfl rfl
    case h => exact w_str_any (T := 51) (T2 := 9) (e := 5) (by kernel_rfl) (by kernel_rfl) (by kernel_rfl) rfl rfl rfl rfl (List.replicate (256 - oth.size) 0) hpad hpl rfl
    apply ChainL.of (some 32) rfl rfl
    case h => exact w_bin rfl rfl rfl hfull
    apply ChainL.of (some 2) rfl rfl
    case h => exact step_assign rfl
    exact .nil
  show Cwp _ _ _ _
  refine cwp_seq ?_
  apply one_region
  case hc =>
    apply ChainL.of (some 33) rfl rfl
    case h => exact step_move rfl
    apply ChainL.of (some 34) rfl rfl
    case h => exact step_move rfl
    apply ChainL.of (some 35) rfl rfl
    case h => (first | exact step_nilCheck rfl rfl | exact step_nilCheck_elt rfl rfl)
    apply ChainL.of (some 36) rfl rfl
    case h => (first | exact w_fieldAddr tab rfl rfl rfl rfl (by decide) rfl rfl | exact w_fieldAddr_elt tab rfl rfl rfl rfl (by decide) rfl rfl)
    apply ChainL.of (some 37) rfl rfl
    case h => (first | exact w_load tab rfl rfl rfl rfl rfl rfl rfl | exact w_load tab rfl rfl rfl rfl rfl (by assumption) rfl | exact w_load_elt tab rfl rfl rfl rfl rfl | exact w_loads tab rfl rfl rfl rfl rfl rfl rfl rfl | exact w_load_tab tab rfl rfl rfl rfl (.head _) (by kernel_rfl) | exact w_loads_elt tab rfl rfl rfl rfl rfl rfl)
    apply ChainL.of (some 38) rfl rfl
    case h => exact step_move rfl
    apply ChainL.of (some 39) rfl rfl
    case h => exact step_move rfl
    apply ChainL.of (some 40) rfl rfl
    case h => exact w_build tab rfl rfl (by decide) rfl rfl
    apply ChainL.of (some 41) rfl rfl
    case h => exact w_slice1 tab rfl rfl rfl rfl 109 (by decide) (by decide) rfl rfl rfl
    apply ChainL.of (some 42) rfl rfl
    case h => (first | exact w_append_nil_own tab rfl rfl rfl rfl rfl rfl 5 (by decide) rfl rfl rfl rfl rfl rfl rfl (Nat.le_of_ble_eq_true rfl) rfl (Nat.le_of_ble_eq_true rfl) (Nat.le_of_ble_eq_true rfl) rfl | (apply w_append_own (id' := 5) tab rfl rfl rfl rfl rfl rfl; (case hm0 => decide); (case hx => first | exact rfl | exact Nat.le_of_ble_eq_true rfl); (case hob => first | exact rfl | exact Nat.le_of_ble_eq_true rfl); (case him => first | exact rfl | exact Nat.le_of_ble_eq_true rfl); (case hfz => first | exact rfl | exact Nat.le_of_ble_eq_true rfl); (case hrx => first | exact rfl | exact Nat.le_of_ble_eq_true rfl); (case hlx => first | exact rfl | exact Nat.le_of_ble_eq_true rfl); (case hy => first | exact rfl | exact Nat.le_of_ble_eq_true rfl); (case hob2 => first | exact rfl | exact Nat.le_of_ble_eq_true rfl); (case hm => first | exact rfl | exact Nat.le_of_ble_eq_true rfl); (case hr => first | exact rfl | exact Nat.le_of_ble_eq_true rfl); (case hrl => first | exact rfl | exact Nat.le_of_ble_eq_true rfl); (case hone => first | exact rfl | exact Nat.le_of_ble_eq_true rfl); (case honex => first | exact rfl | exact Nat.le_of_ble_eq_true rfl); (case hid => first | exact rfl | exact Nat.le_of_ble_eq_true rfl); (case hlim => first | exact rfl | exact Nat.le_of_ble_eq_true rfl); (case h63 => first | exact rfl | exact Nat.le_of_ble_eq_true rfl); (case hn => first | exact rfl | exact Nat.le_of_ble_eq_true rfl); (case hrows => first | exact rfl | exact Nat.le_of_ble_eq_true rfl)))
    apply ChainL.of (some 43) rfl rfl
    case h => (first | exact step_nilCheck rfl rfl | exact step_nilCheck_elt rfl rfl)
    apply ChainL.of (some 44) rfl rfl
    case h => (first | exact w_fieldAddr tab rfl rfl rfl rfl (by decide) rfl rfl | exact w_fieldAddr_elt tab rfl rfl rfl rfl (by decide) rfl rfl)
    apply ChainL.of none rfl rfl
    case h => (first | exact w_store tab rfl rfl rfl rfl rfl rfl rfl rfl rfl (Nat.le_of_ble_eq_true rfl) rfl rfl | exact w_store tab rfl rfl rfl rfl rfl (by assumption) rfl rfl rfl (Nat.le_of_ble_eq_true rfl) rfl rfl)
    exact .nil
  show Cwp _ _ _ _
  refine cwp_seq ?_
  refine cwp_seq ?_
  apply one_region
  case hc =>
    apply ChainL.of (some 45) rfl rfl
    case h => exact step_move rfl
    apply ChainL.of (some 46) rfl rfl
    case h => exact w_call c2 [] [0, 1, 2, 5, 4] [] Try.func20 rfl (by decide +kernel) rfl rfl .nil (by decide) (map5 rfl (strs_ren _ _) (bools_ren _ _) rfl rfl) rfl rfl (all5 rfl (strs_lt _ _) (bools_lt _ _) rfl rfl) rfl (all5 rfl (strs_lt _ _) (bools_lt _ _) rfl rfl) rfl rfl rfl rfl (zip5 rfl (os_strs _ _) (os_bools _ _) rfl rfl)
    exact .nil
  show Cwp _ _ _ _
  refine cond_t (by first | rfl | kernel_rfl) ?_
  refine cwp_seq ?_
  apply one_region
  case hc =>
    apply ChainL.of (some 6) rfl rfl
    case h => exact step_assign rfl
    exact .nil
  show Cwp _ _ _ _
  refine cwp_ret ?_
  exact ⟨.inl rfl, resH_one rfl rfl, objs_ok rfl⟩
theorem wok_5_3 (n a fails : Int) (h0 : 0 ≤ n) (h1 : n + 1 ≤ a) (h2 : a ≤ 100) (D : List ByteArray) (T : List Bool) (hD : D.length = 9) :
    HCall Try.prog 8 [dsk (.own 3 0 3) (.own 4 0 1) n n fails false, strs D, bools T, othO 3, cutO a (.v (.slice none 0 0))] [.ref 0 0 0, .v (.int .i64 8), .v (.string oth)]
    [.ob (dsk (.own 5 0 4) (.own 4 0 1) (n + 1) (n + 1) fails false), .ob (strs D), .ob (bools T), .dead, .ob (cutO a (.v (.slice none 0 0))), .ob (othO 4)] (.v (.int .i64 0)) := by
  have c1 := alive_5 (.own 3 0 3) (.own 4 0 1) n n fails (strs D) (bools T) (othO 3) (cutO a (.v (.slice none 0 0)))
  have c2 := actok_5 4 n a fails (.v (.slice none 0 0)) h0 h1 h2 D T (othO 4)
  obtain ⟨L, hL⟩ : ∃ L : Int, (oth.size : Int) = L := ⟨_, rfl⟩
  have hL5 : L = 5 := by rw [← hL]; kernel_rfl
  have g2 : oth.size = 5 := by omega
  have hlen : ((strs D).rows.drop 0).take 9 = D.map fun s => [.v (.string s)] := by rw [List.drop_zero]; exact List.take_of_length_le (by simp [strs, hD])
  have hpad : ((⟨1, List.replicate (256 - L).toNat [SV.v (.int .u8 0)], false⟩ : Ob).rows.drop 0).take (256 - L).toNat = (List.replicate (256 - oth.size) 0).map fun n => [SV.v (.int .u8 n)] := by
    rw [List.drop_zero, List.take_of_length_le (by simp), List.map_replicate]
    have e : (256 - L).toNat = 256 - oth.size := by omega
    show List.replicate (256 - L).toNat _ = _
    rw [e]
  have hpl : (List.replicate (256 - oth.size) (0 : Int)).length = (256 - L).toNat := by rw [List.length_replicate]; omega
  have hfull : abin .add (.string oth) (.string (strOfNums (List.replicate (256 - oth.size) 0))) = some (.string (full oth)) := by
    simp only [abin]
    rw [if_neg (by rw [strOfNums_size, List.length_replicate]; omega)]
    rfl
  refine HCall.of Try.func8 rfl (by decide +kernel) (Nat.le_of_ble_eq_true rfl) ?_
  refine cwp_seq ?_
  apply one_region
  case hc =>
    apply ChainL.of (some 6) rfl rfl
    case h => exact step_assign rfl
    exact .nil
  show Cwp _ _ _ _
  refine cwp_seq ?_
  refine cwp_block ?_
  refine cwp_seq ?_
  apply one_region
  case hc =>
    apply ChainL.of (some 8) rfl rfl
    case h => exact step_move rfl
    apply ChainL.of (some 9) rfl rfl
    case h => exact w_call c1 [] [0, 1, 2, 3, 4] [] Try.func10 rfl (by decide +kernel) rfl rfl .nil (by decide) (map5 rfl (strs_ren _ _) (bools_ren _ _) rfl rfl) rfl rfl (all5 rfl (strs_lt _ _) (bools_lt _ _) rfl rfl) rfl (all5 rfl (strs_lt _ _) (bools_lt _ _) rfl rfl) rfl rfl rfl rfl (zip5 rfl (os_strs _ _) (os_bools _ _) rfl rfl)
    apply ChainL.of (some 7) rfl rfl
    case h => exact step_assign rfl
    exact .nil
  show Cwp _ _ _ _
  refine cond_f (by first | rfl | kernel_rfl) ?_
  refine cwp_seq ?_
  apply one_region
  case hc =>
    apply ChainL.of (some 11) rfl rfl
    case h => exact step_move rfl
    apply ChainL.of (some 12) rfl rfl
    case h => (first | exact w_bin rfl rfl rfl (lss_t (by omega)) | exact w_bin rfl rfl rfl (lss_f (by omega)) | exact w_bin rfl rfl rfl rfl)
    apply ChainL.of (some 13) rfl rfl
    case h => exact step_move rfl
    first
    | apply ChainL.off (some 14) 2 13 false rfl rfl rfl rfl
    | apply ChainL.on (some 14) 2 13 false rfl rfl rfl rfl
      case h => exact step_move rfl
    first
    | apply ChainL.off (some 15) 2 13 false rfl rfl rfl rfl
    | apply ChainL.on (some 15) 2 13 false rfl rfl rfl rfl
      case h => exact step_move rfl
    first
    | apply ChainL.off (some 16) 2 13 false rfl rfl rfl rfl
    | apply ChainL.on (some 16) 2 13 false rfl rfl rfl rfl
      case h => (first | exact step_nilCheck rfl rfl | exact step_nilCheck_elt rfl rfl)
    first
    | apply ChainL.off (some 17) 2 13 false rfl rfl rfl rfl
    | apply ChainL.on (some 17) 2 13 false rfl rfl rfl rfl
      case h => (first | exact w_fieldAddr tab rfl rfl rfl rfl (by decide) rfl rfl | exact w_fieldAddr_elt tab rfl rfl rfl rfl (by decide) rfl rfl)
    first
    | apply ChainL.off (some 18) 2 13 false rfl rfl rfl rfl
    | apply ChainL.on (some 18) 2 13 false rfl rfl rfl rfl
      case h => (first | exact w_load tab rfl rfl rfl rfl rfl rfl rfl | exact w_load tab rfl rfl rfl rfl rfl (by assumption) rfl | exact w_load_elt tab rfl rfl rfl rfl rfl | exact w_loads tab rfl rfl rfl rfl rfl rfl rfl rfl | exact w_load_tab tab rfl rfl rfl rfl (.head _) (by kernel_rfl) | exact w_loads_elt tab rfl rfl rfl rfl rfl rfl)
    first
    | apply ChainL.off (some 19) 2 13 false rfl rfl rfl rfl
    | apply ChainL.on (some 19) 2 13 false rfl rfl rfl rfl
      case h => exact w_len tab rfl rfl rfl (.own rfl hlen (by simp [hD])) (n := 9) (by simp [hD])
    first
    | apply ChainL.off (some 20) 2 13 false rfl rfl rfl rfl
    | apply ChainL.on (some 20) 2 13 false rfl rfl rfl rfl
      case h => (first | exact w_bin rfl rfl rfl (geq_t (by omega)) | exact w_bin rfl rfl rfl (geq_f (by omega)) | exact w_bin rfl rfl rfl rfl)
    apply ChainL.of (some 21) rfl rfl
    case h => exact step_pick rfl rfl
    apply ChainL.of (some 10) rfl rfl
    case h => exact step_assign rfl
    exact .nil
  show Cwp _ _ _ _
  refine cond_f (by first | rfl | kernel_rfl) ?_
  refine cwp_seq ?_
  apply one_region
  case hc =>
    apply ChainL.of (some 23) rfl rfl
    case h => exact step_move rfl
    apply ChainL.of (some 24) rfl rfl
    case h => exact w_len_str (T := 9) (by kernel_rfl) rfl rfl hL
    apply ChainL.of (some 25) rfl rfl
    case h => (first | exact w_bin rfl rfl rfl (gtr_t (by omega)) | exact w_bin rfl rfl rfl (gtr_f (by omega)) | exact w_bin rfl rfl rfl rfl)
    apply ChainL.of (some 22) rfl rfl
    case h => exact step_assign rfl
    exact .nil
  show Cwp _ _ _ _
  refine cond_f (by first | rfl | kernel_rfl) ?_
  refine cwp_skip ?_
  show Cwp _ _ _ _
  refine cwp_seq ?_
  apply one_region
  case hc =>
    apply ChainL.of (some 26) rfl rfl
    case h => exact step_move rfl
    apply ChainL.of (some 27) rfl rfl
    case h => exact step_move rfl
    apply ChainL.of (some 28) rfl rfl
    case h => exact w_len_str (T := 9) (by kernel_rfl) rfl rfl hL
    apply ChainL.of (some 29) rfl rfl
    case h => (first | exact w_bin rfl rfl rfl (sub_i64 rfl (by omega) (by omega)) | exact w_bin rfl rfl rfl rfl)
    apply ChainL.of (some 30) rfl rfl
    case h => exact w_makeSlice tab rfl rfl rfl rfl 110 rfl rfl (by omega) (by dsimp only; omega) (by omega) (by decide) rfl rfl
    apply ChainL.of (some 31) rfl rfl
    case h => exact w_str_any (T := 51) (T2 := 9) (e := 5) (by kernel_rfl) (by kernel_rfl) (by kernel_rfl) rfl rfl rfl rfl (List.replicate (256 - oth.size) 0) hpad hpl rfl
    apply ChainL.of (some 32) rfl rfl
    case h => exact w_bin rfl rfl rfl hfull
    apply ChainL.of (some 2) rfl rfl
    case h => exact step_assign rfl
    exact .nil
  show Cwp _ _ _ _
  refine cwp_seq ?_
  apply one_region
  case hc =>
    apply ChainL.of (some 33) rfl rfl
    case h => exact step_move rfl
    apply ChainL.of (some 34) rfl rfl
    case h => exact step_move rfl
    apply ChainL.of (some 35) rfl rfl
    case h => (first | exact step_nilCheck rfl rfl | exact step_nilCheck_elt rfl rfl)
    apply ChainL.of (some 36) rfl rfl
    case h => (first | exact w_fieldAddr tab rfl rfl rfl rfl (by decide) rfl rfl | exact w_fieldAddr_elt tab rfl rfl rfl rfl (by decide) rfl rfl)
    apply ChainL.of (some 37) rfl rfl
    case h => (first | exact w_load tab rfl rfl rfl rfl rfl rfl rfl | exact w_load tab rfl rfl rfl rfl rfl (by assumption) rfl | exact w_load_elt tab rfl rfl rfl rfl rfl | exact w_loads tab rfl rfl rfl rfl rfl rfl rfl rfl | exact w_load_tab tab rfl rfl rfl rfl (.head _) (by kernel_rfl) | exact w_loads_elt tab rfl rfl rfl rfl rfl rfl)
    apply ChainL.of (some 38) rfl rfl
    case h => exact step_move rfl
    apply ChainL.of (some 39) rfl rfl
    case h => exact step_move rfl
    apply ChainL.of (some 40) rfl rfl
    case h => exact w_build tab rfl rfl (by decide) rfl rfl
    apply ChainL.of (some 41) rfl rfl
    case h => exact w_slice1 tab rfl rfl rfl rfl 111 (by decide) (by decide) rfl rfl rfl
    apply ChainL.of (some 42) rfl rfl
    case h => (first | exact w_append_nil_own tab rfl rfl rfl rfl rfl rfl 5 (by decide) rfl rfl rfl rfl rfl rfl rfl (Nat.le_of_ble_eq_true rfl) rfl (Nat.le_of_ble_eq_true rfl) (Nat.le_of_ble_eq_true rfl) rfl | (apply w_append_own (id' := 5) tab rfl rfl rfl rfl rfl rfl; (case hm0 => decide); (case hx => first | exact rfl | exact Nat.le_of_ble_eq_true rfl); (case hob => first | exact rfl | exact Nat.le_of_ble_eq_true rfl); (case him => first | exact rfl | exact Nat.le_of_ble_eq_true rfl); (case hfz => first | exact rfl | exact Nat.le_of_ble_eq_true rfl); (case hrx => first | exact rfl | exact Nat.le_of_ble_eq_true rfl); (case hlx => first | exact rfl | exact Nat.le_of_ble_eq_true rfl); (case hy => first | exact rfl | exact Nat.le_of_ble_eq_true rfl); (case hob2 => first | exact rfl | exact Nat.le_of_ble_eq_true rfl); (case hm => first | exact rfl | exact Nat.le_of_ble_eq_true rfl); (case hr => first | exact rfl | exact Nat.le_of_ble_eq_true rfl); (case hrl => first | exact rfl | exact Nat.le_of_ble_eq_true rfl); (case hone => first | exact rfl | exact Nat.le_of_ble_eq_true rfl); (case honex => first | exact rfl | exact Nat.le_of_ble_eq_true rfl); (case hid => first | exact rfl | exact Nat.le_of_ble_eq_true rfl); (case hlim => first | exact rfl | exact Nat.le_of_ble_eq_true rfl); (case h63 => first | exact rfl | exact Nat.le_of_ble_eq_true rfl); (case hn => first | exact rfl | exact Nat.le_of_ble_eq_true rfl); (case hrows => first | exact rfl | exact Nat.le_of_ble_eq_true rfl)))
    apply ChainL.of (some 43) rfl rfl
    case h => (first | exact step_nilCheck rfl rfl | exact step_nilCheck_elt rfl rfl)
    apply ChainL.of (some 44) rfl rfl
    case h => (first | exact w_fieldAddr tab rfl rfl rfl rfl (by decide) rfl rfl | exact w_fieldAddr_elt tab rfl rfl rfl rfl (by decide) rfl rfl)
    apply ChainL.of none rfl rfl
    case h => (first | exact w_store tab rfl rfl rfl rfl rfl rfl rfl rfl rfl (Nat.le_of_ble_eq_true rfl) rfl rfl | exact w_store tab rfl rfl rfl rfl rfl (by assumption) rfl rfl rfl (Nat.le_of_ble_eq_true rfl) rfl rfl)
    exact .nil
  show Cwp _ _ _ _
  refine cwp_seq ?_
  refine cwp_seq ?_
  apply one_region
  case hc =>
    apply ChainL.of (some 45) rfl rfl
    case h => exact step_move rfl
    apply ChainL.of (some 46) rfl rfl
    case h => exact w_call c2 [] [0, 1, 2, 5, 4] [] Try.func20 rfl (by decide +kernel) rfl rfl .nil (by decide) (map5 rfl (strs_ren _ _) (bools_ren _ _) rfl rfl) rfl rfl (all5 rfl (strs_lt _ _) (bools_lt _ _) rfl rfl) rfl (all5 rfl (strs_lt _ _) (bools_lt _ _) rfl rfl) rfl rfl rfl rfl (zip5 rfl (os_strs _ _) (os_bools _ _) rfl rfl)
    exact .nil
  show Cwp _ _ _ _
  refine cond_f (by first | rfl | kernel_rfl) ?_
  refine cwp_skip ?_
  show Cwp _ _ _ _
  refine cwp_seq ?_
  apply one_region
  case hc =>
    apply ChainL.of (some 6) rfl rfl
    case h => exact step_assign rfl
    exact .nil
  show Cwp _ _ _ _
  refine cwp_ret ?_
  exact ⟨.inl rfl, resH_one rfl rfl, objs_ok rfl⟩
theorem wfail_5_3 (n a fails : Int) (h0 : 0 ≤ n) (h1 : a < n + 1) (h2 : 0 < a) (h3 : n ≤ 100) (h4 : 0 ≤ fails) (h5 : fails ≤ 100) (D : List ByteArray) (T : List Bool) (hD : D.length = 9) (hT : T.length = 9) :
    HCall Try.prog 8 [dsk (.own 3 0 3) (.own 4 0 1) n n fails false, strs D, bools T, othO 3, cutO a (.v (.slice none 0 0))] [.ref 0 0 0, .v (.int .i64 8), .v (.string oth)]
    [.ob (dsk (.v (.slice none 0 0)) (.lst 2 []) (n + 1) (n + 1) (fails + 1) true), .ob (strs (itD [] D 4)), .ob (bools (itT [] T 4)), .dead, .ob (cutO a (.v (.slice none 0 0)))] (.v (.int .i64 40)) := by
  have c1 := alive_5 (.own 3 0 3) (.own 4 0 1) n n fails (strs D) (bools T) (othO 3) (cutO a (.v (.slice none 0 0)))
  have c2 := actfail_5_4 n a fails h0 h1 h2 h3 h4 h5 D T hD hT
  obtain ⟨L, hL⟩ : ∃ L : Int, (oth.size : Int) = L := ⟨_, rfl⟩
  have hL5 : L = 5 := by rw [← hL]; kernel_rfl
  have g2 : oth.size = 5 := by omega
  have hlen : ((strs D).rows.drop 0).take 9 = D.map fun s => [.v (.string s)] := by rw [List.drop_zero]; exact List.take_of_length_le (by simp [strs, hD])
  have hpad : ((⟨1, List.replicate (256 - L).toNat [SV.v (.int .u8 0)], false⟩ : Ob).rows.drop 0).take (256 - L).toNat = (List.replicate (256 - oth.size) 0).map fun n => [SV.v (.int .u8 n)] := by
    rw [List.drop_zero, List.take_of_length_le (by simp), List.map_replicate]
    have e : (256 - L).toNat = 256 - oth.size := by omega
    show List.replicate (256 - L).toNat _ = _
    rw [e]
  have hpl : (List.replicate (256 - oth.size) (0 : Int)).length = (256 - L).toNat := by rw [List.length_replicate]; omega
  have hfull : abin .add (.string oth) (.string (strOfNums (List.replicate (256 - oth.size) 0))) = some (.string (full oth)) := by
    simp only [abin]
    rw [if_neg (by rw [strOfNums_size, List.length_replicate]; omega)]
    rfl
  refine HCall.of Try.func8 rfl (by decide +kernel) (Nat.le_of_ble_eq_true rfl) ?_
  refine cwp_seq ?_
  apply one_region
  case hc =>
    apply ChainL.of (some 6) rfl rfl
    case h => exact step_assign rfl
    exact .nil
  show Cwp _ _ _ _
  refine cwp_seq ?_
  refine cwp_block ?_
  refine cwp_seq ?_
  apply one_region
  case hc =>
    apply ChainL.of (some 8) rfl rfl
    case h => exact step_move rfl
    apply ChainL.of (some 9) rfl rfl
    case h => exact w_call c1 [] [0, 1, 2, 3, 4] [] Try.func10 rfl (by decide +kernel) rfl rfl .nil (by decide) (map5 rfl (strs_ren _ _) (bools_ren _ _) rfl rfl) rfl rfl (all5 rfl (strs_lt _ _) (bools_lt _ _) rfl rfl) rfl (all5 rfl (strs_lt _ _) (bools_lt _ _) rfl rfl) rfl rfl rfl rfl (zip5 rfl (os_strs _ _) (os_bools _ _) rfl rfl)
    apply ChainL.of (some 7) rfl rfl
    case h => exact step_assign rfl
    exact .nil
  show Cwp _ _ _ _
  refine cond_f (by first | rfl | kernel_rfl) ?_
  refine cwp_seq ?_
  apply one_region
  case hc =>
    apply ChainL.of (some 11) rfl rfl
    case h => exact step_move rfl
    apply ChainL.of (some 12) rfl rfl
    case h => (first | exact w_bin rfl rfl rfl (lss_t (by omega)) | exact w_bin rfl rfl rfl (lss_f (by omega)) | exact w_bin rfl rfl rfl rfl)
    apply ChainL.of (some 13) rfl rfl
    case h => exact step_move rfl
    first
    | apply ChainL.off (some 14) 2 13 false rfl rfl rfl rfl
    | apply ChainL.on (some 14) 2 13 false rfl rfl rfl rfl
      case h => exact step_move rfl
    first
    | apply ChainL.off (some 15) 2 13 false rfl rfl rfl rfl
    | apply ChainL.on (some 15) 2 13 false rfl rfl rfl rfl
      case h => exact step_move rfl
    first
    | apply ChainL.off (some 16) 2 13 false rfl rfl rfl rfl
    | apply ChainL.on (some 16) 2 13 false rfl rfl rfl rfl
      case h => (first | exact step_nilCheck rfl rfl | exact step_nilCheck_elt rfl rfl)
    first
    | apply ChainL.off (some 17) 2 13 false rfl rfl rfl rfl
    | apply ChainL.on (some 17) 2 13 false rfl rfl rfl rfl
      case h => (first | exact w_fieldAddr tab rfl rfl rfl rfl (by decide) rfl rfl | exact w_fieldAddr_elt tab rfl rfl rfl rfl (by decide) rfl rfl)
    first
    | apply ChainL.off (some 18) 2 13 false rfl rfl rfl rfl
    | apply ChainL.on (some 18) 2 13 false rfl rfl rfl rfl
      case h => (first | exact w_load tab rfl rfl rfl rfl rfl rfl rfl | exact w_load tab rfl rfl rfl rfl rfl (by assumption) rfl | exact w_load_elt tab rfl rfl rfl rfl rfl | exact w_loads tab rfl rfl rfl rfl rfl rfl rfl rfl | exact w_load_tab tab rfl rfl rfl rfl (.head _) (by kernel_rfl) | exact w_loads_elt tab rfl rfl rfl rfl rfl rfl)
    first
    | apply ChainL.off (some 19) 2 13 false rfl rfl rfl rfl
    | apply ChainL.on (some 19) 2 13 false rfl rfl rfl rfl
      case h => exact w_len tab rfl rfl rfl (.own rfl hlen (by simp [hD])) (n := 9) (by simp [hD])
    first
    | apply ChainL.off (some 20) 2 13 false rfl rfl rfl rfl
    | apply ChainL.on (some 20) 2 13 false rfl rfl rfl rfl
      case h => (first | exact w_bin rfl rfl rfl (geq_t (by omega)) | exact w_bin rfl rfl rfl (geq_f (by omega)) | exact w_bin rfl rfl rfl rfl)
    apply ChainL.of (some 21) rfl rfl
    case h => exact step_pick rfl rfl
    apply ChainL.of (some 10) rfl rfl
    case h => exact step_assign rfl
    exact .nil
  show Cwp _ _ _ _
  refine cond_f (by first | rfl | kernel_rfl) ?_
  refine cwp_seq ?_
  apply one_region
  case hc =>
    apply ChainL.of (some 23) rfl rfl
    case h => exact step_move rfl
    apply ChainL.of (some 24) rfl rfl
    case h => exact w_len_str (T := 9) (by kernel_rfl) rfl rfl hL
    apply ChainL.of (some 25) rfl rfl
    case h => (first | exact w_bin rfl rfl rfl (gtr_t (by omega)) | exact w_bin rfl rfl rfl (gtr_f (by omega)) | exact w_bin rfl rfl rfl rfl)
    apply ChainL.of (some 22) rfl rfl
    case h => exact step_assign rfl
    exact .nil
  show Cwp _ _ _ _
  refine cond_f (by first | rfl | kernel_rfl) ?_
  refine cwp_skip ?_
  show Cwp _ _ _ _
  refine cwp_seq ?_
  apply one_region
  case hc =>
    apply ChainL.of (some 26) rfl rfl
    case h => exact step_move rfl
    apply ChainL.of (some 27) rfl rfl
    case h => exact step_move rfl
    apply ChainL.of (some 28) rfl rfl
    case h => exact w_len_str (T := 9) (by kernel_rfl) rfl rfl hL
    apply ChainL.of (some 29) rfl rfl
    case h => (first | exact w_bin rfl rfl rfl (sub_i64 rfl (by omega) (by omega)) | exact w_bin rfl rfl rfl rfl)
    apply ChainL.of (some 30) rfl rfl
    case h => exact w_makeSlice tab rfl rfl rfl rfl 112 rfl rfl (by omega) (by dsimp only; omega) (by omega) (by decide) rfl rfl
    apply ChainL.of (some 31) rfl rfl
    case h => exact w_str_any (T := 51) (T2 := 9) (e := 5) (by kernel_rfl) (by kernel_rfl) (by kernel_rfl) rfl rfl rfl rfl (List.replicate (256 - oth.size) 0) hpad hpl rfl
    apply ChainL.of (some 32) rfl rfl
    case h => exact w_bin rfl rfl rfl hfull
    apply ChainL.of (some 2) rfl rfl
    case h => exact step_assign rfl
    exact .nil
  show Cwp _ _ _ _
  refine cwp_seq ?_
  apply one_region
  case hc =>
    apply ChainL.of (some 33) rfl rfl
    case h => exact step_move rfl
    apply ChainL.of (some 34) rfl rfl
    case h => exact step_move rfl
    apply ChainL.of (some 35) rfl rfl
    case h => (first | exact step_nilCheck rfl rfl | exact step_nilCheck_elt rfl rfl)
    apply ChainL.of (some 36) rfl rfl
    case h => (first | exact w_fieldAddr tab rfl rfl rfl rfl (by decide) rfl rfl | exact w_fieldAddr_elt tab rfl rfl rfl rfl (by decide) rfl rfl)
    apply ChainL.of (some 37) rfl rfl
    case h => (first | exact w_load tab rfl rfl rfl rfl rfl rfl rfl | exact w_load tab rfl rfl rfl rfl rfl (by assumption) rfl | exact w_load_elt tab rfl rfl rfl rfl rfl | exact w_loads tab rfl rfl rfl rfl rfl rfl rfl rfl | exact w_load_tab tab rfl rfl rfl rfl (.head _) (by kernel_rfl) | exact w_loads_elt tab rfl rfl rfl rfl rfl rfl)
    apply ChainL.of (some 38) rfl rfl
    case h => exact step_move rfl
    apply ChainL.of (some 39) rfl rfl
    case h => exact step_move rfl
    apply ChainL.of (some 40) rfl rfl
    case h => exact w_build tab rfl rfl (by decide) rfl rfl
    apply ChainL.of (some 41) rfl rfl
    case h => exact w_slice1 tab rfl rfl rfl rfl 113 (by decide) (by decide) rfl rfl rfl
    apply ChainL.of (some 42) rfl rfl
    case h => (first | exact w_append_nil_own tab rfl rfl rfl rfl rfl rfl 5 (by decide) rfl rfl rfl rfl rfl rfl rfl (Nat.le_of_ble_eq_true rfl) rfl (Nat.le_of_ble_eq_true rfl) (Nat.le_of_ble_eq_true rfl) rfl | (apply w_append_own (id' := 5) tab rfl rfl rfl rfl rfl rfl; (case hm0 => decide); (case hx => first | exact rfl | exact Nat.le_of_ble_eq_true rfl); (case hob => first | exact rfl | exact Nat.le_of_ble_eq_true rfl); (case him => first | exact rfl | exact Nat.le_of_ble_eq_true rfl); (case hfz => first | exact rfl | exact Nat.le_of_ble_eq_true rfl); (case hrx => first | exact rfl | exact Nat.le_of_ble_eq_true rfl); (case hlx => first | exact rfl | exact Nat.le_of_ble_eq_true rfl); (case hy => first | exact rfl | exact Nat.le_of_ble_eq_true rfl); (case hob2 => first | exact rfl | exact Nat.le_of_ble_eq_true rfl); (case hm => first | exact rfl | exact Nat.le_of_ble_eq_true rfl); (case hr => first | exact rfl | exact Nat.le_of_ble_eq_true rfl); (case hrl => first | exact rfl | exact Nat.le_of_ble_eq_true rfl); (case hone => first | exact rfl | exact Nat.le_of_ble_eq_true rfl); (case honex => first | exact rfl | exact Nat.le_of_ble_eq_true rfl); (case hid => first | exact rfl | exact Nat.le_of_ble_eq_true rfl); (case hlim => first | exact rfl | exact Nat.le_of_ble_eq_true rfl); (case h63 => first | exact rfl | exact Nat.le_of_ble_eq_true rfl); (case hn => first | exact rfl | exact Nat.le_of_ble_eq_true rfl); (case hrows => first | exact rfl | exact Nat.le_of_ble_eq_true rfl)))
    apply ChainL.of (some 43) rfl rfl
    case h => (first | exact step_nilCheck rfl rfl | exact step_nilCheck_elt rfl rfl)
    apply ChainL.of (some 44) rfl rfl
    case h => (first | exact w_fieldAddr tab rfl rfl rfl rfl (by decide) rfl rfl | exact w_fieldAddr_elt tab rfl rfl rfl rfl (by decide) rfl rfl)
    apply ChainL.of none rfl rfl
    case h => (first | exact w_store tab rfl rfl rfl rfl rfl rfl rfl rfl rfl (Nat.le_of_ble_eq_true rfl) rfl rfl | exact w_store tab rfl rfl rfl rfl rfl (by assumption) rfl rfl rfl (Nat.le_of_ble_eq_true rfl) rfl rfl)
    exact .nil
  show Cwp _ _ _ _
  refine cwp_seq ?_
  refine cwp_seq ?_
  apply one_region
  case hc =>
    apply ChainL.of (some 45) rfl rfl
    case h => exact step_move rfl
    apply ChainL.of (some 46) rfl rfl
    case h => exact w_call c2 [] [0, 1, 2, 5, 4] [] Try.func20 rfl (by decide +kernel) rfl rfl .nil (by decide) (map5 rfl (strs_ren _ _) (bools_ren _ _) rfl rfl) rfl rfl (all5 rfl (strs_lt _ _) (bools_lt _ _) rfl rfl) rfl (all5 rfl (strs_lt _ _) (bools_lt _ _) rfl rfl) rfl rfl rfl rfl (zip5 rfl (os_strs _ _) (os_bools _ _) rfl rfl)
    exact .nil
  show Cwp _ _ _ _
  refine cond_t (by first | rfl | kernel_rfl) ?_
  refine cwp_seq ?_
  apply one_region
  case hc =>
    apply ChainL.of (some 6) rfl rfl
    case h => exact step_assign rfl
    exact .nil
  show Cwp _ _ _ _
  refine cwp_ret ?_
  exact ⟨.inl rfl, resH_one rfl rfl, objs_ok rfl⟩
theorem wfail_6_0 (n a fails : Int) (h0 : 0 ≤ n) (h1 : a < n + 1) (h2 : 0 < a) (h3 : n ≤ 100) (h4 : 0 ≤ fails) (h5 : fails ≤ 100) (D : List ByteArray) (T : List Bool) (F : List Int) (hD : D.length = 9) (hT : T.length = 9) :
    HCall Try.prog 8 [dsk (.v (.slice none 0 0)) (.own 3 0 1) n n fails false, strs D, bools T, cutO a (.own 4 0 F.length), ints F] [.ref 0 0 0, .v (.int .i64 8), .v (.string oth)]
    [.ob (dsk (.v (.slice none 0 0)) (.lst 2 []) (n + 1) (n + 1) (fails + 1) true), .ob (strs (itD F D 1)), .ob (bools (itT F T 1)), .ob (cutO a (.own 4 0 F.length)), .ob (ints F)] (.v (.int .i64 40)) := by
  have c1 := alive_5 (.v (.slice none 0 0)) (.own 3 0 1) n n fails (strs D) (bools T) (cutO a (.own 4 0 F.length)) (ints F)
  have c2 := actfail_6_1 n a fails h0 h1 h2 h3 h4 h5 D T F hD hT
  obtain ⟨L, hL⟩ : ∃ L : Int, (oth.size : Int) = L := ⟨_, rfl⟩
  have hL5 : L = 5 := by rw [← hL]; kernel_rfl
  have g2 : oth.size = 5 := by omega
  have hlen : ((strs D).rows.drop 0).take 9 = D.map fun s => [.v (.string s)] := by rw [List.drop_zero]; exact List.take_of_length_le (by simp [strs, hD])
  have hpad : ((⟨1, List.replicate (256 - L).toNat [SV.v (.int .u8 0)], false⟩ : Ob).rows.drop 0).take (256 - L).toNat = (List.replicate (256 - oth.size) 0).map fun n => [SV.v (.int .u8 n)] := by
    rw [List.drop_zero, List.take_of_length_le (by simp), List.map_replicate]
    have e : (256 - L).toNat = 256 - oth.size := by omega
    show List.replicate (256 - L).toNat _ = _
    rw [e]
  have hpl : (List.replicate (256 - oth.size) (0 : Int)).length = (256 - L).toNat := by rw [List.length_replicate]; omega
  have hfull : abin .add (.string oth) (.string (strOfNums (List.replicate (256 - oth.size) 0))) = some (.string (full oth)) := by
    simp only [abin]
    rw [if_neg (by rw [strOfNums_size, List.length_replicate]; omega)]
    rfl
  refine HCall.of Try.func8 rfl (by decide +kernel) (Nat.le_of_ble_eq_true rfl) ?_
  refine cwp_seq ?_
  apply one_region
  case hc =>
    apply ChainL.of (some 6) rfl rfl
    case h => exact step_assign rfl
    exact .nil
  show Cwp _ _ _ _
  refine cwp_seq ?_
  refine cwp_block ?_
  refine cwp_seq ?_
  apply one_region
  case hc =>
    apply ChainL.of (some 8) rfl rfl
    case h => exact step_move rfl
    apply ChainL.of (some 9) rfl rfl
    case h => exact w_call c1 [] [0, 1, 2, 3, 4] [] Try.func10 rfl (by decide +kernel) rfl rfl .nil (by decide) (map5 rfl (strs_ren _ _) (bools_ren _ _) rfl (ints_ren _ _)) rfl rfl (all5 rfl (strs_lt _ _) (bools_lt _ _) rfl (ints_lt _ _)) rfl (all5 rfl (strs_lt _ _) (bools_lt _ _) rfl (ints_lt _ _)) rfl rfl rfl rfl (zip5 rfl (os_strs _ _) (os_bools _ _) rfl (os_ints _ _))
    apply ChainL.of (some 7) rfl rfl
    case h => exact step_assign rfl
    exact .nil
  show Cwp _ _ _ _
  refine cond_f (by first | rfl | kernel_rfl) ?_
  refine cwp_seq ?_
  apply one_region
  case hc =>
    apply ChainL.of (some 11) rfl rfl
    case h => exact step_move rfl
    apply ChainL.of (some 12) rfl rfl
    case h => (first | exact w_bin rfl rfl rfl (lss_t (by omega)) | exact w_bin rfl rfl rfl (lss_f (by omega)) | exact w_bin rfl rfl rfl rfl)
    apply ChainL.of (some 13) rfl rfl
    case h => exact step_move rfl
    first
    | apply ChainL.off (some 14) 2 13 false rfl rfl rfl rfl
    | apply ChainL.on (some 14) 2 13 false rfl rfl rfl rfl
      case h => exact step_move rfl
    first
    | apply ChainL.off (some 15) 2 13 false rfl rfl rfl rfl
    | apply ChainL.on (some 15) 2 13 false rfl rfl rfl rfl
      case h => exact step_move rfl
    first
    | apply ChainL.off (some 16) 2 13 false rfl rfl rfl rfl
    | apply ChainL.on (some 16) 2 13 false rfl rfl rfl rfl
      case h => (first | exact step_nilCheck rfl rfl | exact step_nilCheck_elt rfl rfl)
    first
    | apply ChainL.off (some 17) 2 13 false rfl rfl rfl rfl
    | apply ChainL.on (some 17) 2 13 false rfl rfl rfl rfl
      case h => (first | exact w_fieldAddr tab rfl rfl rfl rfl (by decide) rfl rfl | exact w_fieldAddr_elt tab rfl rfl rfl rfl (by decide) rfl rfl)
    first
    | apply ChainL.off (some 18) 2 13 false rfl rfl rfl rfl
    | apply ChainL.on (some 18) 2 13 false rfl rfl rfl rfl
      case h => (first | exact w_load tab rfl rfl rfl rfl rfl rfl rfl | exact w_load tab rfl rfl rfl rfl rfl (by assumption) rfl | exact w_load_elt tab rfl rfl rfl rfl rfl | exact w_loads tab rfl rfl rfl rfl rfl rfl rfl rfl | exact w_load_tab tab rfl rfl rfl rfl (.head _) (by kernel_rfl) | exact w_loads_elt tab rfl rfl rfl rfl rfl rfl)
    first
    | apply ChainL.off (some 19) 2 13 false rfl rfl rfl rfl
    | apply ChainL.on (some 19) 2 13 false rfl rfl rfl rfl
      case h => exact w_len tab rfl rfl rfl (.own rfl hlen (by simp [hD])) (n := 9) (by simp [hD])
    first
    | apply ChainL.off (some 20) 2 13 false rfl rfl rfl rfl
    | apply ChainL.on (some 20) 2 13 false rfl rfl rfl rfl
      case h => (first | exact w_bin rfl rfl rfl (geq_t (by omega)) | exact w_bin rfl rfl rfl (geq_f (by omega)) | exact w_bin rfl rfl rfl rfl)
    apply ChainL.of (some 21) rfl rfl
    case h => exact step_pick rfl rfl
    apply ChainL.of (some 10) rfl rfl
    case h => exact step_assign rfl
    exact .nil
  show Cwp _ _ _ _
  refine cond_f (by first | rfl | kernel_rfl) ?_
  refine cwp_seq ?_
  apply one_region
  case hc =>
    apply ChainL.of (some 23) rfl rfl
    case h => exact step_move rfl
    apply ChainL.of (some 24) rfl rfl
    case h => exact w_len_str (T := 9) (by kernel_rfl) rfl rfl hL
    apply ChainL.of (some 25) rfl rfl
    case h => (first | exact w_bin rfl rfl rfl (gtr_t (by omega)) | exact w_bin rfl rfl rfl (gtr_f (by omega)) | exact w_bin rfl rfl rfl rfl)
    apply ChainL.of (some 22) rfl rfl
    case h => exact step_assign rfl
    exact .nil
  show Cwp _ _ _ _
  refine cond_f (by first | rfl | kernel_rfl) ?_
  refine cwp_skip ?_
  show Cwp _ _ _ _
  refine cwp_seq ?_
  apply one_region
  case hc =>
    apply ChainL.of (some 26) rfl rfl
    case h => exact step_move rfl
    apply ChainL.of (some 27) rfl rfl
    case h => exact step_move rfl
    apply ChainL.of (some 28) rfl rfl
    case h => exact w_len_str (T := 9) (by kernel_rfl) rfl rfl hL
    apply ChainL.of (some 29) rfl rfl
    case h => (first | exact w_bin rfl rfl rfl (sub_i64 rfl (by omega) (by omega)) | exact w_bin rfl rfl rfl rfl)
    apply ChainL.of (some 30) rfl rfl
    case h => exact w_makeSlice tab rfl rfl rfl rfl 114 rfl rfl (by omega) (by dsimp only; omega) (by omega) (by decide) rfl rfl
    apply ChainL.of (some 31) rfl rfl
    case h => exact w_str_any (T := 51) (T2 := 9) (e := 5) (by kernel_rfl) (by kernel_rfl) (by kernel_rfl) rfl rfl rfl rfl (List.replicate (256 - oth.size) 0) hpad hpl rfl
    apply ChainL.of (some 32) rfl rfl
    case h => exact w_bin rfl rfl rfl hfull
    apply ChainL.of (some 2) rfl rfl
    case h => exact step_assign rfl
    exact .nil
  show Cwp _ _ _ _
  refine cwp_seq ?_
  apply one_region
  case hc =>
    apply ChainL.of (some 33) rfl rfl
    case h => exact step_move rfl
    apply ChainL.of (some 34) rfl rfl
    case h => exact step_move rfl
    apply ChainL.of (some 35) rfl rfl
    case h => (first | exact step_nilCheck rfl rfl | exact step_nilCheck_elt rfl rfl)
    apply ChainL.of (some 36) rfl rfl
    case h => (first | exact w_fieldAddr tab rfl rfl rfl rfl (by decide) rfl rfl | exact w_fieldAddr_elt tab rfl rfl rfl rfl (by decide) rfl rfl)
    apply ChainL.of (some 37) rfl rfl
    case h => (first | exact w_load tab rfl rfl rfl rfl rfl rfl rfl | exact w_load tab rfl rfl rfl rfl rfl (by assumption) rfl | exact w_load_elt tab rfl rfl rfl rfl rfl | exact w_loads tab rfl rfl rfl rfl rfl rfl rfl rfl | exact w_load_tab tab rfl rfl rfl rfl (.head _) (by kernel_rfl) | exact w_loads_elt tab rfl rfl rfl rfl rfl rfl)
    apply ChainL.of (some 38) rfl rfl
    case h => exact step_move rfl
    apply ChainL.of (some 39) rfl rfl
    case h => exact step_move rfl
    apply ChainL.of (some 40) rfl rfl
    case h => exact w_build tab rfl rfl (by decide) rfl rfl
    apply ChainL.of (some 41) rfl rfl
    case h => exact w_slice1 tab rfl rfl rfl rfl 115 (by decide) (by decide) rfl rfl rfl
    apply ChainL.of (some 42) rfl rfl
    case h => (first | exact w_append_nil_own tab rfl rfl rfl rfl rfl rfl 5 (by decide) rfl rfl rfl rfl rfl rfl rfl (Nat.le_of_ble_eq_true rfl) rfl (Nat.le_of_ble_eq_true rfl) (Nat.le_of_ble_eq_true rfl) rfl | (apply w_append_own (id' := 5) tab rfl rfl rfl rfl rfl rfl; (case hm0 => decide); (case hx => first | exact rfl | exact Nat.le_of_ble_eq_true rfl); (case hob => first | exact rfl | exact Nat.le_of_ble_eq_true rfl); (case him => first | exact rfl | exact Nat.le_of_ble_eq_true rfl); (case hfz => first | exact rfl | exact Nat.le_of_ble_eq_true rfl); (case hrx => first | exact rfl | exact Nat.le_of_ble_eq_true rfl); (case hlx => first | exact rfl | exact Nat.le_of_ble_eq_true rfl); (case hy => first | exact rfl | exact Nat.le_of_ble_eq_true rfl); (case hob2 => first | exact rfl | exact Nat.le_of_ble_eq_true rfl); (case hm => first | exact rfl | exact Nat.le_of_ble_eq_true rfl); (case hr => first | exact rfl | exact Nat.le_of_ble_eq_true rfl); (case hrl => first | exact rfl | exact Nat.le_of_ble_eq_true rfl); (case hone => first | exact rfl | exact Nat.le_of_ble_eq_true rfl); (case honex => first | exact rfl | exact Nat.le_of_ble_eq_true rfl); (case hid => first | exact rfl | exact Nat.le_of_ble_eq_true rfl); (case hlim => first | exact rfl | exact Nat.le_of_ble_eq_true rfl); (case h63 => first | exact rfl | exact Nat.le_of_ble_eq_true rfl); (case hn => first | exact rfl | exact Nat.le_of_ble_eq_true rfl); (case hrows => first | exact rfl | exact Nat.le_of_ble_eq_true rfl)))
    apply ChainL.of (some 43) rfl rfl
    case h => (first | exact step_nilCheck rfl rfl | exact step_nilCheck_elt rfl rfl)
    apply ChainL.of (some 44) rfl rfl
    case h => (first | exact w_fieldAddr tab rfl rfl rfl rfl (by decide) rfl rfl | exact w_fieldAddr_elt tab rfl rfl rfl rfl (by decide) rfl rfl)
    apply ChainL.of none rfl rfl
    case h => (first | exact w_store tab rfl rfl rfl rfl rfl rfl rfl rfl rfl (Nat.le_of_ble_eq_true rfl) rfl rfl | exact w_store tab rfl rfl rfl rfl rfl (by assumption) rfl rfl rfl (Nat.le_of_ble_eq_true rfl) rfl rfl)
    exact .nil
  show Cwp _ _ _ _
  refine cwp_seq ?_
  refine cwp_seq ?_
  apply one_region
  case hc =>
    apply ChainL.of (some 45) rfl rfl
    case h => exact step_move rfl
    apply ChainL.of (some 46) rfl rfl
    case h => exact w_call c2 [] [0, 1, 2, 5, 3, 4] [] Try.func20 rfl (by decide +kernel) rfl rfl .nil (by decide) (map6 rfl (strs_ren _ _) (bools_ren _ _) rfl rfl (ints_ren _ _)) rfl rfl (all6 rfl (strs_lt _ _) (bools_lt _ _) rfl rfl (ints_lt _ _)) rfl (all6 rfl (strs_lt _ _) (bools_lt _ _) rfl rfl (ints_lt _ _)) rfl rfl rfl rfl (zip6 rfl (os_strs _ _) (os_bools _ _) rfl rfl (os_ints _ _))
    exact .nil
  show Cwp _ _ _ _
  refine cond_t (by first | rfl | kernel_rfl) ?_
  refine cwp_seq ?_
  apply one_region
  case hc =>
    apply ChainL.of (some 6) rfl rfl
    case h => exact step_assign rfl
    exact .nil
  show Cwp _ _ _ _
  refine cwp_ret ?_
  exact ⟨.inl rfl, resH_one rfl rfl, objs_ok rfl⟩
theorem wok_6_1 (n a fails : Int) (h0 : 0 ≤ n) (h1 : n + 1 ≤ a) (h2 : a ≤ 100) (D : List ByteArray) (T : List Bool) (F : List Int) (hD : D.length = 9) :
    HCall Try.prog 8 [dsk (.own 3 0 1) (.own 4 0 1) n n fails false, strs D, bools T, othO 1, cutO a (.own 5 0 F.length), ints F] [.ref 0 0 0, .v (.int .i64 8), .v (.string oth)]
    [.ob (dsk (.own 6 0 2) (.own 4 0 1) (n + 1) (n + 1) fails false), .ob (strs D), .ob (bools T), .dead, .ob (cutO a (.own 5 0 F.length)), .ob (ints F), .ob (othO 2)] (.v (.int .i64 0)) := by
  have c1 := alive_6 (.own 3 0 1) (.own 4 0 1) n n fails (strs D) (bools T) (othO 1) (cutO a (.own 5 0 F.length)) (ints F)
  have c2 := actok_6 2 n a fails (.own 5 0 F.length) h0 h1 h2 D T (othO 2) (ints F)
  obtain ⟨L, hL⟩ : ∃ L : Int, (oth.size : Int) = L := ⟨_, rfl⟩
  have hL5 : L = 5 := by rw [← hL]; kernel_rfl
  have g2 : oth.size = 5 := by omega
  have hlen : ((strs D).rows.drop 0).take 9 = D.map fun s => [.v (.string s)] := by rw [List.drop_zero]; exact List.take_of_length_le (by simp [strs, hD])
  have hpad : ((⟨1, List.replicate (256 - L).toNat [SV.v (.int .u8 0)], false⟩ : Ob).rows.drop 0).take (256 - L).toNat = (List.replicate (256 - oth.size) 0).map fun n => [SV.v (.int .u8 n)] := by
    rw [List.drop_zero, List.take_of_length_le (by simp), List.map_replicate]
    have e : (256 - L).toNat = 256 - oth.size := by omega
    show List.replicate (256 - L).toNat _ = _
    rw [e]
  have hpl : (List.replicate (256 - oth.size) (0 : Int)).length = (256 - L).toNat := by rw [List.length_replicate]; omega
  have hfull : abin .add (.string oth) (.string (strOfNums (List.replicate (256 - oth.size) 0))) = some (.string (full oth)) := by
    simp only [abin]
    rw [if_neg (by rw [strOfNums_size, List.length_replicate]; omega)]
    rfl
  refine HCall.of Try.func8 rfl (by decide +kernel) (Nat.le_of_ble_eq_true rfl) ?_
  refine cwp_seq ?_
  apply one_region
  case hc =>
    apply ChainL.of (some 6) rfl rfl
    case h => exact step_assign rfl
    exact .nil
  show Cwp _ _ _ _
  refine cwp_seq ?_
  refine cwp_block ?_
  refine cwp_seq ?_
  apply one_region
  case hc =>
    apply ChainL.of (some 8) rfl rfl
    case h => exact step_move rfl
    apply ChainL.of (some 9) rfl rfl
    case h => exact w_call c1 [] [0, 1, 2, 3, 4, 5] [] Try.func10 rfl (by decide +kernel) rfl rfl .nil (by decide) (map6 rfl (strs_ren _ _) (bools_ren _ _) rfl rfl (ints_ren _ _)) rfl rfl (all6 rfl (strs_lt _ _) (bools_lt _ _) rfl rfl (ints_lt _ _)) rfl (all6 rfl (strs_lt _ _) (bools_lt _ _) rfl rfl (ints_lt _ _)) rfl rfl rfl rfl (zip6 rfl (os_strs _ _) (os_bools _ _) rfl rfl (os_ints _ _))
    apply ChainL.of (some 7) rfl rfl
    case h => exact step_assign rfl
    exact .nil
  show Cwp _ _ _ _
  refine cond_f (by first | rfl | kernel_rfl) ?_
  refine cwp_seq ?_
  apply one_region
  case hc =>
    apply ChainL.of (some 11) rfl rfl
    case h => exact step_move rfl
    apply ChainL.of (some 12) rfl rfl
    case h => (first | exact w_bin rfl rfl rfl (lss_t (by omega)) | exact w_bin rfl rfl rfl (lss_f (by omega)) | exact w_bin rfl rfl rfl rfl)
    apply ChainL.of (some 13) rfl rfl
    case h => exact step_move rfl
    first
    | apply ChainL.off (some 14) 2 13 false rfl rfl rfl rfl
    | apply ChainL.on (some 14) 2 13 false rfl rfl rfl rfl
      case h => exact step_move rfl
    first
    | apply ChainL.off (some 15) 2 13 false rfl rfl rfl rfl
    | apply ChainL.on (some 15) 2 13 false rfl rfl rfl rfl
      case h => exact step_move rfl
    first
    | apply ChainL.off (some 16) 2 13 false rfl rfl rfl rfl
    | apply ChainL.on (some 16) 2 13 false rfl rfl rfl rfl
      case h => (first | exact step_nilCheck rfl rfl | exact step_nilCheck_elt rfl rfl)
    first
    | apply ChainL.off (some 17) 2 13 false rfl rfl rfl rfl
    | apply ChainL.on (some 17) 2 13 false rfl rfl rfl rfl
      case h => (first | exact w_fieldAddr tab rfl rfl rfl rfl (by decide) rfl rfl | exact w_fieldAddr_elt tab rfl rfl rfl rfl (by decide) rfl rfl)
    first
    | apply ChainL.off (some 18) 2 13 false rfl rfl rfl rfl
    | apply ChainL.on (some 18) 2 13 false rfl rfl rfl rfl
      case h => (first | exact w_load tab rfl rfl rfl rfl rfl rfl rfl | exact w_load tab rfl rfl rfl rfl rfl (by assumption) rfl | exact w_load_elt tab rfl rfl rfl rfl rfl | exact w_loads tab rfl rfl rfl rfl rfl rfl rfl rfl | exact w_load_tab tab rfl rfl rfl rfl (.head _) (by kernel_rfl) | exact w_loads_elt tab rfl rfl rfl rfl rfl rfl)
    first
    | apply ChainL.off (some 19) 2 13 false rfl rfl rfl rfl
    | apply ChainL.on (some 19) 2 13 false rfl rfl rfl rfl
      case h => exact w_len tab rfl rfl rfl (.own rfl hlen (by simp [hD])) (n := 9) (by simp [hD])
    first
    | apply ChainL.off (some 20) 2 13 false rfl rfl rfl rfl
    | apply ChainL.on (some 20) 2 13 false rfl rfl rfl rfl
      case h => (first | exact w_bin rfl rfl rfl (geq_t (by omega)) | exact w_bin rfl rfl rfl (geq_f (by omega)) | exact w_bin rfl rfl rfl rfl)
    apply ChainL.of (some 21) rfl rfl
    case h => exact step_pick rfl rfl
    apply ChainL.of (some 10) rfl rfl
    case h => exact step_assign rfl
    exact .nil
  show Cwp _ _ _ _
  refine cond_f (by first | rfl | kernel_rfl) ?_
  refine cwp_seq ?_
  apply one_region
  case hc =>
    apply ChainL.of (some 23) rfl rfl
    case h => exact step_move rfl
    apply ChainL.of (some 24) rfl rfl
    case h => exact w_len_str (T := 9) (by kernel_rfl) rfl rfl hL
    apply ChainL.of (some 25) rfl rfl
    case h => (first | exact w_bin rfl rfl rfl (gtr_t (by omega)) | exact w_bin rfl rfl rfl (gtr_f (by omega)) | exact w_bin rfl rfl rfl rfl)
    apply ChainL.of (some 22) rfl rfl
    case h => exact step_assign rfl
    exact .nil
  show Cwp _ _ _ _
  refine cond_f (by first | rfl | kernel_rfl) ?_
  refine cwp_skip ?_
  show Cwp _ _ _ _
  refine cwp_seq ?_
  apply one_region
  case hc =>
    apply ChainL.of (some 26) rfl rfl
    case h => exact step_move rfl
    apply ChainL.of (some 27) rfl rfl
    case h => exact step_move rfl
    apply ChainL.of (some 28) rfl rfl
    case h => exact w_len_str (T := 9) (by kernel_rfl) rfl rfl hL
    apply ChainL.of (some 29) rfl rfl
    case h => (first | exact w_bin rfl rfl rfl (sub_i64 rfl (by omega) (by omega)) | exact w_bin rfl rfl rfl rfl)
    apply ChainL.of (some 30) rfl rfl
    case h => exact w_makeSlice tab rfl rfl rfl rfl 116 rfl rfl (by omega) (by dsimp only; omega) (by omega) (by decide) rfl rfl
    apply ChainL.of (some 31) rfl rfl
    case h => exact w_str_any (T := 51) (T2 := 9) (e := 5) (by kernel_rfl) (by kernel_rfl) (by kernel_rfl) rfl rfl rfl rfl (List.replicate (256 - oth.size) 0) hpad hpl rfl
    apply ChainL.of (some 32) rfl rfl
    case h => exact w_bin rfl rfl rfl hfull
    apply ChainL.of (some 2) rfl rfl
    case h => exact step_assign rfl
    exact .nil
  show Cwp _ _ _ _
  refine cwp_seq ?_
  apply one_region
  case hc =>
    apply ChainL.of (some 33) rfl rfl
    case h => exact step_move rfl
    apply ChainL.of (some 34) rfl rfl
    case h => exact step_move rfl
    apply ChainL.of (some 35) rfl rfl
    case h => (first | exact step_nilCheck rfl rfl | exact step_nilCheck_elt rfl rfl)
    apply ChainL.of (some 36) rfl rfl
    case h => (first | exact w_fieldAddr tab rfl rfl rfl rfl (by decide) rfl rfl | exact w_fieldAddr_elt tab rfl rfl rfl rfl (by decide) rfl rfl)
    apply ChainL.of (some 37) rfl rfl
    case h => (first | exact w_load tab rfl rfl rfl rfl rfl rfl rfl | exact w_load tab rfl rfl rfl rfl rfl (by assumption) rfl | exact w_load_elt tab rfl rfl rfl rfl rfl | exact w_loads tab rfl rfl rfl rfl rfl rfl rfl rfl | exact w_load_tab tab rfl rfl rfl rfl (.head _) (by kernel_rfl) | exact w_loads_elt tab rfl rfl rfl rfl rfl rfl)
    apply ChainL.of (some 38) rfl rfl
    case h => exact step_move rfl
    apply ChainL.of (some 39) rfl rfl
    case h => exact step_move rfl
    apply ChainL.of (some 40) rfl rfl
    case h => exact w_build tab rfl rfl (by decide) rfl rfl
    apply ChainL.of (some 41) rfl rfl
    case h => exact w_slice1 tab rfl rfl rfl rfl 117 (by decide) (by decide) rfl rfl rfl
    apply ChainL.of (some 42) rfl rfl
    case h => (first | exact w_append_nil_own tab rfl rfl rfl rfl rfl rfl 6 (by decide) rfl rfl rfl rfl rfl rfl rfl (Nat.le_of_ble_eq_true rfl) rfl (Nat.le_of_ble_eq_true rfl) (Nat.le_of_ble_eq_true rfl) rfl | (apply w_append_own (id' := 6) tab rfl rfl rfl rfl rfl rfl; (case hm0 => decide); (case hx => first | exact rfl | exact Nat.le_of_ble_eq_true rfl); (case hob => first | exact rfl | exact Nat.le_of_ble_eq_true rfl); (case him => first | exact rfl | exact Nat.le_of_ble_eq_true rfl); (case hfz => first | exact rfl | exact Nat.le_of_ble_eq_true rfl); (case hrx => first | exact rfl | exact Nat.le_of_ble_eq_true rfl); (case hlx => first | exact rfl | exact Nat.le_of_ble_eq_true rfl); (case hy => first | exact rfl | exact Nat.le_of_ble_eq_true rfl); (case hob2 => first | exact rfl | exact Nat.le_of_ble_eq_true rfl); (case hm => first | exact rfl | exact Nat.le_of_ble_eq_true rfl); (case hr => first | exact rfl | exact Nat.le_of_ble_eq_true rfl); (case hrl => first | exact rfl | exact Nat.le_of_ble_eq_true rfl); (case hone => first | exact rfl | exact Nat.le_of_ble_eq_true rfl); (case honex => first | exact rfl | exact Nat.le_of_ble_eq_true rfl); (case hid => first | exact rfl | exact Nat.le_of_ble_eq_true rfl); (case hlim => first | exact rfl | exact Nat.le_of_ble_eq_true rfl); (case h63 => first | exact rfl | exact Nat.le_of_ble_eq_true rfl); (case hn => first | exact rfl | exact Nat.le_of_ble_eq_true rfl); (case hrows => first | exact rfl | exact Nat.le_of_ble_eq_true rfl)))
    apply ChainL.of (some 43) rfl rfl
    case h => (first | exact step_nilCheck rfl rfl | exact step_nilCheck_elt rfl rfl)
    apply ChainL.of (some 44) rfl rfl
    case h => (first | exact w_fieldAddr tab rfl rfl rfl rfl (by decide) rfl rfl | exact w_fieldAddr_elt tab rfl rfl rfl rfl (by decide) rfl rfl)
    apply ChainL.of none rfl rfl
    case h => (first | exact w_store tab rfl rfl rfl rfl rfl rfl rfl rfl rfl (Nat.le_of_ble_eq_true rfl) rfl rfl | exact w_store tab rfl rfl rfl rfl rfl (by assumption) rfl rfl rfl (Nat.le_of_ble_eq_true rfl) rfl rfl)
    exact .nil
  show Cwp _ _ _ _
  refine cwp_seq ?_
  refine cwp_seq ?_
  apply one_region
  case hc =>
    apply ChainL.of (some 45) rfl rfl
    case h => exact step_move rfl
    apply ChainL.of (some 46) rfl rfl
    case h => exact w_call c2 [] [0, 1, 2, 6, 4, 5] [] Try.func20 rfl (by decide +kernel) rfl rfl .nil (by decide) (map6 rfl (strs_ren _ _) (bools_ren _ _) rfl rfl (ints_ren _ _)) rfl rfl (all6 rfl (strs_lt _ _) (bools_lt _ _) rfl rfl (ints_lt _ _)) rfl (all6 rfl (strs_lt _ _) (bools_lt _ _) rfl rfl (ints_lt _ _)) rfl rfl rfl rfl (zip6 rfl (os_strs _ _) (os_bools _ _) rfl rfl (os_ints _ _))
    exact .nil
  show Cwp _ _ _ _
  refine cond_f (by first | rfl | kernel_rfl) ?_
  refine cwp_skip ?_
  show Cwp _ _ _ _
  refine cwp_seq ?_
  apply one_region
  case hc =>
    apply ChainL.of (some 6) rfl rfl
    case h => exact step_assign rfl
    exact .nil
  show Cwp _ _ _ _
  refine cwp_ret ?_
  exact ⟨.inl rfl, resH_one rfl rfl, objs_ok rfl⟩
theorem wfail_6_1 (n a fails : Int) (h0 : 0 ≤ n) (h1 : a < n + 1) (h2 : 0 < a) (h3 : n ≤ 100) (h4 : 0 ≤ fails) (h5 : fails ≤ 100) (D : List ByteArray) (T : List Bool) (F : List Int) (hD : D.length = 9) (hT : T.length = 9) :
    HCall Try.prog 8 [dsk (.own 3 0 1) (.own 4 0 1) n n fails false, strs D, bools T, othO 1, cutO a (.own 5 0 F.length), ints F] [.ref 0 0 0, .v (.int .i64 8), .v (.string oth)]
    [.ob (dsk (.v (.slice none 0 0)) (.lst 2 []) (n + 1) (n + 1) (fails + 1) true), .ob (strs (itD F D 2)), .ob (bools (itT F T 2)), .dead, .ob (cutO a (.own 5 0 F.length)), .ob (ints F)] (.v (.int .i64 40)) := by
  have c1 := alive_6 (.own 3 0 1) (.own 4 0 1) n n fails (strs D) (bools T) (othO 1) (cutO a (.own 5 0 F.length)) (ints F)
  have c2 := actfail_6_2 n a fails h0 h1 h2 h3 h4 h5 D T F hD hT
  obtain ⟨L, hL⟩ : ∃ L : Int, (oth.size : Int) = L := ⟨_, rfl⟩
  have hL5 : L = 5 := by rw [← hL]; kernel_rfl
  have g2 : oth.size = 5 := by omega
  have hlen : ((strs D).rows.drop 0).take 9 = D.map fun s => [.v (.string s)] := by rw [List.drop_zero]; exact List.take_of_length_le (by simp [strs, hD])
  have hpad : ((⟨1, List.replicate (256 - L).toNat [SV.v (.int .u8 0)], false⟩ : Ob).rows.drop 0).take (256 - L).toNat = (List.replicate (256 - oth.size) 0).map fun n => [SV.v (.int .u8 n)] := by
    rw [List.drop_zero, List.take_of_length_le (by simp), List.map_replicate]
    have e : (256 - L).toNat = 256 - oth.size := by omega
    show List.replicate (256 - L).toNat _ = _
    rw [e]
  have hpl : (List.replicate (256 - oth.size) (0 : Int)).length = (256 - L).toNat := by rw [List.length_replicate]; omega
  have hfull : abin .add (.string oth) (.string (strOfNums (List.replicate (256 - oth.size) 0))) = some (.string (full oth)) := by
    simp only [abin]
    rw [if_neg (by rw [strOfNums_size, List.length_replicate]; omega)]
    rfl
  refine HCall.of Try.func8 rfl (by decide +kernel) (Nat.le_of_ble_eq_true rfl) ?_
  refine cwp_seq ?_
  apply one_region
  case hc =>
    apply ChainL.of (some 6) rfl rfl
    case h => exact step_assign rfl
    exact .nil
  show Cwp _ _ _ _
  refine cwp_seq ?_
  refine cwp_block ?_
  refine cwp_seq ?_
  apply one_region
  case hc =>
    apply ChainL.of (some 8) rfl rfl
    case h => exact step_move rfl
    apply ChainL.of (some 9) rfl rfl
    case h => exact w_call c1 [] [0, 1, 2, 3, 4, 5] [] Try.func10 rfl (by decide +kernel) rfl rfl .nil (by decide) (map6 rfl (strs_ren _ _) (bools_ren _ _) rfl rfl (ints_ren _ _)) rfl rfl (all6 rfl (strs_lt _ _) (bools_lt _ _) rfl rfl (ints_lt _ _)) rfl (all6 rfl (strs_lt _ _) (bools_lt _ _) rfl rfl (ints_lt _ _)) rfl rfl rfl rfl (zip6 rfl (os_strs _ _) (os_bools _ _) rfl rfl (os_ints _ _))
    apply ChainL.of (some 7) rfl rfl
    case h => exact step_assign rfl
    exact .nil
  show Cwp _ _ _ _
  refine cond_f (by first | rfl | kernel_rfl) ?_
  refine cwp_seq ?_
  apply one_region
  case hc =>
    apply ChainL.of (some 11) rfl rfl
    case h => exact step_move rfl
    apply ChainL.of (some 12) rfl rfl
    case h => (first | exact w_bin rfl rfl rfl (lss_t (by omega)) | exact w_bin rfl rfl rfl (lss_f (by omega)) | exact w_bin rfl rfl rfl rfl)
    apply ChainL.of (some 13) rfl rfl
    case h => exact step_move rfl
    first
    | apply ChainL.off (some 14) 2 13 false rfl rfl rfl rfl
    | apply ChainL.on (some 14) 2 13 false rfl rfl rfl rfl
      case h => exact step_move rfl
    first
    | apply ChainL.off (some 15) 2 13 false rfl rfl rfl rfl
    | apply ChainL.on (some 15) 2 13 false rfl rfl rfl rfl
      case h => exact step_move rfl
    first
    | apply ChainL.off (some 16) 2 13 false rfl rfl rfl rfl
    | apply ChainL.on (some 16) 2 13 false rfl rfl rfl rfl
      case h => (first | exact step_nilCheck rfl rfl | exact step_nilCheck_elt rfl rfl)
    first
    | apply ChainL.off (some 17) 2 13 false rfl rfl rfl rfl
    | apply ChainL.on (some 17) 2 13 false rfl rfl rfl rfl
      case h => (first | exact w_fieldAddr tab rfl rfl rfl rfl (by decide) rfl rfl | exact w_fieldAddr_elt tab rfl rfl rfl rfl (by decide) rfl rfl)
    first
    | apply ChainL.off (some 18) 2 13 false rfl rfl rfl rfl
    | apply ChainL.on (some 18) 2 13 false rfl rfl rfl rfl
      case h => (first | exact w_load tab rfl rfl rfl rfl rfl rfl rfl | exact w_load tab rfl rfl rfl rfl rfl (by assumption) rfl | exact w_load_elt tab rfl rfl rfl rfl rfl | exact w_loads tab rfl rfl rfl rfl rfl rfl rfl rfl | exact w_load_tab tab rfl rfl rfl rfl (.head _) (by kernel_rfl) | exact w_loads_elt tab rfl rfl rfl rfl rfl rfl)
    first
    | apply ChainL.off (some 19) 2 13 false rfl rfl rfl rfl
    | apply ChainL.on (some 19) 2 13 false rfl rfl rfl rfl
      case h => exact w_len tab rfl rfl rfl (.own rfl hlen (by simp [hD])) (n := 9) (by simp [hD])
    first
    | apply ChainL.off (some 20) 2 13 false rfl rfl rfl rfl
    | apply ChainL.on (some 20) 2 13 false rfl rfl rfl rfl
      case h => (first | exact w_bin rfl rfl rfl (geq_t (by omega)) | exact w_bin rfl rfl rfl (geq_f (by omega)) | exact w_bin rfl rfl rfl rfl)
    apply ChainL.of (some 21) rfl rfl
    case h => exact step_pick rfl rfl
    apply ChainL.of (some 10) rfl rfl
    case h => exact step_assign rfl
    exact .nil
  show Cwp _ _ _ _
  refine cond_f (by first | rfl | kernel_rfl) ?_
  refine cwp_seq ?_
  apply one_region
  case hc =>
    apply ChainL.of (some 23) rfl rfl
    case h => exact step_move rfl
    apply ChainL.of (some 24) rfl rfl
    case h => exact w_len_str (T := 9) (by kernel_rfl) rfl rfl hL
    apply ChainL.of (some 25) rfl rfl
    case h => (first | exact w_bin rfl rfl rfl (gtr_t (by omega)) | exact w_bin rfl rfl rfl (gtr_f (by omega)) | exact w_bin rfl rfl rfl rfl)
    apply ChainL.of (some 22) rfl rfl
    case h => exact step_assign rfl
    exact .nil
  show Cwp _ _ _ _
  refine cond_f (by first | rfl | kernel_rfl) ?_
  refine cwp_skip ?_
  show Cwp _ _ _ _
  refine cwp_seq ?_
  apply one_region
  case hc =>
    apply ChainL.of (some 26) rfl rfl
    case h => exact step_move rfl
    apply ChainL.of (some 27) rfl rfl
    case h => exact step_move rfl
    apply ChainL.of (some 28) rfl rfl
    case h => exact w_len_str (T := 9) (by kernel_rfl) rfl rfl hL
    apply ChainL.of (some 29) rfl rfl
    case h => (first | exact w_bin rfl rfl rfl (sub_i64 rfl (by omega) (by omega)) | exact w_bin rfl rfl rfl rfl)
    apply ChainL.of (some 30) rfl rfl
    case h => exact w_makeSlice tab rfl rfl rfl rfl 118 rfl rfl (by omega) (by dsimp only; omega) (by omega) (by decide) rfl rfl
    apply ChainL.of (some 31) rfl rfl
    case h => exact w_str_any (T := 51) (T2 := 9) (e := 5) (by kernel_rfl) (by kernel_rfl) (by kernel_rfl) rfl rfl rfl rfl (List.replicate (256 - oth.size) 0) hpad hpl rfl
    apply ChainL.of (some 32) rfl rfl
    case h => exact w_bin rfl rfl rfl hfull
    apply ChainL.of (some 2) rfl rfl
    case h => exact step_assign rfl
    exact .nil
  show Cwp _ _ _ _
  refine cwp_seq ?_
  apply one_region
  case hc =>
    apply ChainL.of (some 33) rfl rfl
    case h => exact step_move rfl
    apply ChainL.of (some 34) rfl rfl
    case h => exact step_move rfl
    apply ChainL.of (some 35) rfl rfl
    case h => (first | exact step_nilCheck rfl rfl | exact step_nilCheck_elt rfl rfl)
    apply ChainL.of (some 36) rfl rfl
    case h => (first | exact w_fieldAddr tab rfl rfl rfl rfl (by decide) rfl rfl | exact w_fieldAddr_elt tab rfl rfl rfl rfl (by decide) rfl rfl)
    apply ChainL.of (some 37) rfl rfl
    case h => (first | exact w_load tab rfl rfl rfl rfl rfl rfl rfl | exact w_load tab rfl rfl rfl rfl rfl (by assumption) rfl | exact w_load_elt tab rfl rfl rfl rfl rfl | exact w_loads tab rfl rfl rfl rfl rfl rfl rfl rfl | exact w_load_tab tab rfl rfl rfl rfl (.head _) (by kernel_rfl) | exact w_loads_elt tab rfl rfl rfl rfl rfl rfl)
    apply ChainL.of (some 38) rfl rfl
    case h => exact step_move rfl
    apply ChainL.of (some 39) rfl rfl
    case h => exact step_move rfl
    apply ChainL.of (some 40) rfl rfl
    case h => exact w_build tab rfl rfl (by decide) rfl rfl
    apply ChainL.of (some 41) rfl rfl
    case h => exact w_slice1 tab rfl rfl rfl rfl 119 (by decide) (by decide) rfl rfl rfl
    apply ChainL.of (some 42) rfl rfl
    case h => (first | exact w_append_nil_own tab rfl rfl rfl rfl rfl rfl 6 (by decide) rfl rfl rfl rfl rfl rfl rfl (Nat.le_of_ble_eq_true rfl) rfl (Nat.le_of_ble_eq_true rfl) (Nat.le_of_ble_eq_true rfl) rfl | (apply w_append_own (id' := 6) tab rfl rfl rfl rfl rfl rfl; (case hm0 => decide); (case hx => first | exact rfl | exact Nat.le_of_ble_eq_true rfl); (case hob => first | exact rfl | exact Nat.le_of_ble_eq_true rfl); (case him => first | exact rfl | exact Nat.le_of_ble_eq_true rfl); (case hfz => first | exact rfl | exact Nat.le_of_ble_eq_true rfl); (case hrx => first | exact rfl | exact Nat.le_of_ble_eq_true rfl); (case hlx => first | exact rfl | exact Nat.le_of_ble_eq_true rfl); (case hy => first | exact rfl | exact Nat.le_of_ble_eq_true rfl); (case hob2 => first | exact rfl | exact Nat.le_of_ble_eq_true rfl); (case hm => first | exact rfl | exact Nat.le_of_ble_eq_true rfl); (case hr => first | exact rfl | exact Nat.le_of_ble_eq_true rfl); (case hrl => first | exact rfl | exact Nat.le_of_ble_eq_true rfl); (case hone => first | exact rfl | exact Nat.le_of_ble_eq_true rfl); (case honex => first | exact rfl | exact Nat.le_of_ble_eq_true rfl); (case hid => first | exact rfl | exact Nat.le_of_ble_eq_true rfl); (case hlim => first | exact rfl | exact Nat.le_of_ble_eq_true rfl); (case h63 => first | exact rfl | exact Nat.le_of_ble_eq_true rfl); (case hn => first | exact rfl | exact Nat.le_of_ble_eq_true rfl); (case hrows => first | exact rfl | exact Nat.le_of_ble_eq_true rfl)))
    apply ChainL.of (some 43) rfl rfl
    case h => (first | exact step_nilCheck rfl rfl | exact step_nilCheck_elt rfl rfl)
    apply ChainL.of (some 44) rfl rfl
    case h => (first | exact w_fieldAddr tab rfl rfl rfl rfl (by decide) rfl rfl | exact w_fieldAddr_elt tab rfl rfl rfl rfl (by decide) rfl rfl)
    apply ChainL.of none rfl rfl
    case h => (first | exact w_store tab rfl rfl rfl rfl rfl rfl rfl rfl rfl (Nat.le_of_ble_eq_true rfl) rfl rfl | exact w_store tab rfl rfl rfl rfl rfl (by assumption) rfl rfl rfl (Nat.le_of_ble_eq_true rfl) rfl rfl)
    exact .nil
  show Cwp _ _ _ _
  refine cwp_seq ?_
  refine cwp_seq ?_
  apply one_region
  case hc =>
    apply ChainL.of (some 45) rfl rfl
    case h => exact step_move rfl
    apply ChainL.of (some 46) rfl rfl
    case h => exact w_call c2 [] [0, 1, 2, 6, 4, 5] [] Try.func20 rfl (by decide +kernel) rfl rfl .nil (by decide) (map6 rfl (strs_ren _ _) (bools_ren _ _) rfl rfl (ints_ren _ _)) rfl rfl (all6 rfl (strs_lt _ _) (bools_lt _ _) rfl rfl (ints_lt _ _)) rfl (all6 rfl (strs_lt _ _) (bools_lt _ _) rfl rfl (ints_lt _ _)) rfl rfl rfl rfl (zip6 rfl (os_strs _ _) (os_bools _ _) rfl rfl (os_ints _ _))
    exact .nil
  show Cwp _ _ _ _
  refine cond_t (by first | rfl | kernel_rfl) ?_
  refine cwp_seq ?_
  apply one_region
  case hc =>
    apply ChainL.of (some 6) rfl rfl
    case h => exact step_assign rfl
    exact .nil
  show Cwp _ _ _ _
  refine cwp_ret ?_
  exact ⟨.inl rfl, resH_one rfl rfl, objs_ok rfl⟩
theorem wok_6_2 (n a fails : Int) (h0 : 0 ≤ n) (h1 : n + 1 ≤ a) (h2 : a ≤ 100) (D : List ByteArray) (T : List Bool) (F : List Int) (hD : D.length = 9) :
    HCall Try.prog 8 [dsk (.own 3 0 2) (.own 4 0 1) n n fails false, strs D, bools T, othO 2, cutO a (.own 5 0 F.length), ints F] [.ref 0 0 0, .v (.int .i64 8), .v (.string oth)]
    [.ob (dsk (.own 6 0 3) (.own 4 0 1) (n + 1) (n + 1) fails false), .ob (strs D), .ob (bools T), .dead, .ob (cutO a (.own 5 0 F.length)), .ob (ints F), .ob (othO 3)] (.v (.int .i64 0)) := by
  have c1 := alive_6 (.own 3 0 2) (.own 4 0 1) n n fails (strs D) (bools T) (othO 2) (cutO a (.own 5 0 F.length)) (ints F)
  have c2 := actok_6 3 n a fails (.own 5 0 F.length) h0 h1 h2 D T (othO 3) (ints F)
  obtain ⟨L, hL⟩ : ∃ L : Int, (oth.size : Int) = L := ⟨_, rfl⟩
  have hL5 : L = 5 := by rw [← hL]; kernel_rfl
  have g2 : oth.size = 5 := by omega
  have hlen : ((strs D).rows.drop 0).take 9 = D.map fun s => [.v (.string s)] := by rw [List.drop_zero]; exact List.take_of_length_le (by simp [strs, hD])
  have hpad : ((⟨1, List.replicate (256 - L).toNat [SV.v (.int .u8 0)], false⟩ : Ob).rows.drop 0).take (256 - L).toNat = (List.replicate (256 - oth.size) 0).map fun n => [SV.v (.int .u8 n)] := by
    rw [List.drop_zero, List.take_of_length_le (by simp), List.map_replicate]
    have e : (256 - L).toNat = 256 - oth.size := by omega
    show List.replicate (256 - L).toNat _ = _
    rw [e]
  have hpl : (List.replicate (256 - oth.size) (0 : Int)).length = (256 - L).toNat := by rw [List.length_replicate]; omega
  have hfull : abin .add (.string oth) (.string (strOfNums (List.replicate (256 - oth.size) 0))) = some (.string (full oth)) := by
    simp only [abin]
    rw [if_neg (by rw [strOfNums_size, List.length_replicate]; omega)]
    rfl
  refine HCall.of Try.func8 rfl (by decide +kernel) (Nat.le_of_ble_eq_true rfl) ?_
  refine cwp_seq ?_
  apply one_region
  case hc =>
    apply ChainL.of (some 6) rfl rfl
    case h => exact step_assign rfl
    exact .nil
  show Cwp _ _ _ _
  refine cwp_seq ?_
  refine cwp_block ?_
  refine cwp_seq ?_
  apply one_region
  case hc =>
    apply ChainL.of (some 8) rfl rfl
    case h => exact step_move rfl
    apply ChainL.of (some 9) rfl rfl
    case h => exact w_call c1 [] [0, 1, 2, 3, 4, 5] [] Try.func10 rfl (by decide +kernel) rfl rfl .nil (by decide) (map6 rfl (strs_ren _ _) (bools_ren _ _) rfl rfl (ints_ren _ _)) rfl rfl (all6 rfl (strs_lt _ _) (bools_lt _ _) rfl rfl (ints_lt _ _)) rfl (all6 rfl (strs_lt _ _) (bools_lt _ _) rfl rfl (ints_lt _ _)) rfl rfl rfl rfl (zip6 rfl (os_strs _ _) (os_bools _ _) rfl rfl (os_ints _ _))
    apply ChainL.of (some 7) rfl rfl
    case h => exact step_assign rfl
    exact .nil
  show Cwp _ _ _ _
  refine cond_f (by first | rfl | kernel_rfl) ?_
  refine cwp_seq ?_
  apply one_region
  case hc =>
    apply ChainL.of (some 11) rfl rfl
    case h => exact step_move rfl
    apply ChainL.of (some 12) rfl rfl
    case h => (first | exact w_bin rfl rfl rfl (lss_t (by omega)) | exact w_bin rfl rfl rfl (lss_f (by omega)) | exact w_bin rfl rfl rfl rfl)
    apply ChainL.of (some 13) rfl rfl
    case h => exact step_move rfl
    first
    | apply ChainL.off (some 14) 2 13 false rfl rfl rfl rfl
    | apply ChainL.on (some 14) 2 13 false rfl rfl rfl rfl
      case h => exact step_move rfl
    first
    | apply ChainL.off (some 15) 2 13 false rfl rfl rfl rfl
    | apply ChainL.on (some 15) 2 13 false rfl rfl rfl rfl
      case h => exact step_move rfl
    first
    | apply ChainL.off (some 16) 2 13 false rfl rfl rfl rfl
    | apply ChainL.on (some 16) 2 13 false rfl rfl rfl rfl
      case h => (first | exact step_nilCheck rfl rfl | exact step_nilCheck_elt rfl rfl)
    first
    | apply ChainL.off (some 17) 2 13 false rfl rfl rfl rfl
    | apply ChainL.on (some 17) 2 13 false rfl rfl rfl rfl
      case h => (first | exact w_fieldAddr tab rfl rfl rfl rfl (by decide) rfl rfl | exact w_fieldAddr_elt tab rfl rfl rfl rfl (by decide) rfl rfl)
    first
    | apply ChainL.off (some 18) 2 13 false rfl rfl rfl rfl
    | apply ChainL.on (some 18) 2 13 false rfl rfl rfl rfl
      case h => (first | exact w_load tab rfl rfl rfl rfl rfl rfl rfl | exact w_load tab rfl rfl rfl rfl rfl (by assumption) rfl | exact w_load_elt tab rfl rfl rfl rfl rfl | exact w_loads tab rfl rfl rfl rfl rfl rfl rfl rfl | exact w_load_tab tab rfl rfl rfl rfl (.head _) (by kernel_rfl) | exact w_loads_elt tab rfl rfl rfl rfl rfl rfl)
    first
    | apply ChainL.off (some 19) 2 13 false rfl rfl rfl rfl
    | apply ChainL.on (some 19) 2 13 false rfl rfl rfl rfl
      case h => exact w_len tab rfl rfl rfl (.own rfl hlen (by simp [hD])) (n := 9) (by simp [hD])
    first
    | apply ChainL.off (some 20) 2 13 false rfl rfl rfl rfl
    | apply ChainL.on (some 20) 2 13 false rfl rfl rfl rfl
      case h => (first | exact w_bin rfl rfl rfl (geq_t (by omega)) | exact w_bin rfl rfl rfl (geq_f (by omega)) | exact w_bin rfl rfl rfl rfl)
    apply ChainL.of (some 21) rfl rfl
    case h => exact step_pick rfl rfl
    apply ChainL.of (some 10) rfl rfl
    case h => exact step_assign rfl
    exact .nil
  show Cwp _ _ _ _
  refine cond_f (by first | rfl | kernel_rfl) ?_
  refine cwp_seq ?_
  apply one_region
  case hc =>
    apply ChainL.of (some 23) rfl rfl
    case h => exact step_move rfl
    apply ChainL.of (some 24) rfl rfl
    case h => exact w_len_str (T := 9) (by kernel_rfl) rfl rfl hL
    apply ChainL.of (some 25) rfl rfl
    case h => (first | exact w_bin rfl rfl rfl (gtr_t (by omega)) | exact w_bin rfl rfl rfl (gtr_f (by omega)) | exact w_bin rfl rfl rfl rfl)
    apply ChainL.of (some 22) rfl rfl
    case h => exact step_assign rfl
    exact .nil
  show Cwp _ _ _ _
  refine cond_f (by first | rfl | kernel_rfl) ?_
  refine cwp_skip ?_
  show Cwp _ _ _ _
  refine cwp_seq ?_
  apply one_region
  case hc =>
    apply ChainL.of (some 26) rfl rfl
    case h => exact step_move rfl
    apply ChainL.of (some 27) rfl rfl
    case h => exact step_move rfl
    apply ChainL.of (some 28) rfl rfl
    case h => exact w_len_str (T := 9) (by kernel_rfl) rfl rfl hL
    apply ChainL.of (some 29) rfl rfl
    case h => (first | exact w_bin rfl rfl rfl (sub_i64 rfl (by omega) (by omega)) | exact w_bin rfl rfl rfl rfl)
    apply ChainL.of (some 30) rfl rfl
    case h => exact w_makeSlice tab rfl rfl rfl rfl 120 rfl rfl (by omega) (by dsimp only; omega) (by omega) (by decide) rfl rfl
    apply ChainL.of (some 31) rfl rfl
    case h => exact w_str_any (T := 51) (T2 := 9) (e := 5) (by kernel_rfl) (by kernel_rfl) (by kernel_rfl) rfl rfl rfl rfl (List.replicate (256 - oth.size) 0) hpad hpl rfl
    apply ChainL.of (some 32) rfl rfl
    case h => exact w_bin rfl rfl rfl hfull
    apply ChainL.of (some 2) rfl rfl
    case h => exact step_assign rfl
    exact .nil
  show Cwp _ _ _ _
  refine cwp_seq ?_
  apply one_region
  case hc =>
    apply ChainL.of (some 33) rfl rfl
    case h => exact step_move rfl
    apply ChainL.of (some 34) rfl rfl
    case h => exact step_move rfl
    apply ChainL.of (some 35) rfl rfl
    case h => (first | exact step_nilCheck rfl rfl | exact step_nilCheck_elt rfl rfl)
    apply ChainL.of (some 36) rfl rfl
    case h => (first | exact w_fieldAddr tab rfl rfl rfl rfl (by decide) rfl rfl | exact w_fieldAddr_elt tab rfl rfl rfl rfl (by decide) rfl rfl)
    apply ChainL.of (some 37) rfl rfl
    case h => (first | exact w_load tab rfl rfl rfl rfl rfl rfl rfl | exact w_load tab rfl rfl rfl rfl rfl (by assumption) rfl | exact w_load_elt tab rfl rfl rfl rfl rfl | exact w_loads tab rfl rfl rfl rfl rfl rfl rfl rfl | exact w_load_tab tab rfl rfl rfl rfl (.head _) (by kernel_rfl) | exact w_loads_elt tab rfl rfl rfl rfl rfl rfl)
    apply ChainL.of (some 38) rfl rfl
    case h => exact step_move rfl
    apply ChainL.of (some 39) rfl rfl
    case h => exact step_move rfl
    apply ChainL.of (some 40) rfl rfl
    case h => exact w_build tab rfl rfl (by decide) rfl rfl
    apply ChainL.of (some 41) rfl rfl
    case h => exact w_slice1 tab rfl rfl rfl rfl 121 (by decide) (by decide) rfl rfl rfl
    apply ChainL.of (some 42) rfl rfl
    case h => (first | exact w_append_nil_own tab rfl rfl rfl rfl rfl rfl 6 (by decide) rfl rfl rfl rfl rfl rfl rfl (Nat.le_of_ble_eq_true rfl) rfl (Nat.le_of_ble_eq_true rfl) (Nat.le_of_ble_eq_true rfl) rfl | (apply w_append_own (id' := 6) tab rfl rfl rfl rfl rfl rfl; (case hm0 => decide); (case hx => first | exact rfl | exact Nat.le_of_ble_eq_true rfl); (case hob => first | exact rfl | exact Nat.le_of_ble_eq_true rfl); (case him => first | exact rfl | exact Nat.le_of_ble_eq_true rfl); (case hfz => first | exact rfl | exact Nat.le_of_ble_eq_true rfl); (case hrx => first | exact rfl | exact Nat.le_of_ble_eq_true rfl); (case hlx => first | exact rfl | exact Nat.le_of_ble_eq_true rfl); (case hy => first | exact rfl | exact Nat.le_of_ble_eq_true rfl); (case hob2 => first | exact rfl | exact Nat.le_of_ble_eq_true rfl); (case hm => first | exact rfl | exact Nat.le_of_ble_eq_true rfl); (case hr => first | exact rfl | exact Nat.le_of_ble_eq_true rfl); (case hrl => first | exact rfl | exact Nat.le_of_ble_eq_true rfl); (case hone => first | exact rfl | exact Nat.le_of_ble_eq_true rfl); (case honex => first | exact rfl | exact Nat.le_of_ble_eq_true rfl); (case hid => first | exact rfl | exact Nat.le_of_ble_eq_true rfl); (case hlim => first | exact rfl | exact Nat.le_of_ble_eq_true rfl); (case h63 => first | exact rfl | exact Nat.le_of_ble_eq_true rfl); (case hn => first | exact rfl | exact Nat.le_of_ble_eq_true rfl); (case hrows => first | exact rfl | exact Nat.le_of_ble_eq_true rfl)))
    apply ChainL.of (some 43) rfl rfl
    case h => (first | exact step_nilCheck rfl rfl | exact step_nilCheck_elt rfl rfl)
    apply ChainL.of (some 44) rfl rfl
    case h => (first | exact w_fieldAddr tab rfl rfl rfl rfl (by decide) rfl rfl | exact w_fieldAddr_elt tab rfl rfl rfl rfl (by decide) rfl rfl)
    apply ChainL.of none rfl rfl
    case h => (first | exact w_store tab rfl rfl rfl rfl rfl rfl rfl rfl rfl (Nat.le_of_ble_eq_true rfl) rfl rfl | exact w_store tab rfl rfl rfl rfl rfl (by assumption) rfl rfl rfl (Nat.le_of_ble_eq_true rfl) rfl rfl)
    exact .nil
  show Cwp _ _ _ _
  refine cwp_seq ?_
  refine cwp_seq ?_
  apply one_region
  case hc =>
    apply ChainL.of (some 45) rfl rfl
    case h => exact step_move rfl
    apply ChainL.of (some 46) rfl rfl
    case h => exact w_call c2 [] [0, 1, 2, 6, 4, 5] [] Try.func20 rfl (by decide +kernel) rfl rfl .nil (by decide) (map6 rfl (strs_ren _ _) (bools_ren _ _) rfl rfl (ints_ren _ _)) rfl rfl (all6 rfl (strs_lt _ _) (bools_lt _ _) rfl rfl (ints_lt _ _)) rfl (all6 rfl (strs_lt _ _) (bools_lt _ _) rfl rfl (ints_lt _ _)) rfl rfl rfl rfl (zip6 rfl (os_strs _ _) (os_bools _ _) rfl rfl (os_ints _ _))
    exact .nil
  show Cwp _ _ _ _
  refine cond_f (by first | rfl | kernel_rfl) ?_
  refine cwp_skip ?_
  show Cwp _ _ _ _
  refine cwp_seq ?_
  apply one_region
  case hc =>
    apply ChainL.of (some 6) rfl rfl
    case h => exact step_assign rfl
    exact .nil
  show Cwp _ _ _ _
  refine cwp_ret ?_
  exact ⟨.inl rfl, resH_one rfl rfl, objs_ok rfl⟩
theorem wfail_6_2 (n a fails : Int) (h0 : 0 ≤ n) (h1 : a < n + 1) (h2 : 0 < a) (h3 : n ≤ 100) (h4 : 0 ≤ fails) (h5 : fails ≤ 100) (D : List ByteArray) (T : List Bool) (F : List Int) (hD : D.length = 9) (hT : T.length = 9) :
    HCall Try.prog 8 [dsk (.own 3 0 2) (.own 4 0 1) n n fails false, strs D, bools T, othO 2, cutO a (.own 5 0 F.length), ints F] [.ref 0 0 0, .v (.int .i64 8), .v (.string oth)]
    [.ob (dsk (.v (.slice none 0 0)) (.lst 2 []) (n + 1) (n + 1) (fails + 1) true), .ob (strs (itD F D 3)), .ob (bools (itT F T 3)), .dead, .ob (cutO a (.own 5 0 F.length)), .ob (ints F)] (.v (.int .i64 40)) := by
  have c1 := alive_6 (.own 3 0 2) (.own 4 0 1) n n fails (strs D) (bools T) (othO 2) (cutO a (.own 5 0 F.length)) (ints F)
  have c2 := actfail_6_3 n a fails h0 h1 h2 h3 h4 h5 D T F hD hT
  obtain ⟨L, hL⟩ : ∃ L : Int, (oth.size : Int) = L := ⟨_, rfl⟩
  have hL5 : L = 5 := by rw [← hL]; kernel_rfl
  have g2 : oth.size = 5 := by omega
  have hlen : ((strs D).rows.drop 0).take 9 = D.map fun s => [.v (.string s)] := by rw [List.drop_zero]; exact List.take_of_length_le (by simp [strs, hD])
  have hpad : ((⟨1, List.replicate (256 - L).toNat [SV.v (.int .u8 0)], false⟩ : Ob).rows.drop 0).take (256 - L).toNat = (List.replicate (256 - oth.size) 0).map fun n => [SV.v (.int .u8 n)] := by
    rw [List.drop_zero, List.take_of_length_le (by simp), List.map_replicate]
    have e : (256 - L).toNat = 256 - oth.size := by omega
    show List.replicate (256 - L).toNat _ = _
    rw [e]
  have hpl : (List.replicate (256 - oth.size) (0 : Int)).length = (256 - L).toNat := by rw [List.length_replicate]; omega
  have hfull : abin .add (.string oth) (.string (strOfNums (List.replicate (256 - oth.size) 0))) = some (.string (full oth)) := by
    simp only [abin]
    rw [if_neg (by rw [strOfNums_size, List.length_replicate]; omega)]
    rfl
  refine HCall.of Try.func8 rfl (by decide +kernel) (Nat.le_of_ble_eq_true rfl) ?_
  refine cwp_seq ?_
  apply one_region
  case hc =>
    apply ChainL.of (some 6) rfl rfl
    case h => exact step_assign rfl
    exact .nil
  show Cwp _ _ _ _
  refine cwp_seq ?_
  refine cwp_block ?_
  refine cwp_seq ?_
  apply one_region
  case hc =>
    apply ChainL.of (some 8) rfl rfl
    case h => exact step_move rfl
    apply ChainL.of (some 9) rfl rfl
    case h => exact w_call c1 [] [0, 1, 2, 3, 4, 5] [] Try.func10 rfl (by decide +kernel) rfl rfl .nil (by decide) (map6 rfl (strs_ren _ _) (bools_ren _ _) rfl rfl (ints_ren _ _)) rfl rfl (all6 rfl (strs_lt _ _) (bools_lt _ _) rfl rfl (ints_lt _ _)) rfl (all6 rfl (strs_lt _ _) (bools_lt _ _) rfl rfl (ints_lt _ _)) rfl rfl rfl rfl (zip6 rfl (os_strs _ _) (os_bools _ _) rfl rfl (os_ints _ _))
    apply ChainL.of (some 7) rfl rfl
    case h => exact step_assign rfl
    exact .nil
  show Cwp _ _ _ _
  refine cond_f (by first | rfl | kernel_rfl) ?_
  refine cwp_seq ?_
  apply one_region
  case hc =>
    apply ChainL.of (some 11) rfl rfl
    case h => exact step_move rfl
    apply ChainL.of (some 12) rfl rfl
    case h => (first | exact w_bin rfl rfl rfl (lss_t (by omega)) | exact w_bin rfl rfl rfl (lss_f (by omega)) | exact w_bin rfl rfl rfl rfl)
    apply ChainL.of (some 13) rfl rfl
    case h => exact step_move rfl
    first
    | apply ChainL.off (some 14) 2 13 false rfl rfl rfl rfl
    | apply ChainL.on (some 14) 2 13 false rfl rfl rfl rfl
      case h => exact step_move rfl
    first
    | apply ChainL.off (some 15) 2 13 false rfl rfl rfl rfl
    | apply ChainL.on (some 15) 2 13 false rfl rfl rfl rfl
      case h => exact step_move rfl
    first
    | apply ChainL.off (some 16) 2 13 false rfl rfl rfl rfl
    | apply ChainL.on (some 16) 2 13 false rfl rfl rfl rfl
      case h => (first | exact step_nilCheck rfl rfl | exact step_nilCheck_elt rfl rfl)
    first
    | apply ChainL.off (some 17) 2 13 false rfl rfl rfl rfl
    | apply ChainL.on (some 17) 2 13 false rfl rfl rfl rfl
      case h => (first | exact w_fieldAddr tab rfl rfl rfl rfl (by decide) rfl rfl | exact w_fieldAddr_elt tab rfl rfl rfl rfl (by decide) rfl rfl)
    first
    | apply ChainL.off (some 18) 2 13 false rfl rfl rfl rfl
    | apply ChainL.on (some 18) 2 13 false rfl rfl rfl rfl
      case h => (first | exact w_load tab rfl rfl rfl rfl rfl rfl rfl | exact w_load tab rfl rfl rfl rfl rfl (by assumption) rfl | exact w_load_elt tab rfl rfl rfl rfl rfl | exact w_loads tab rfl rfl rfl rfl rfl rfl rfl rfl | exact w_load_tab tab rfl rfl rfl rfl (.head _) (by kernel_rfl) | exact w_loads_elt tab rfl rfl rfl rfl rfl rfl)
    first
    | apply ChainL.off (some 19) 2 13 false rfl rfl rfl rfl
    | apply ChainL.on (some 19) 2 13 false rfl rfl rfl rfl
      case h => exact w_len tab rfl rfl rfl (.own rfl hlen (by simp [hD])) (n := 9) (by simp [hD])
    first
    | apply ChainL.off (some 20) 2 13 false rfl rfl rfl rfl
    | apply ChainL.on (some 20) 2 13 false rfl rfl rfl rfl
      case h => (first | exact w_bin rfl rfl rfl (geq_t (by omega)) | exact w_bin rfl rfl rfl (geq_f (by omega)) | exact w_bin rfl rfl rfl rfl)
    apply ChainL.of (some 21) rfl rfl
    case h => exact step_pick rfl rfl
    apply ChainL.of (some 10) rfl rfl
    case h => exact step_assign rfl
    exact .nil
  show Cwp _ _ _ _
  refine cond_f (by first | rfl | kernel_rfl) ?_
  refine cwp_seq ?_
  apply one_region
  case hc =>
    apply ChainL.of (some 23) rfl rfl
    case h => exact step_move rfl
    apply ChainL.of (some 24) rfl rfl
    case h => exact w_len_str (T := 9) (by kernel_rfl) rfl rfl hL
    apply ChainL.of (some 25) rfl rfl
    case h => (first | exact w_bin rfl rfl rfl (gtr_t (by omega)) | exact w_bin rfl rfl rfl (gtr_f (by omega)) | exact w_bin rfl rfl rfl rfl)
    apply ChainL.of (some 22) rfl rfl
    case h => exact step_assign rfl
    exact .nil
  show Cwp _ _ _ _
  refine cond_f (by first | rfl | kernel_rfl) ?_
  refine cwp_skip ?_
  show Cwp _ _ _ _
  refine cwp_seq ?_
  apply one_region
  case hc =>
    apply ChainL.of (some 26) rfl rfl
    case h => exact step_move rfl
    apply ChainL.of (some 27) rfl rfl
    case h => exact step_move rfl
    apply ChainL.of (some 28) rfl rfl
    case h => exact w_len_str (T := 9) (by kernel_rfl) rfl rfl hL
    apply ChainL.of (some 29) rfl rfl
    case h => (first | exact w_bin rfl rfl rfl (sub_i64 rfl (by omega) (by omega)) | exact w_bin rfl rfl rfl rfl)
    apply ChainL.of (some 30) rfl rfl
    case h => exact w_makeSlice tab rfl rfl rfl rfl 122 rfl rfl (by omega) (by dsimp only; omega) (by omega) (by decide) rfl rfl
    apply ChainL.of (some 31) rfl rfl
    case h => exact w_str_any (T := 51) (T2 := 9) (e := 5) (by kernel_rfl) (by kernel_rfl) (by kernel_rfl) rfl rfl rfl rfl (List.replicate (256 - oth.size) 0) hpad hpl rfl
    apply ChainL.of (some 32) rfl rfl
    case h => exact w_bin rfl rfl rfl hfull
    apply ChainL.of (some 2) rfl rfl
    case h => exact step_assign rfl
    exact .nil
  show Cwp _ _ _ _
  refine cwp_seq ?_
  apply one_region
  case hc =>
    apply ChainL.of (some 33) rfl rfl
    case h => exact step_move rfl
    apply ChainL.of (some 34) rfl rfl
    case h => exact step_move rfl
    apply ChainL.of (some 35) rfl rfl
    case h => (first | exact step_nilCheck rfl rfl | exact step_nilCheck_elt rfl rfl)
    apply ChainL.of (some 36) rfl rfl
    case h => (first | exact w_fieldAddr tab rfl rfl rfl rfl (by decide) rfl rfl | exact w_fieldAddr_elt tab rfl rfl rfl rfl (by decide) rfl rfl)
    apply ChainL.of (some 37) rfl rfl
    case h => (first | exact w_load tab rfl rfl rfl rfl rfl rfl rfl | exact w_load tab rfl rfl rfl rfl rfl (by assumption) rfl | exact w_load_elt tab rfl rfl rfl rfl rfl | exact w_loads tab rfl rfl rfl rfl rfl rfl rfl rfl | exact w_load_tab tab rfl rfl rfl rfl (.head _) (by kernel_rfl) | exact w_loads_elt tab rfl rfl rfl rfl rfl rfl)
    apply ChainL.of (some 38) rfl rfl
    case h => exact step_move rfl
    apply ChainL.of (some 39) rfl rfl
    case h => exact step_move rfl
    apply ChainL.of (some 40) rfl rfl
    case h => exact w_build tab rfl rfl (by decide) rfl rfl
    apply ChainL.of (some 41) rfl rfl
    case h => exact w_slice1 tab rfl rfl rfl rfl 123 (by decide) (by decide) rfl rfl rfl
    apply ChainL.of (some 42) rfl rfl
    case h => (first | exact w_append_nil_own tab rfl rfl rfl rfl rfl rfl 6 (by decide) rfl rfl rfl rfl rfl rfl rfl (Nat.le_of_ble_eq_true rfl) rfl (Nat.le_of_ble_eq_true rfl) (Nat.le_of_ble_eq_true rfl) rfl | (apply w_append_own (id' := 6) tab rfl rfl rfl rfl rfl rfl; (case hm0 => decide); (case hx => first | exact rfl | exact Nat.le_of_ble_eq_true rfl); (case hob => first | exact rfl | exact Nat.le_of_ble_eq_true rfl); (case him => first | exact rfl | exact Nat.le_of_ble_eq_true rfl); (case hfz => first | exact rfl | exact Nat.le_of_ble_eq_true rfl); (case hrx => first | exact rfl | exact Nat.le_of_ble_eq_true rfl); (case hlx => first | exact rfl | exact Nat.le_of_ble_eq_true rfl); (case hy => first | exact rfl | exact Nat.le_of_ble_eq_true rfl); (case hob2 => first | exact rfl | exact Nat.le_of_ble_eq_true rfl); (case hm => first | exact rfl | exact Nat.le_of_ble_eq_true rfl); (case hr => first | exact rfl | exact Nat.le_of_ble_eq_true rfl); (case hrl => first | exact rfl | exact Nat.le_of_ble_eq_true rfl); (case hone => first | exact rfl | exact Nat.le_of_ble_eq_true rfl); (case honex => first | exact rfl | exact Nat.le_of_ble_eq_true rfl); (case hid => first | exact rfl | exact Nat.le_of_ble_eq_true rfl); (case hlim => first | exact rfl | exact Nat.le_of_ble_eq_true rfl); (case h63 => first | exact rfl | exact Nat.le_of_ble_eq_true rfl); (case hn => first | exact rfl | exact Nat.le_of_ble_eq_true rfl); (case hrows => first | exact rfl | exact Nat.le_of_ble_eq_true rfl)))
    apply ChainL.of (some 43) rfl rfl
    case h => (first | exact step_nilCheck rfl rfl | exact step_nilCheck_elt rfl rfl)
    apply ChainL.of (some 44) rfl rfl
    case h => (first | exact w_fieldAddr tab rfl rfl rfl rfl (by decide) rfl rfl | exact w_fieldAddr_elt tab rfl rfl rfl rfl (by decide) rfl rfl)
    apply ChainL.of none rfl rfl
    case h => (first | exact w_store tab rfl rfl rfl rfl rfl rfl rfl rfl rfl (Nat.le_of_ble_eq_true rfl) rfl rfl | exact w_store tab rfl rfl rfl rfl rfl (by assumption) rfl rfl rfl (Nat.le_of_ble_eq_true rfl) rfl rfl)
    exact .nil
  show Cwp _ _ _ _
  refine cwp_seq ?_
  refine cwp_seq ?_
  apply one_region
  case hc =>
    apply ChainL.of (some 45) rfl rfl
    case h => exact step_move rfl
    apply ChainL.of (some 46) rfl rfl
    case h => exact w_call c2 [] [0, 1, 2, 6, 4, 5] [] Try.func20 rfl (by decide +kernel) rfl rfl .nil (by decide) (map6 rfl (strs_ren _ _) (bools_ren _ _) rfl rfl (ints_ren _ _)) rfl rfl (all6 rfl (strs_lt _ _) (bools_lt _ _) rfl rfl (ints_lt _ _)) rfl (all6 rfl (strs_lt _ _) (bools_lt _ _) rfl rfl (ints_lt _ _)) rfl rfl rfl rfl (zip6 rfl (os_strs _ _) (os_bools _ _) rfl rfl (os_ints _ _))
    exact .nil
  show Cwp _ _ _ _
  refine cond_t (by first | rfl | kernel_rfl) ?_
  refine cwp_seq ?_
  apply one_region
  case hc =>
    apply ChainL.of (some 6) rfl rfl
    case h => exact step_assign rfl
    exact .nil
  show Cwp _ _ _ _
  refine cwp_ret ?_
  exact ⟨.inl rfl, resH_one rfl rfl, objs_ok rfl⟩
theorem wok_6_3 (n a fails : Int) (h0 : 0 ≤ n) (h1 : n + 1 ≤ a) (h2 : a ≤ 100) (D : List ByteArray) (T : List Bool) (F : List Int) (hD : D.length = 9) :
    HCall Try.prog 8 [dsk (.own 3 0 3) (.own 4 0 1) n n fails false, strs D, bools T, othO 3, cutO a (.own 5 0 F.length), ints F] [.ref 0 0 0, .v (.int .i64 8), .v (.string oth)]
    [.ob (dsk (.own 6 0 4) (.own 4 0 1) (n + 1) (n + 1) fails false), .ob (strs D), .ob (bools T), .dead, .ob (cutO a (.own 5 0 F.length)), .ob (ints F), .ob (othO 4)] (.v (.int .i64 0)) := by
  have c1 := alive_6 (.own 3 0 3) (.own 4 0 1) n n fails (strs D) (bools T) (othO 3) (cutO a (.own 5 0 F.length)) (ints F)
  have c2 := actok_6 4 n a fails (.own 5 0 F.length) h0 h1 h2 D T (othO 4) (ints F)
  obtain ⟨L, hL⟩ : ∃ L : Int, (oth.size : Int) = L := ⟨_, rfl⟩
  have hL5 : L = 5 := by rw [← hL]; kernel_rfl
  have g2 : oth.size = 5 := by omega
  have hlen : ((strs D).rows.drop 0).take 9 = D.map fun s => [.v (.string s)] := by rw [List.drop_zero]; exact List.take_of_length_le (by simp [strs, hD])
  have hpad : ((⟨1, List.replicate (256 - L).toNat [SV.v (.int .u8 0)], false⟩ : Ob).rows.drop 0).take (256 - L).toNat = (List.replicate (256 - oth.size) 0).map fun n => [SV.v (.int .u8 n)] := by
    rw [List.drop_zero, List.take_of_length_le (by simp), List.map_replicate]
    have e : (256 - L).toNat = 256 - oth.size := by omega
    show List.replicate (256 - L).toNat _ = _
    rw [e]
  have hpl : (List.replicate (256 - oth.size) (0 : Int)).length = (256 - L).toNat := by rw [List.length_replicate]; omega
  have hfull : abin .add (.string oth) (.string (strOfNums (List.replicate (256 - oth.size) 0))) = some (.string (full oth)) := by
    simp only [abin]
    rw [if_neg (by rw [strOfNums_size, List.length_replicate]; omega)]
    rfl
  refine HCall.of Try.func8 rfl (by decide +kernel) (Nat.le_of_ble_eq_true rfl) ?_
  refine cwp_seq ?_
  apply one_region
  case hc =>
    apply ChainL.of (some 6) rfl rfl
    case h => exact step_assign rfl
    exact .nil
  show Cwp _ _ _ _
  refine cwp_seq ?_
  refine cwp_block ?_
  refine cwp_seq ?_
  apply one_region
  case hc =>
    apply ChainL.of (some 8) rfl rfl
    case h => exact step_move rfl
    apply ChainL.of (some 9) rfl rfl
    case h => exact w_call c1 [] [0, 1, 2, 3, 4, 5] [] Try.func10 rfl (by decide +kernel) rfl rfl .nil (by decide) (map6 rfl (strs_ren _ _) (bools_ren _ _) rfl rfl (ints_ren _ _)) rfl rfl (all6 rfl (strs_lt _ _) (bools_lt _ _) rfl rfl (ints_lt _ _)) rfl (all6 rfl (strs_lt _ _) (bools_lt _ _) rfl rfl (ints_lt _ _)) rfl rfl rfl rfl (zip6 rfl (os_strs _ _) (os_bools _ _) rfl rfl (os_ints _ _))
    apply ChainL.of (some 7) rfl rfl
    case h => exact step_assign rfl
    exact .nil
  show Cwp _ _ _ _
  refine cond_f (by first | rfl | kernel_rfl) ?_
  refine cwp_seq ?_
  apply one_region
  case hc =>
    apply ChainL.of (some 11) rfl rfl
    case h => exact step_move rfl
    apply ChainL.of (some 12) rfl rfl
    case h => (first | exact w_bin rfl rfl rfl (lss_t (by omega)) | exact w_bin rfl rfl rfl (lss_f (by omega)) | exact w_bin rfl rfl rfl rfl)
    apply ChainL.of (some 13) rfl rfl
    case h => exact step_move rfl
    first
    | apply ChainL.off (some 14) 2 13 false rfl rfl rfl rfl
    | apply ChainL.on (some 14) 2 13 false rfl rfl rfl rfl
      case h => exact step_move rfl
    first
    | apply ChainL.off (some 15) 2 13 false rfl rfl rfl rfl
    | apply ChainL.on (some 15) 2 13 false rfl rfl rfl rfl
      case h => exact step_move rfl
    first
    | apply ChainL.off (some 16) 2 13 false rfl rfl rfl rfl
    | apply ChainL.on (some 16) 2 13 false rfl rfl rfl rfl
      case h => (first | exact step_nilCheck rfl rfl | exact step_nilCheck_elt rfl rfl)
    first
    | apply ChainL.off (some 17) 2 13 false rfl rfl rfl rfl
    | apply ChainL.on (some 17) 2 13 false rfl rfl rfl rfl
      case h => (first | exact w_fieldAddr tab rfl rfl rfl rfl (by decide) rfl rfl | exact w_fieldAddr_elt tab rfl rfl rfl rfl (by decide) rfl rfl)
    first
    | apply ChainL.off (some 18) 2 13 false rfl rfl rfl rfl
    | apply ChainL.on (some 18) 2 13 false rfl rfl rfl rfl
      case h => (first | exact w_load tab rfl rfl rfl rfl rfl rfl rfl | exact w_load tab rfl rfl rfl rfl rfl (by assumption) rfl | exact w_load_elt tab rfl rfl rfl rfl rfl | exact w_loads tab rfl rfl rfl rfl rfl rfl rfl rfl | exact w_load_tab tab rfl rfl rfl rfl (.head _) (by kernel_rfl) | exact w_loads_elt tab rfl rfl rfl rfl rfl rfl)
    first
    | apply ChainL.off (some 19) 2 13 false rfl rfl rfl rfl
    | apply ChainL.on (some 19) 2 13 false rfl rfl rfl rfl
      case h => exact w_len tab rfl rfl rfl (.own rfl hlen (by simp [hD])) (n := 9) (by simp [hD])
    first
    | apply ChainL.off (some 20) 2 13 false rfl rfl rfl rfl
    | apply ChainL.on (some 20) 2 13 false rfl rfl rfl rfl
      case h => (first | exact w_bin rfl rfl rfl (geq_t (by omega)) | exact w_bin rfl rfl rfl (geq_f (by omega)) | exact w_bin rfl rfl rfl rfl)
    apply ChainL.of (some 21) rfl rfl
    case h => exact step_pick rfl rfl
    apply ChainL.of (some 10) rfl rfl
    case h => exact step_assign rfl
    exact .nil
  show Cwp _ _ _ _
  refine cond_f (by first | rfl | kernel_rfl) ?_
  refine cwp_seq ?_
  apply one_region
  case hc =>
    apply ChainL.of (some 23) rfl rfl
    case h => exact step_move rfl
    apply ChainL.of (some 24) rfl rfl
    case h => exact w_len_str (T := 9) (by kernel_rfl) rfl rfl hL
    apply ChainL.of (some 25) rfl rfl
    case h => (first | exact w_bin rfl rfl rfl (gtr_t (by omega)) | exact w_bin rfl rfl rfl (gtr_f (by omega)) | exact w_bin rfl rfl rfl rfl)
    apply ChainL.of (some 22) rfl rfl
    case h => exact step_assign rfl
    exact .nil
  show Cwp _ _ _ _
  refine cond_f (by first | rfl | kernel_rfl) ?_
  refine cwp_skip ?_
  show Cwp _ _ _ _
  refine cwp_seq ?_
  apply one_region
  case hc =>
    apply ChainL.of (some 26) rfl rfl
    case h => exact step_move rfl
    apply ChainL.of (some 27) rfl rfl
    case h => exact step_move rfl
    apply ChainL.of (some 28) rfl rfl
    case h => exact w_len_str (T := 9) (by kernel_rfl) rfl rfl hL
    apply ChainL.of (some 29) rfl rfl
    case h => (first | exact w_bin rfl rfl rfl (sub_i64 rfl (by omega) (by omega)) | exact w_bin rfl rfl rfl rfl)
    apply ChainL.of (some 30) rfl rfl
    case h => exact w_makeSlice tab rfl rfl rfl rfl 124 rfl rfl (by omega) (by dsimp only; omega) (by omega) (by decide) rfl rfl
    apply ChainL.of (some 31) rfl rfl
    case h => exact w_str_any (T := 51) (T2 := 9) (e := 5) (by kernel_rfl) (by kernel_rfl) (by kernel_rfl) rfl rfl rfl rfl (List.replicate (256 - oth.size) 0) hpad hpl rfl
    apply ChainL.of (some 32) rfl rfl
    case h => exact w_bin rfl rfl rfl hfull
    apply ChainL.of (some 2) rfl rfl
    case h => exact step_assign rfl
    exact .nil
  show Cwp _ _ _ _
  refine cwp_seq ?_
  apply one_region
  case hc =>
    apply ChainL.of (some 33) rfl rfl
    case h => exact step_move rfl
    apply ChainL.of (some 34) rfl rfl
    case h => exact step_move rfl
    apply ChainL.of (some 35) rfl rfl
    case h => (first | exact step_nilCheck rfl rfl | exact step_nilCheck_elt rfl rfl)
    apply ChainL.of (some 36) rfl rfl
    case h => (first | exact w_fieldAddr tab rfl rfl rfl rfl (by decide) rfl rfl | exact w_fieldAddr_elt tab rfl rfl rfl rfl (by decide) rfl rfl)
    apply ChainL.of (some 37) rfl rfl
    case h => (first | exact w_load tab rfl rfl rfl rfl rfl rfl rfl | exact w_load tab rfl rfl rfl rfl rfl (by assumption) rfl | exact w_load_elt tab rfl rfl rfl rfl rfl | exact w_loads tab rfl rfl rfl rfl rfl rfl rfl rfl | exact w_load_tab tab rfl rfl rfl rfl (.head _) (by kernel_rfl) | exact w_loads_elt tab rfl rfl rfl rfl rfl rfl)
    apply ChainL.of (some 38) rfl rfl
    case h => exact step_move rfl
    apply ChainL.of (some 39) rfl rfl
    case h => exact step_move rfl
    apply ChainL.of (some 40) rfl rfl
    case h => exact w_build tab rfl rfl (by decide) rfl rfl
    apply ChainL.of (some 41) rfl rfl
    case h => exact w_slice1 tab rfl rfl rfl rfl 125 (by decide) (by decide) rfl rfl rfl
    apply ChainL.of (some 42) rfl rfl
    case h => (first | exact w_append_nil_own tab rfl rfl rfl rfl rfl rfl 6 (by decide) rfl rfl rfl rfl rfl rfl rfl (Nat.le_of_ble_eq_true rfl) rfl (Nat.le_of_ble_eq_true rfl) (Nat.le_of_ble_eq_true rfl) rfl | (apply w_append_own (id' := 6) tab rfl rfl rfl rfl rfl rfl; (case hm0 => decide); (case hx => first | exact rfl | exact Nat.le_of_ble_eq_true rfl); (case hob => first | exact rfl | exact Nat.le_of_ble_eq_true rfl); (case him => first | exact rfl | exact Nat.le_of_ble_eq_true rfl); (case hfz => first | exact rfl | exact Nat.le_of_ble_eq_true rfl); (case hrx => first | exact rfl | exact Nat.le_of_ble_eq_true rfl); (case hlx => first | exact rfl | exact Nat.le_of_ble_eq_true rfl); (case hy => first | exact rfl | exact Nat.le_of_ble_eq_true rfl); (case hob2 => first | exact rfl | exact Nat.le_of_ble_eq_true rfl); (case hm => first | exact rfl | exact Nat.le_of_ble_eq_true rfl); (case hr => first | exact rfl | exact Nat.le_of_ble_eq_true rfl); (case hrl => first | exact rfl | exact Nat.le_of_ble_eq_true rfl); (case hone => first | exact rfl | exact Nat.le_of_ble_eq_true rfl); (case honex => first | exact rfl | exact Nat.le_of_ble_eq_true rfl); (case hid => first | exact rfl | exact Nat.le_of_ble_eq_true rfl); (case hlim => first | exact rfl | exact Nat.le_of_ble_eq_true rfl); (case h63 => first | exact rfl | exact Nat.le_of_ble_eq_true rfl); (case hn => first | exact rfl | exact Nat.le_of_ble_eq_true rfl); (case hrows => first | exact rfl | exact Nat.le_of_ble_eq_true rfl)))
    apply ChainL.of (some 43) rfl rfl
    case h => (first | exact step_nilCheck rfl rfl | exact step_nilCheck_elt rfl rfl)
    apply ChainL.of (some 44) rfl rfl
    case h => (first | exact w_fieldAddr tab rfl rfl rfl rfl (by decide) rfl rfl | exact w_fieldAddr_elt tab rfl rfl rfl rfl (by decide) rfl rfl)
    apply ChainL.of none rfl rfl
    case h => (first | exact w_store tab rfl rfl rfl rfl rfl rfl rfl rfl rfl (Nat.le_of_ble_eq_true rfl) rfl rfl | exact w_store tab rfl rfl rfl rfl rfl (by assumption) rfl rfl rfl (Nat.le_of_ble_eq_true rfl) rfl rfl)
    exact .nil
  show Cwp _ _ _ _
  refine cwp_seq ?_
  refine cwp_seq ?_
  apply one_region
  case hc =>
    apply ChainL.of (some 45) rfl rfl
    case h => exact step_move rfl
    apply ChainL.of (some 46) rfl rfl
    case h => exact w_call c2 [] [0, 1, 2, 6, 4, 5] [] Try.func20 rfl (by decide +kernel) rfl rfl .nil (by decide) (map6 rfl (strs_ren _ _) (bools_ren _ _) rfl rfl (ints_ren _ _)) rfl rfl (all6 rfl (strs_lt _ _) (bools_lt _ _) rfl rfl (ints_lt _ _)) rfl (all6 rfl (strs_lt _ _) (bools_lt _ _) rfl rfl (ints_lt _ _)) rfl rfl rfl rfl (zip6 rfl (os_strs _ _) (os_bools _ _) rfl rfl (os_ints _ _))
    exact .nil
  show Cwp _ _ _ _
  refine cond_f (by first | rfl | kernel_rfl) ?_
  refine cwp_skip ?_
  show Cwp _ _ _ _
  refine cwp_seq ?_
  apply one_region
  case hc =>
    apply ChainL.of (some 6) rfl rfl
    case h => exact step_assign rfl
    exact .nil
  show Cwp _ _ _ _
  refine cwp_ret ?_
  exact ⟨.inl rfl, resH_one rfl rfl, objs_ok rfl⟩
theorem wfail_6_3 (n a fails : Int) (h0 : 0 ≤ n) (h1 : a < n + 1) (h2 : 0 < a) (h3 : n ≤ 100) (h4 : 0 ≤ fails) (h5 : fails ≤ 100) (D : List ByteArray) (T : List Bool) (F : List Int) (hD : D.length = 9) (hT : T.length = 9) :
    HCall Try.prog 8 [dsk (.own 3 0 3) (.own 4 0 1) n n fails false, strs D, bools T, othO 3, cutO a (.own 5 0 F.length), ints F] [.ref 0 0 0, .v (.int .i64 8), .v (.string oth)]
    [.ob (dsk (.v (.slice none 0 0)) (.lst 2 []) (n + 1) (n + 1) (fails + 1) true), .ob (strs (itD F D 4)), .ob (bools (itT F T 4)), .dead, .ob (cutO a (.own 5 0 F.length)), .ob (ints F)] (.v (.int .i64 40)) := by
  have c1 := alive_6 (.own 3 0 3) (.own 4 0 1) n n fails (strs D) (bools T) (othO 3) (cutO a (.own 5 0 F.length)) (ints F)
  have c2 := actfail_6_4 n a fails h0 h1 h2 h3 h4 h5 D T F hD hT
  obtain ⟨L, hL⟩ : ∃ L : Int, (oth.size : Int) = L := ⟨_, rfl⟩
  have hL5 : L = 5 := by rw [← hL]; kernel_rfl
  have g2 : oth.size = 5 := by omega
  have hlen : ((strs D).rows.drop 0).take 9 = D.map fun s => [.v (.string s)] := by rw [List.drop_zero]; exact List.take_of_length_le (by simp [strs, hD])
  have hpad : ((⟨1, List.replicate (256 - L).toNat [SV.v (.int .u8 0)], false⟩ : Ob).rows.drop 0).take (256 - L).toNat = (List.replicate (256 - oth.size) 0).map fun n => [SV.v (.int .u8 n)] := by
    rw [List.drop_zero, List.take_of_length_le (by simp), List.map_replicate]
    have e : (256 - L).toNat = 256 - oth.size := by omega
    show List.replicate (256 - L).toNat _ = _
    rw [e]
  have hpl : (List.replicate (256 - oth.size) (0 : Int)).length = (256 - L).toNat := by rw [List.length_replicate]; omega
  have hfull : abin .add (.string oth) (.string (strOfNums (List.replicate (256 - oth.size) 0))) = some (.string (full oth)) := by
    simp only [abin]
    rw [if_neg (by rw [strOfNums_size, List.length_replicate]; omega)]
    rfl
  refine HCall.of Try.func8 rfl (by decide +kernel) (Nat.le_of_ble_eq_true rfl) ?_
  refine cwp_seq ?_
  apply one_region
  case hc =>
    apply ChainL.of (some 6) rfl rfl
    case h => exact step_assign rfl
    exact .nil
  show Cwp _ _ _ _
  refine cwp_seq ?_
  refine cwp_block ?_
  refine cwp_seq ?_
  apply one_region
  case hc =>
    apply ChainL.of (some 8) rfl rfl
    case h => exact step_move rfl
    apply ChainL.of (some 9) rfl rfl
    case h => exact w_call c1 [] [0, 1, 2, 3, 4, 5] [] Try.func10 rfl (by decide +kernel) rfl rfl .nil (by decide) (map6 rfl (strs_ren _ _) (bools_ren _ _) rfl rfl (ints_ren _ _)) rfl rfl (all6 rfl (strs_lt _ _) (bools_lt _ _) rfl rfl (ints_lt _ _)) rfl (all6 rfl (strs_lt _ _) (bools_lt _ _) rfl rfl (ints_lt _ _)) rfl rfl rfl rfl (zip6 rfl (os_strs _ _) (os_bools _ _) rfl rfl (os_ints _ _))
    apply ChainL.of (some 7) rfl rfl
    case h => exact step_assign rfl
    exact .nil
  show Cwp _ _ _ _
  refine cond_f (by first | rfl | kernel_rfl) ?_
  refine cwp_seq ?_
  apply one_region
  case hc =>
    apply ChainL.of (some 11) rfl rfl
    case h => exact step_move rfl
    apply ChainL.of (some 12) rfl rfl
    case h => (first | exact w_bin rfl rfl rfl (lss_t (by omega)) | exact w_bin rfl rfl rfl (lss_f (by omega)) | exact w_bin rfl rfl rfl rfl)
    apply ChainL.of (some 13) rfl rfl
    case h => exact step_move rfl
    first
    | apply ChainL.off (some 14) 2 13 false rfl rfl rfl rfl
    | apply ChainL.on (some 14) 2 13 false rfl rfl rfl rfl
      case h => exact step_move rfl
    first
    | apply ChainL.off (some 15) 2 13 false rfl rfl rfl rfl
    | apply ChainL.on (some 15) 2 13 false rfl rfl rfl rfl
      case h => exact step_move rfl
    first
    | apply ChainL.off (some 16) 2 13 false rfl rfl rfl rfl
    | apply ChainL.on (some 16) 2 13 false rfl rfl rfl rfl
      case h => (first | exact step_nilCheck rfl rfl | exact step_nilCheck_elt rfl rfl)
    first
    | apply ChainL.off (some 17) 2 13 false rfl rfl rfl rfl
    | apply ChainL.on (some 17) 2 13 false rfl rfl rfl rfl
      case h => (first | exact w_fieldAddr tab rfl rfl rfl rfl (by decide) rfl rfl | exact w_fieldAddr_elt tab rfl rfl rfl rfl (by decide) rfl rfl)
    first
    | apply ChainL.off (some 18) 2 13 false rfl rfl rfl rfl
    | apply ChainL.on (some 18) 2 13 false rfl rfl rfl rfl
      case h => (first | exact w_load tab rfl rfl rfl rfl rfl rfl rfl | exact w_load tab rfl rfl rfl rfl rfl (by assumption) rfl | exact w_load_elt tab rfl rfl rfl rfl rfl | exact w_loads tab rfl rfl rfl rfl rfl rfl rfl rfl | exact w_load_tab tab rfl rfl rfl rfl (.head _) (by kernel_rfl) | exact w_loads_elt tab rfl rfl rfl rfl rfl rfl)
    first
    | apply ChainL.off (some 19) 2 13 false rfl rfl rfl rfl
    | apply ChainL.on (some 19) 2 13 false rfl rfl rfl rfl
      case h => exact w_len tab rfl rfl rfl (.own rfl hlen (by simp [hD])) (n := 9) (by simp [hD])
    first
    | apply ChainL.off (some 20) 2 13 false rfl rfl rfl rfl
    | apply ChainL.on (some 20) 2 13 false rfl rfl rfl rfl
      case h => (first | exact w_bin rfl rfl rfl (geq_t (by omega)) | exact w_bin rfl rfl rfl (geq_f (by omega)) | exact w_bin rfl rfl rfl rfl)
    apply ChainL.of (some 21) rfl rfl
    case h => exact step_pick rfl rfl
    apply ChainL.of (some 10) rfl rfl
    case h => exact step_assign rfl
    exact .nil
  show Cwp _ _ _ _
  refine cond_f (by first | rfl | kernel_rfl) ?_
  refine cwp_seq ?_
  apply one_region
  case hc =>
    apply ChainL.of (some 23) rfl rfl
    case h => exact step_move rfl
    apply ChainL.of (some 24) rfl rfl
    case h => exact w_len_str (T := 9) (by kernel_rfl) rfl rfl hL
    apply ChainL.of (some 25) rfl rfl
    case h => (first | exact w_bin rfl rfl rfl (gtr_t (by omega)) | exact w_bin rfl rfl rfl (gtr_f (by omega)) | exact w_bin rfl rfl rfl rfl)
    apply ChainL.of (some 22) rfl rfl
    case h => exact step_assign rfl
    exact .nil
  show Cwp _ _ _ _
  refine cond_f (by first | rfl | kernel_rfl) ?_
  refine cwp_skip ?_
  show Cwp _ _ _ _
  refine cwp_seq ?_
  apply one_region
  case hc =>
    apply ChainL.of (some 26) rfl rfl
    case h => exact step_move rfl
    apply ChainL.of (some 27) rfl rfl
    case h => exact step_move rfl
    apply ChainL.of (some 28) rfl rfl
    case h => exact w_len_str (T := 9) (by kernel_rfl) rfl rfl hL
    apply ChainL.of (some 29) rfl rfl
    case h => (first | exact w_bin rfl rfl rfl (sub_i64 rfl (by omega) (by omega)) | exact w_bin rfl rfl rfl rfl)
    apply ChainL.of (some 30) rfl rfl
    case h => exact w_makeSlice tab rfl rfl rfl rfl 126 rfl rfl (by omega) (by dsimp only; omega) (by omega) (by decide) rfl rfl
    apply ChainL.of (some 31) rfl rfl
    case h => exact w_str_any (T := 51) (T2 := 9) (e := 5) (by kernel_rfl) (by kernel_rfl) (by kernel_rfl) rfl rfl rfl rfl (List.replicate (256 - oth.size) 0) hpad hpl rfl
    apply ChainL.of (some 32) rfl rfl
    case h => exact w_bin rfl rfl rfl hfull
    apply ChainL.of (some 2) rfl rfl
    case h => exact step_assign rfl
    exact .nil
  show Cwp _ _ _ _
  refine cwp_seq ?_
  apply one_region
  case hc =>
    apply ChainL.of (some 33) rfl rfl
    case h => exact step_move rfl
    apply ChainL.of (some 34) rfl rfl
    case h => exact step_move rfl
    apply ChainL.of (some 35) rfl rfl
    case h => (first | exact step_nilCheck rfl rfl | exact step_nilCheck_elt rfl rfl)
    apply ChainL.of (some 36) rfl rfl
    case h => (first | exact w_fieldAddr tab rfl rfl rfl rfl (by decide) rfl rfl | exact w_fieldAddr_elt tab rfl rfl rfl rfl (by decide) rfl rfl)
    apply ChainL.of (some 37) rfl rfl
    case h => (first | exact w_load tab rfl rfl rfl rfl rfl rfl rfl | exact w_load tab rfl rfl rfl rfl rfl (by assumption) rfl | exact w_load_elt tab rfl rfl rfl rfl rfl | exact w_loads tab rfl rfl rfl rfl rfl rfl rfl rfl | exact w_load_tab tab rfl rfl rfl rfl (.head _) (by kernel_rfl) | exact w_loads_elt tab rfl rfl rfl rfl rfl rfl)
    apply ChainL.of (some 38) rfl rfl
    case h => exact step_move rfl
    apply ChainL.of (some 39) rfl rfl
    case h => exact step_move rfl
    apply ChainL.of (some 40) rfl rfl
    case h => exact w_build tab rfl rfl (by decide) rfl rfl
    apply ChainL.of (some 41) rfl rfl
    case h => exact w_slice1 tab rfl rfl rfl rfl 127 (by decide) (by decide) rfl rfl rfl
    apply ChainL.of (some 42) rfl rfl
    case h => (first | exact w_append_nil_own tab rfl rfl rfl rfl rfl rfl 6 (by decide) rfl rfl rfl rfl rfl rfl rfl (Nat.le_of_ble_eq_true rfl) rfl (Nat.le_of_ble_eq_true rfl) (Nat.le_of_ble_eq_true rfl) rfl | (apply w_append_own (id' := 6) tab rfl rfl rfl rfl rfl rfl; (case hm0 => decide); (case hx => first | exact rfl | exact Nat.le_of_ble_eq_true rfl); (case hob => first | exact rfl | exact Nat.le_of_ble_eq_true rfl); (case him => first | exact rfl | exact Nat.le_of_ble_eq_true rfl); (case hfz => first | exact rfl | exact Nat.le_of_ble_eq_true rfl); (case hrx => first | exact rfl | exact Nat.le_of_ble_eq_true rfl); (case hlx => first | exact rfl | exact Nat.le_of_ble_eq_true rfl); (case hy => first | exact rfl | exact Nat.le_of_ble_eq_true rfl); (case hob2 => first | exact rfl | exact Nat.le_of_ble_eq_true rfl); (case hm => first | exact rfl | exact Nat.le_of_ble_eq_true rfl); (case hr => first | exact rfl | exact Nat.le_of_ble_eq_true rfl); (case hrl => first | exact rfl | exact Nat.le_of_ble_eq_true rfl); (case hone => first | exact rfl | exact Nat.le_of_ble_eq_true rfl); (case honex => first | exact rfl | exact Nat.le_of_ble_eq_true rfl); (case hid => first | exact rfl | exact Nat.le_of_ble_eq_true rfl); (case hlim => first | exact rfl | exact Nat.le_of_ble_eq_true rfl); (case h63 => first | exact rfl | exact Nat.le_of_ble_eq_true rfl); (case hn => first | exact rfl | exact Nat.le_of_ble_eq_true rfl); (case hrows => first | exact rfl | exact Nat.le_of_ble_eq_true rfl)))
    apply ChainL.of (some 43) rfl rfl
    case h => (first | exact step_nilCheck rfl rfl | exact step_nilCheck_elt rfl rfl)
    apply ChainL.of (some 44) rfl rfl
    case h => (first | exact w_fieldAddr tab rfl rfl rfl rfl (by decide) rfl rfl | exact w_fieldAddr_elt tab rfl rfl rfl rfl (by decide) rfl rfl)
    apply ChainL.of none rfl rfl
    case h => (first | exact w_store tab rfl rfl rfl rfl rfl rfl rfl rfl rfl (Nat.le_of_ble_eq_true rfl) rfl rfl | exact w_store tab rfl rfl rfl rfl rfl (by assumption) rfl rfl rfl (Nat.le_of_ble_eq_true rfl) rfl rfl)
    exact .nil
  show Cwp _ _ _ _
  refine cwp_seq ?_
  refine cwp_seq ?_
  apply one_region
  case hc =>
    apply ChainL.of (some 45) rfl rfl
    case h => exact step_move rfl
    apply ChainL.of (some 46) rfl rfl
    case h => exact w_call c2 [] [0, 1, 2, 6, 4, 5] [] Try.func20 rfl (by decide +kernel) rfl rfl .nil (by decide) (map6 rfl (strs_ren _ _) (bools_ren _ _) rfl rfl (ints_ren _ _)) rfl rfl (all6 rfl (strs_lt _ _) (bools_lt _ _) rfl rfl (ints_lt _ _)) rfl (all6 rfl (strs_lt _ _) (bools_lt _ _) rfl rfl (ints_lt _ _)) rfl rfl rfl rfl (zip6 rfl (os_strs _ _) (os_bools _ _) rfl rfl (os_ints _ _))
    exact .nil
  show Cwp _ _ _ _
  refine cond_t (by first | rfl | kernel_rfl) ?_
  refine cwp_seq ?_
  apply one_region
  case hc =>
    apply ChainL.of (some 6) rfl rfl
    case h => exact step_assign rfl
    exact .nil
  show Cwp _ _ _ _
  refine cwp_ret ?_
  exact ⟨.inl rfl, resH_one rfl rfl, objs_ok rfl⟩
end Go.Proofs.Ytcbbpidnocgoiaa.Dk


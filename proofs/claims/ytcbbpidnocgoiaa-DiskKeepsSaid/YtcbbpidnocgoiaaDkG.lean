/- Disks: flushing, and reading again. -/
import Derived.Test.YtcbbpidnocgoiaaDkF
namespace Go.Proofs.Ytcbbpidnocgoiaa.Dk
open Go Go.RowKit Go.Proofs.Ytcbbpidnocgoiaa.Eng
set_option linter.unusedVariables false
set_option linter.unusedSimpArgs false
set_option maxRecDepth 20000
theorem flush_5 (n a fails : Int) (h0 : 0 ≤ n) (h1 : n + 1 ≤ a) (h2 : a ≤ 100) (D : List ByteArray) (T : List Bool) (q : Nat) (g1 : q < 9) (t d0 : ByteArray) (t0 : Bool) (hd : D[q]? = some d0) (ht : T[q]? = some t0) :
    HCall Try.prog 9 [dsk (.own 3 0 1) (.own 4 0 1) n n fails false, strs D, bools T, waitO q t, cutO a (.v (.slice none 0 0))] [.ref 0 0 0]
    [.ob (dsk (.v (.slice none 0 0)) (.own 4 0 1) (n + 1) (n + 1) fails false), .ob (strs (D.set q (full t))), .ob (bools (T.set q false)), .ob (waitO q t), .ob (cutO a (.v (.slice none 0 0)))] (.v (.int .i64 0)) := by
  have c1 := alive_5 (.own 3 0 1) (.own 4 0 1) n n fails (strs D) (bools T) (waitO q t) (cutO a (.v (.slice none 0 0)))
  have c2 := actok_5 1 n a fails (.v (.slice none 0 0)) h0 h1 h2 D T (waitO q t)
  have c3 := settle1_5 q (full t) (.own 3 0 1) (.own 4 0 1) (n + 1) (n + 1) fails false D T (waitO q t) (cutO a (.v (.slice none 0 0))) g1 d0 hd t0 ht
  refine HCall.of Try.func9 rfl (by decide +kernel) (Nat.le_of_ble_eq_true rfl) ?_
  refine cwp_seq ?_
  apply one_region
  case hc =>
    apply ChainL.of (some 2) rfl rfl
    case h => exact step_assign rfl
    exact .nil
  show Cwp _ _ _ _
  refine cwp_seq ?_
  refine cwp_seq ?_
  apply one_region
  case hc =>
    apply ChainL.of (some 5) rfl rfl
    case h => exact step_move rfl
    apply ChainL.of (some 6) rfl rfl
    case h => exact w_call c1 [] [0, 1, 2, 3, 4] [] Try.func10 rfl (by decide +kernel) rfl rfl .nil (by decide) (map5 rfl (strs_ren _ _) (bools_ren _ _) rfl rfl) rfl rfl (all5 rfl (strs_lt _ _) (bools_lt _ _) rfl rfl) rfl (all5 rfl (strs_lt _ _) (bools_lt _ _) rfl rfl) rfl rfl rfl rfl (zip5 rfl (os_strs _ _) (os_bools _ _) rfl rfl)
    apply ChainL.of (some 7) rfl rfl
    case h => exact step_move rfl
    first
    | apply ChainL.off (some 8) 2 7 false rfl rfl rfl rfl
    | apply ChainL.on (some 8) 2 7 false rfl rfl rfl rfl
      case h => exact step_move rfl
    first
    | apply ChainL.off (some 9) 2 7 false rfl rfl rfl rfl
    | apply ChainL.on (some 9) 2 7 false rfl rfl rfl rfl
      case h => exact w_call c2 [] [0, 1, 2, 3, 4] [] Try.func20 rfl (by decide +kernel) rfl rfl .nil (by decide) (map5 rfl (strs_ren _ _) (bools_ren _ _) rfl rfl) rfl rfl (all5 rfl (strs_lt _ _) (bools_lt _ _) rfl rfl) rfl (all5 rfl (strs_lt _ _) (bools_lt _ _) rfl rfl) rfl rfl rfl rfl (zip5 rfl (os_strs _ _) (os_bools _ _) rfl rfl)
    apply ChainL.of (some 10) rfl rfl
    case h => exact step_pick rfl rfl
    exact .nil
  show Cwp _ _ _ _
  refine cond_f (by first | rfl | kernel_rfl) ?_
  refine cwp_skip ?_
  show Cwp _ _ _ _
  refine cwp_seq ?_
  refine cwp_seq ?_
  apply one_region
  case hc =>
    apply ChainL.of (some 11) rfl rfl
    case h => exact step_move rfl
    apply ChainL.of (some 12) rfl rfl
    case h => (first | exact step_nilCheck rfl rfl | exact step_nilCheck_elt rfl rfl)
    apply ChainL.of (some 13) rfl rfl
    case h => (first | exact w_fieldAddr tab rfl rfl rfl rfl (by decide) rfl rfl | exact w_fieldAddr_elt tab rfl rfl rfl rfl (by decide) rfl rfl)
    apply ChainL.of (some 14) rfl rfl
    case h => (first | exact w_load tab rfl rfl rfl rfl rfl rfl rfl | exact w_load tab rfl rfl rfl rfl rfl (by assumption) rfl | exact w_load_elt tab rfl rfl rfl rfl rfl | exact w_loads tab rfl rfl rfl rfl rfl rfl rfl rfl | exact w_load_tab tab rfl rfl rfl rfl (.head _) (by kernel_rfl) | exact w_loads_elt tab rfl rfl rfl rfl rfl rfl)
    apply ChainL.of (some 15) rfl rfl
    case h => exact w_len tab rfl rfl rfl (.own rfl rfl rfl) (n := 1) (by kernel_rfl)
    apply ChainL.of (some 16) rfl rfl
    case h => exact step_move rfl
    exact .nil
  show Cwp _ _ _ _
  refine cwp_block ?_
  refine cwp_loopN 2 ?_
  refine loop_round ?_
  refine cwp_seq ?_
  apply one_region
  case hc =>
    apply ChainL.of (some 17) rfl rfl
    case h => (first | exact w_bin rfl rfl rfl (lss_t (by omega)) | exact w_bin rfl rfl rfl (lss_f (by omega)) | exact w_bin rfl rfl rfl rfl)
    exact .nil
  show Cwp _ _ _ _
  refine cwp_seq ?_
  refine cond_t (by first | rfl | kernel_rfl) ?_
  refine cwp_skip ?_
  show Cwp _ _ _ _
  refine cwp_seq ?_
  refine cwp_block ?_
  refine cwp_seq ?_
  apply one_region
  case hc =>
    apply ChainL.of (some 18) rfl rfl
    case h => (first | exact w_index_own tab rfl rfl rfl rfl rfl rfl rfl rfl (by omega) (by omega) rfl | exact w_index_lst tab rfl rfl rfl rfl rfl rfl rfl (by omega) (by assumption))
    apply ChainL.of (some 19) rfl rfl
    case h => (first | exact w_load tab rfl rfl rfl rfl rfl rfl rfl | exact w_load tab rfl rfl rfl rfl rfl (by assumption) rfl | exact w_load_elt tab rfl rfl rfl rfl rfl | exact w_loads tab rfl rfl rfl rfl rfl rfl rfl rfl | exact w_load_tab tab rfl rfl rfl rfl (.head _) (by kernel_rfl) | exact w_loads_elt tab rfl rfl rfl rfl rfl rfl)
    apply ChainL.of (some 4) rfl rfl
    case h => exact w_alloc tab rfl rfl 100 rfl
    apply ChainL.of none rfl rfl
    case h => (first | exact w_store tab rfl rfl rfl rfl rfl rfl rfl rfl rfl (Nat.le_of_ble_eq_true rfl) rfl rfl | exact w_store tab rfl rfl rfl rfl rfl (by assumption) rfl rfl rfl (Nat.le_of_ble_eq_true rfl) rfl rfl)
    exact .nil
  show Cwp _ _ _ _
  apply one_region
  case hc =>
    apply ChainL.of (some 20) rfl rfl
    case h => exact step_move rfl
    apply ChainL.of (some 21) rfl rfl
    case h => (first | exact w_load tab rfl rfl rfl rfl rfl rfl rfl | exact w_load tab rfl rfl rfl rfl rfl (by assumption) rfl | exact w_load_elt tab rfl rfl rfl rfl rfl | exact w_loads tab rfl rfl rfl rfl rfl rfl rfl rfl | exact w_load_tab tab rfl rfl rfl rfl (.head _) (by kernel_rfl) | exact w_loads_elt tab rfl rfl rfl rfl rfl rfl)
    apply ChainL.of (some 22) rfl rfl
    case h => exact w_call c3 [] [0, 1, 2, 3, 4] [] Try.func21 rfl (by decide +kernel) rfl rfl .nil (by decide) (map5 rfl (strs_ren _ _) (bools_ren _ _) rfl rfl) rfl rfl (all5 rfl (strs_lt _ _) (bools_lt _ _) rfl rfl) rfl (all5 rfl (strs_lt _ _) (bools_lt _ _) rfl rfl) rfl rfl rfl rfl (zip5 rfl (os_strs _ _) (os_bools _ _) rfl rfl)
    exact .nil
  show Cwp _ _ _ _
  apply one_region
  case hc =>
    apply ChainL.of (some 23) rfl rfl
    case h => (first | exact w_bin rfl rfl rfl (add_i64 rfl (by omega) (by omega)) | exact w_bin rfl rfl rfl rfl)
    apply ChainL.of (some 16) rfl rfl
    case h => exact step_move rfl
    exact .nil
  show LoopN _ _ _ _ _
  refine loop_round ?_
  refine cwp_seq ?_
  apply one_region
  case hc =>
    apply ChainL.of (some 17) rfl rfl
    case h => (first | exact w_bin rfl rfl rfl (lss_t (by omega)) | exact w_bin rfl rfl rfl (lss_f (by omega)) | exact w_bin rfl rfl rfl rfl)
    exact .nil
  show Cwp _ _ _ _
  refine cwp_seq ?_
  refine cond_f (by first | rfl | kernel_rfl) ?_
  refine cwp_exit ?_
  show Cwp _ _ _ _
  refine cwp_seq ?_
  apply one_region
  case hc =>
    apply ChainL.of (some 24) rfl rfl
    case h => exact step_move rfl
    apply ChainL.of (some 25) rfl rfl
    case h => (first | exact step_nilCheck rfl rfl | exact step_nilCheck_elt rfl rfl)
    apply ChainL.of (some 26) rfl rfl
    case h => (first | exact w_fieldAddr tab rfl rfl rfl rfl (by decide) rfl rfl | exact w_fieldAddr_elt tab rfl rfl rfl rfl (by decide) rfl rfl)
    apply ChainL.of none rfl rfl
    case h => (first | exact w_store tab rfl rfl rfl rfl rfl rfl rfl rfl rfl (Nat.le_of_ble_eq_true rfl) rfl rfl | exact w_store tab rfl rfl rfl rfl rfl (by assumption) rfl rfl rfl (Nat.le_of_ble_eq_true rfl) rfl rfl)
    exact .nil
  show Cwp _ _ _ _
  refine cwp_seq ?_
  apply one_region
  case hc =>
    apply ChainL.of (some 2) rfl rfl
    case h => exact step_assign rfl
    exact .nil
  show Cwp _ _ _ _
  refine cwp_ret ?_
  exact ⟨.inl rfl, resH_one rfl rfl, objs_ok rfl⟩
theorem flush_6 (n a fails : Int) (h0 : 0 ≤ n) (h1 : n + 1 ≤ a) (h2 : a ≤ 100) (D : List ByteArray) (T : List Bool) (F : List Int) (q : Nat) (g1 : q < 9) (t d0 : ByteArray) (t0 : Bool) (hd : D[q]? = some d0) (ht : T[q]? = some t0) :
    HCall Try.prog 9 [dsk (.own 3 0 1) (.own 4 0 1) n n fails false, strs D, bools T, waitO q t, cutO a (.own 5 0 F.length), ints F] [.ref 0 0 0]
    [.ob (dsk (.v (.slice none 0 0)) (.own 4 0 1) (n + 1) (n + 1) fails false), .ob (strs (D.set q (full t))), .ob (bools (T.set q false)), .ob (waitO q t), .ob (cutO a (.own 5 0 F.length)), .ob (ints F)] (.v (.int .i64 0)) := by
  have c1 := alive_6 (.own 3 0 1) (.own 4 0 1) n n fails (strs D) (bools T) (waitO q t) (cutO a (.own 5 0 F.length)) (ints F)
  have c2 := actok_6 1 n a fails (.own 5 0 F.length) h0 h1 h2 D T (waitO q t) (ints F)
  have c3 := settle1_6 q (full t) (.own 3 0 1) (.own 4 0 1) (n + 1) (n + 1) fails false D T (waitO q t) (cutO a (.own 5 0 F.length)) (ints F) g1 d0 hd t0 ht
  refine HCall.of Try.func9 rfl (by decide +kernel) (Nat.le_of_ble_eq_true rfl) ?_
  refine cwp_seq ?_
  apply one_region
  case hc =>
    apply ChainL.of (some 2) rfl rfl
    case h => exact step_assign rfl
    exact .nil
  show Cwp _ _ _ _
  refine cwp_seq ?_
  refine cwp_seq ?_
  apply one_region
  case hc =>
    apply ChainL.of (some 5) rfl rfl
    case h => exact step_move rfl
    apply ChainL.of (some 6) rfl rfl
    case h => exact w_call c1 [] [0, 1, 2, 3, 4, 5] [] Try.func10 rfl (by decide +kernel) rfl rfl .nil (by decide) (map6 rfl (strs_ren _ _) (bools_ren _ _) rfl rfl (ints_ren _ _)) rfl rfl (all6 rfl (strs_lt _ _) (bools_lt _ _) rfl rfl (ints_lt _ _)) rfl (all6 rfl (strs_lt _ _) (bools_lt _ _) rfl rfl (ints_lt _ _)) rfl rfl rfl rfl (zip6 rfl (os_strs _ _) (os_bools _ _) rfl rfl (os_ints _ _))
    apply ChainL.of (some 7) rfl rfl
    case h => exact step_move rfl
    first
    | apply ChainL.off (some 8) 2 7 false rfl rfl rfl rfl
    | apply ChainL.on (some 8) 2 7 false rfl rfl rfl rfl
      case h => exact step_move rfl
    first
    | apply ChainL.off (some 9) 2 7 false rfl rfl rfl rfl
    | apply ChainL.on (some 9) 2 7 false rfl rfl rfl rfl
      case h => exact w_call c2 [] [0, 1, 2, 3, 4, 5] [] Try.func20 rfl (by decide +kernel) rfl rfl .nil (by decide) (map6 rfl (strs_ren _ _) (bools_ren _ _) rfl rfl (ints_ren _ _)) rfl rfl (all6 rfl (strs_lt _ _) (bools_lt _ _) rfl rfl (ints_lt _ _)) rfl (all6 rfl (strs_lt _ _) (bools_lt _ _) rfl rfl (ints_lt _ _)) rfl rfl rfl rfl (zip6 rfl (os_strs _ _) (os_bools _ _) rfl rfl (os_ints _ _))
    apply ChainL.of (some 10) rfl rfl
    case h => exact step_pick rfl rfl
    exact .nil
  show Cwp _ _ _ _
  refine cond_f (by first | rfl | kernel_rfl) ?_
  refine cwp_skip ?_
  show Cwp _ _ _ _
  refine cwp_seq ?_
  refine cwp_seq ?_
  apply one_region
  case hc =>
    apply ChainL.of (some 11) rfl rfl
    case h => exact step_move rfl
    apply ChainL.of (some 12) rfl rfl
    case h => (first | exact step_nilCheck rfl rfl | exact step_nilCheck_elt rfl rfl)
    apply ChainL.of (some 13) rfl rfl
    case h => (first | exact w_fieldAddr tab rfl rfl rfl rfl (by decide) rfl rfl | exact w_fieldAddr_elt tab rfl rfl rfl rfl (by decide) rfl rfl)
    apply ChainL.of (some 14) rfl rfl
    case h => (first | exact w_load tab rfl rfl rfl rfl rfl rfl rfl | exact w_load tab rfl rfl rfl rfl rfl (by assumption) rfl | exact w_load_elt tab rfl rfl rfl rfl rfl | exact w_loads tab rfl rfl rfl rfl rfl rfl rfl rfl | exact w_load_tab tab rfl rfl rfl rfl (.head _) (by kernel_rfl) | exact w_loads_elt tab rfl rfl rfl rfl rfl rfl)
    apply ChainL.of (some 15) rfl rfl
    case h => exact w_len tab rfl rfl rfl (.own rfl rfl rfl) (n := 1) (by kernel_rfl)
    apply ChainL.of (some 16) rfl rfl
    case h => exact step_move rfl
    exact .nil
  show Cwp _ _ _ _
  refine cwp_block ?_
  refine cwp_loopN 2 ?_
  refine loop_round ?_
  refine cwp_seq ?_
  apply one_region
  case hc =>
    apply ChainL.of (some 17) rfl rfl
    case h => (first | exact w_bin rfl rfl rfl (lss_t (by omega)) | exact w_bin rfl rfl rfl (lss_f (by omega)) | exact w_bin rfl rfl rfl rfl)
    exact .nil
  show Cwp _ _ _ _
  refine cwp_seq ?_
  refine cond_t (by first | rfl | kernel_rfl) ?_
  refine cwp_skip ?_
  show Cwp _ _ _ _
  refine cwp_seq ?_
  refine cwp_block ?_
  refine cwp_seq ?_
  apply one_region
  case hc =>
    apply ChainL.of (some 18) rfl rfl
    case h => (first | exact w_index_own tab rfl rfl rfl rfl rfl rfl rfl rfl (by omega) (by omega) rfl | exact w_index_lst tab rfl rfl rfl rfl rfl rfl rfl (by omega) (by assumption))
    apply ChainL.of (some 19) rfl rfl
    case h => (first | exact w_load tab rfl rfl rfl rfl rfl rfl rfl | exact w_load tab rfl rfl rfl rfl rfl (by assumption) rfl | exact w_load_elt tab rfl rfl rfl rfl rfl | exact w_loads tab rfl rfl rfl rfl rfl rfl rfl rfl | exact w_load_tab tab rfl rfl rfl rfl (.head _) (by kernel_rfl) | exact w_loads_elt tab rfl rfl rfl rfl rfl rfl)
    apply ChainL.of (some 4) rfl rfl
    case h => exact w_alloc tab rfl rfl 101 rfl
    apply ChainL.of none rfl rfl
    case h => (first | exact w_store tab rfl rfl rfl rfl rfl rfl rfl rfl rfl (Nat.le_of_ble_eq_true rfl) rfl rfl | exact w_store tab rfl rfl rfl rfl rfl (by assumption) rfl rfl rfl (Nat.le_of_ble_eq_true rfl) rfl rfl)
    exact .nil
  show Cwp _ _ _ _
  apply one_region
  case hc =>
    apply ChainL.of (some 20) rfl rfl
    case h => exact step_move rfl
    apply ChainL.of (some 21) rfl rfl
    case h => (first | exact w_load tab rfl rfl rfl rfl rfl rfl rfl | exact w_load tab rfl rfl rfl rfl rfl (by assumption) rfl | exact w_load_elt tab rfl rfl rfl rfl rfl | exact w_loads tab rfl rfl rfl rfl rfl rfl rfl rfl | exact w_load_tab tab rfl rfl rfl rfl (.head _) (by kernel_rfl) | exact w_loads_elt tab rfl rfl rfl rfl rfl rfl)
    apply ChainL.of (some 22) rfl rfl
    case h => exact w_call c3 [] [0, 1, 2, 3, 4, 5] [] Try.func21 rfl (by decide +kernel) rfl rfl .nil (by decide) (map6 rfl (strs_ren _ _) (bools_ren _ _) rfl rfl (ints_ren _ _)) rfl rfl (all6 rfl (strs_lt _ _) (bools_lt _ _) rfl rfl (ints_lt _ _)) rfl (all6 rfl (strs_lt _ _) (bools_lt _ _) rfl rfl (ints_lt _ _)) rfl rfl rfl rfl (zip6 rfl (os_strs _ _) (os_bools _ _) rfl rfl (os_ints _ _))
    exact .nil
  show Cwp _ _ _ _
  apply one_region
  case hc =>
    apply ChainL.of (some 23) rfl rfl
    case h => (first | exact w_bin rfl rfl rfl (add_i64 rfl (by omega) (by omega)) | exact w_bin rfl rfl rfl rfl)
    apply ChainL.of (some 16) rfl rfl
    case h => exact step_move rfl
    exact .nil
  show LoopN _ _ _ _ _
  refine loop_round ?_
  refine cwp_seq ?_
  apply one_region
  case hc =>
    apply ChainL.of (some 17) rfl rfl
    case h => (first | exact w_bin rfl rfl rfl (lss_t (by omega)) | exact w_bin rfl rfl rfl (lss_f (by omega)) | exact w_bin rfl rfl rfl rfl)
    exact .nil
  show Cwp _ _ _ _
  refine cwp_seq ?_
  refine cond_f (by first | rfl | kernel_rfl) ?_
  refine cwp_exit ?_
  show Cwp _ _ _ _
  refine cwp_seq ?_
  apply one_region
  case hc =>
    apply ChainL.of (some 24) rfl rfl
    case h => exact step_move rfl
    apply ChainL.of (some 25) rfl rfl
    case h => (first | exact step_nilCheck rfl rfl | exact step_nilCheck_elt rfl rfl)
    apply ChainL.of (some 26) rfl rfl
    case h => (first | exact w_fieldAddr tab rfl rfl rfl rfl (by decide) rfl rfl | exact w_fieldAddr_elt tab rfl rfl rfl rfl (by decide) rfl rfl)
    apply ChainL.of none rfl rfl
    case h => (first | exact w_store tab rfl rfl rfl rfl rfl rfl rfl rfl rfl (Nat.le_of_ble_eq_true rfl) rfl rfl | exact w_store tab rfl rfl rfl rfl rfl (by assumption) rfl rfl rfl (Nat.le_of_ble_eq_true rfl) rfl rfl)
    exact .nil
  show Cwp _ _ _ _
  refine cwp_seq ?_
  apply one_region
  case hc =>
    apply ChainL.of (some 2) rfl rfl
    case h => exact step_assign rfl
    exact .nil
  show Cwp _ _ _ _
  refine cwp_ret ?_
  exact ⟨.inl rfl, resH_one rfl rfl, objs_ok rfl⟩
theorem act_nc (n m fails : Int) (h0 : 0 ≤ n) (h1 : n ≤ 100) (h2 : 0 ≤ m) (h3 : m ≤ 100) (D : List ByteArray) (T : List Bool) : HCall Try.prog 20 [dsk (.v (.slice none 0 0)) (.lst 2 []) n m fails false, strs D, bools T] [.ref 0 0 0]
    [.ob (dsk (.v (.slice none 0 0)) (.lst 2 []) (n + 1) (m + 1) fails false), .ob (strs D), .ob (bools T)] (.v (.bool false)) := by
  refine HCall.of Try.func20 rfl (by decide +kernel) (Nat.le_of_ble_eq_true rfl) ?_
  refine cwp_seq ?_
  apply one_region
  case hc =>
    apply ChainL.of (some 2) rfl rfl
    case h => exact step_assign rfl
    exact .nil
  show Cwp _ _ _ _
  refine cwp_seq ?_
  apply one_region
  case hc =>
    apply ChainL.of (some 5) rfl rfl
    case h => exact step_move rfl
    apply ChainL.of (some 6) rfl rfl
    case h => (first | exact step_nilCheck rfl rfl | exact step_nilCheck_elt rfl rfl)
    apply ChainL.of (some 7) rfl rfl
    case h => (first | exact w_fieldAddr tab rfl rfl rfl rfl (by decide) rfl rfl | exact w_fieldAddr_elt tab rfl rfl rfl rfl (by decide) rfl rfl)
    apply ChainL.of (some 8) rfl rfl
    case h => (first | exact w_load tab rfl rfl rfl rfl rfl rfl rfl | exact w_load tab rfl rfl rfl rfl rfl (by assumption) rfl | exact w_load_elt tab rfl rfl rfl rfl rfl | exact w_loads tab rfl rfl rfl rfl rfl rfl rfl rfl | exact w_load_tab tab rfl rfl rfl rfl (.head _) (by kernel_rfl) | exact w_loads_elt tab rfl rfl rfl rfl rfl rfl)
    apply ChainL.of (some 9) rfl rfl
    case h => (first | exact w_bin rfl rfl rfl (add_i64 rfl (by omega) (by omega)) | exact w_bin rfl rfl rfl rfl)
    apply ChainL.of (some 10) rfl rfl
    case h => (first | exact step_nilCheck rfl rfl | exact step_nilCheck_elt rfl rfl)
    apply ChainL.of (some 11) rfl rfl
    case h => (first | exact w_fieldAddr tab rfl rfl rfl rfl (by decide) rfl rfl | exact w_fieldAddr_elt tab rfl rfl rfl rfl (by decide) rfl rfl)
    apply ChainL.of none rfl rfl
    case h => (first | exact w_store tab rfl rfl rfl rfl rfl rfl rfl rfl rfl (Nat.le_of_ble_eq_true rfl) rfl rfl | exact w_store tab rfl rfl rfl rfl rfl (by assumption) rfl rfl rfl (Nat.le_of_ble_eq_true rfl) rfl rfl)
    exact .nil
  show Cwp _ _ _ _
  refine cwp_seq ?_
  apply one_region
  case hc =>
    apply ChainL.of (some 12) rfl rfl
    case h => exact step_move rfl
    apply ChainL.of (some 13) rfl rfl
    case h => (first | exact step_nilCheck rfl rfl | exact step_nilCheck_elt rfl rfl)
    apply ChainL.of (some 14) rfl rfl
    case h => (first | exact w_fieldAddr tab rfl rfl rfl rfl (by decide) rfl rfl | exact w_fieldAddr_elt tab rfl rfl rfl rfl (by decide) rfl rfl)
    apply ChainL.of (some 15) rfl rfl
    case h => (first | exact w_load tab rfl rfl rfl rfl rfl rfl rfl | exact w_load tab rfl rfl rfl rfl rfl (by assumption) rfl | exact w_load_elt tab rfl rfl rfl rfl rfl | exact w_loads tab rfl rfl rfl rfl rfl rfl rfl rfl | exact w_load_tab tab rfl rfl rfl rfl (.head _) (by kernel_rfl) | exact w_loads_elt tab rfl rfl rfl rfl rfl rfl)
    apply ChainL.of (some 16) rfl rfl
    case h => (first | exact w_bin rfl rfl rfl (add_i64 rfl (by omega) (by omega)) | exact w_bin rfl rfl rfl rfl)
    apply ChainL.of (some 17) rfl rfl
    case h => (first | exact step_nilCheck rfl rfl | exact step_nilCheck_elt rfl rfl)
    apply ChainL.of (some 18) rfl rfl
    case h => (first | exact w_fieldAddr tab rfl rfl rfl rfl (by decide) rfl rfl | exact w_fieldAddr_elt tab rfl rfl rfl rfl (by decide) rfl rfl)
    apply ChainL.of none rfl rfl
    case h => (first | exact w_store tab rfl rfl rfl rfl rfl rfl rfl rfl rfl (Nat.le_of_ble_eq_true rfl) rfl rfl | exact w_store tab rfl rfl rfl rfl rfl (by assumption) rfl rfl rfl (Nat.le_of_ble_eq_true rfl) rfl rfl)
    exact .nil
  show Cwp _ _ _ _
  refine cwp_seq ?_
  refine cwp_seq ?_
  apply one_region_draw [0, 1, 3, 7, 15, 31, 63, 127, 255, 511, 1023, 127, 2175, 6271, 14463, 30847, 63615, 129151, 260223, 524287, 1048575] rfl
  case hc =>
    apply ChainL.of (some 19) rfl rfl
    case h => exact step_move rfl
    apply ChainL.of (some 20) rfl rfl
    case h => (first | exact step_nilCheck rfl rfl | exact step_nilCheck_elt rfl rfl)
    apply ChainL.of (some 21) rfl rfl
    case h => (first | exact w_fieldAddr tab rfl rfl rfl rfl (by decide) rfl rfl | exact w_fieldAddr_elt tab rfl rfl rfl rfl (by decide) rfl rfl)
    apply ChainL.of (some 22) rfl rfl
    case h => (first | exact w_load tab rfl rfl rfl rfl rfl rfl rfl | exact w_load tab rfl rfl rfl rfl rfl (by assumption) rfl | exact w_load_elt tab rfl rfl rfl rfl rfl | exact w_loads tab rfl rfl rfl rfl rfl rfl rfl rfl | exact w_load_tab tab rfl rfl rfl rfl (.head _) (by kernel_rfl) | exact w_loads_elt tab rfl rfl rfl rfl rfl rfl)
    apply ChainL.of (some 23) rfl rfl
    case h => exact w_len tab rfl rfl rfl .lst (n := 0) rfl
    apply ChainL.of (some 24) rfl rfl
    case h => (first | exact w_bin rfl rfl rfl (eql_t (by omega)) | exact w_bin rfl rfl rfl (eql_f (by omega)) | exact w_bin rfl rfl rfl rfl)
    apply ChainL.of (some 25) rfl rfl
    case h => exact step_move rfl
    first
    | apply ChainL.off (some 26) 6 25 false rfl rfl rfl rfl
    | apply ChainL.on (some 26) 6 25 false rfl rfl rfl rfl
      case h => exact step_move rfl
    first
    | apply ChainL.off (some 27) 6 25 false rfl rfl rfl rfl
    | apply ChainL.on (some 27) 6 25 false rfl rfl rfl rfl
      case h => (first | exact step_nilCheck rfl rfl | exact step_nilCheck_elt rfl rfl)
    first
    | apply ChainL.off (some 28) 6 25 false rfl rfl rfl rfl
    | apply ChainL.on (some 28) 6 25 false rfl rfl rfl rfl
      case h => (first | exact w_fieldAddr tab rfl rfl rfl rfl (by decide) rfl rfl | exact w_fieldAddr_elt tab rfl rfl rfl rfl (by decide) rfl rfl)
    first
    | apply ChainL.off (some 29) 6 25 false rfl rfl rfl rfl
    | apply ChainL.on (some 29) 6 25 false rfl rfl rfl rfl
      case h => (first | exact w_load tab rfl rfl rfl rfl rfl rfl rfl | exact w_load tab rfl rfl rfl rfl rfl (by assumption) rfl | exact w_load_elt tab rfl rfl rfl rfl rfl | exact w_loads tab rfl rfl rfl rfl rfl rfl rfl rfl | exact w_load_tab tab rfl rfl rfl rfl (.head _) (by kernel_rfl) | exact w_loads_elt tab rfl rfl rfl rfl rfl rfl)
    first
    | apply ChainL.off (some 30) 6 25 false rfl rfl rfl rfl
    | apply ChainL.on (some 30) 6 25 false rfl rfl rfl rfl
      case h => exact step_move rfl
    first
    | apply ChainL.off (some 31) 6 25 false rfl rfl rfl rfl
    | apply ChainL.on (some 31) 6 25 false rfl rfl rfl rfl
      case h => (first | exact step_nilCheck rfl rfl | exact step_nilCheck_elt rfl rfl)
    first
    | apply ChainL.off (some 32) 6 25 false rfl rfl rfl rfl
    | apply ChainL.on (some 32) 6 25 false rfl rfl rfl rfl
      case h => (first | exact w_fieldAddr tab rfl rfl rfl rfl (by decide) rfl rfl | exact w_fieldAddr_elt tab rfl rfl rfl rfl (by decide) rfl rfl)
    first
    | apply ChainL.off (some 33) 6 25 false rfl rfl rfl rfl
    | apply ChainL.on (some 33) 6 25 false rfl rfl rfl rfl
      case h => (first | exact w_load tab rfl rfl rfl rfl rfl rfl rfl | exact w_load tab rfl rfl rfl rfl rfl (by assumption) rfl | exact w_load_elt tab rfl rfl rfl rfl rfl | exact w_loads tab rfl rfl rfl rfl rfl rfl rfl rfl | exact w_load_tab tab rfl rfl rfl rfl (.head _) (by kernel_rfl) | exact w_loads_elt tab rfl rfl rfl rfl rfl rfl)
    first
    | apply ChainL.off (some 34) 6 25 false rfl rfl rfl rfl
    | apply ChainL.on (some 34) 6 25 false rfl rfl rfl rfl
      case h => (first | exact w_index_own tab rfl rfl rfl rfl rfl rfl rfl rfl (by omega) (by omega) rfl | exact w_index_lst tab rfl rfl rfl rfl rfl rfl rfl (by omega) (by assumption))
    first
    | apply ChainL.off (some 35) 6 25 false rfl rfl rfl rfl
    | apply ChainL.on (some 35) 6 25 false rfl rfl rfl rfl
      case h => (first | exact w_fieldAddr tab rfl rfl rfl rfl (by decide) rfl rfl | exact w_fieldAddr_elt tab rfl rfl rfl rfl (by decide) rfl rfl)
    first
    | apply ChainL.off (some 36) 6 25 false rfl rfl rfl rfl
    | apply ChainL.on (some 36) 6 25 false rfl rfl rfl rfl
      case h => (first | exact w_load tab rfl rfl rfl rfl rfl rfl rfl | exact w_load tab rfl rfl rfl rfl rfl (by assumption) rfl | exact w_load_elt tab rfl rfl rfl rfl rfl | exact w_loads tab rfl rfl rfl rfl rfl rfl rfl rfl | exact w_load_tab tab rfl rfl rfl rfl (.head _) (by kernel_rfl) | exact w_loads_elt tab rfl rfl rfl rfl rfl rfl)
    first
    | apply ChainL.off (some 37) 6 25 false rfl rfl rfl rfl
    | apply ChainL.on (some 37) 6 25 false rfl rfl rfl rfl
      case h => (first | exact w_max rfl rfl rfl (if_pos (by omega)) | exact w_max rfl rfl rfl (if_neg (by omega)) | exact w_max rfl rfl rfl rfl)
    first
    | apply ChainL.off (some 38) 6 25 false rfl rfl rfl rfl
    | apply ChainL.on (some 38) 6 25 false rfl rfl rfl rfl
      case h => (first | exact w_bin rfl rfl rfl (leq_t (by omega)) | exact w_bin rfl rfl rfl (leq_f (by omega)) | exact w_bin rfl rfl rfl rfl)
    apply ChainL.of (some 39) rfl rfl
    case h => exact step_pick rfl rfl
    exact .nil
  case hB => decide +kernel
  case hI => kernel_rfl
  show Cwp _ _ _ _
  refine cond_t (by first | rfl | kernel_rfl) ?_
  refine cwp_seq ?_
  apply one_region
  case hc =>
    apply ChainL.of (some 2) rfl rfl
    case h => exact step_assign rfl
    exact .nil
  show Cwp _ _ _ _
  refine cwp_ret ?_
  exact ⟨.inl rfl, resH_one rfl rfl, objs_ok rfl⟩
theorem nonempty (s : ByteArray) (h : 0 < s.size) : abin .eql (.string s) (.string ⟨#[]⟩) = some (.bool false) := by
  have hs : (s.toList == (⟨#[]⟩ : ByteArray).toList) = false := by
    rw [beq_eq_false_iff_ne, ByteArray.toList_eq, ByteArray.toList_eq]
    intro e
    have e2 := congrArg List.length e
    rw [Array.length_toList] at e2
    have h3 : 0 < s.data.size := h
    rw [e2] at h3
    exact absurd h3 (by decide)
  simp only [abin]
  rw [hs]
theorem read_end (n m fails : Int) (h0 : 0 ≤ n) (h1 : n ≤ 100) (h2 : 0 ≤ m) (h3 : m ≤ 100) (D : List ByteArray) (T : List Bool) (hD : D.length = 9) (q : Nat) (g1 : q < 9) (s0 : ByteArray) (hs : 0 < s0.size) (hd : D[q]? = some s0) (ht : T[q]? = some false) :
    HCall Try.prog 12 [dsk (.v (.slice none 0 0)) (.lst 2 []) n m fails false, strs D, bools T] [.ref 0 0 0, .v (.int .i64 q)]
    [.ob (dsk (.v (.slice none 0 0)) (.lst 2 []) (n + 1) (m + 1) fails false), .ob (strs D), .ob (bools T)] (.tup [.v (.string s0), .v (.int .i64 0)]) := by
  have c1 := alive_3 (.v (.slice none 0 0)) (.lst 2 []) n m fails (strs D) (bools T)
  have c2 := act_nc n m fails h0 h1 h2 h3 D T
  have hlen : ((strs D).rows.drop 0).take 9 = D.map fun s => [.v (.string s)] := by rw [List.drop_zero]; exact List.take_of_length_le (by simp [strs, hD])
  have r1 : (strs D).rows[0 + ((q : Nat) : Int).toNat]? = some [.v (.string s0)] := by simp [strs, hd]
  have r2 : (bools T).rows[0 + ((q : Nat) : Int).toNat]? = some [.v (.bool false)] := by simp [bools, ht]
  refine HCall.of Try.func12 rfl (by decide +kernel) (Nat.le_of_ble_eq_true rfl) ?_
  refine cwp_seq ?_
  apply one_region
  case hc =>
    apply ChainL.of (some 4) rfl rfl
    case h => exact step_assign rfl
    apply ChainL.of (some 5) rfl rfl
    case h => exact step_assign rfl
    exact .nil
  show Cwp _ _ _ _
  refine cwp_seq ?_
  refine cwp_block ?_
  refine cwp_seq ?_
  apply one_region
  case hc =>
    apply ChainL.of (some 8) rfl rfl
    case h => exact step_move rfl
    apply ChainL.of (some 9) rfl rfl
    case h => exact w_call c1 [] [0, 1, 2] [] Try.func10 rfl (by decide +kernel) rfl rfl .nil (by decide) (map3 rfl (strs_ren _ _) (bools_ren _ _)) rfl rfl (all3 rfl (strs_lt _ _) (bools_lt _ _)) rfl (all3 rfl (strs_lt _ _) (bools_lt _ _)) rfl rfl rfl rfl (zip3 rfl (os_strs _ _) (os_bools _ _))
    apply ChainL.of (some 7) rfl rfl
    case h => exact step_assign rfl
    exact .nil
  show Cwp _ _ _ _
  refine cond_f (by first | rfl | kernel_rfl) ?_
  refine cwp_seq ?_
  apply one_region
  case hc =>
    apply ChainL.of (some 11) rfl rfl
    case h => exact step_move rfl
    apply ChainL.of (some 12) rfl rfl
    case h => (first | exact w_bin rfl rfl rfl (lss_t (by omega)) | exact w_bin rfl rfl rfl (lss_f (by omega)) | exact w_bin rfl rfl rfl rfl)
    apply ChainL.of (some 13) rfl rfl
    case h => exact step_move rfl
    first
    | apply ChainL.off (some 14) 2 13 false rfl rfl rfl rfl
    | apply ChainL.on (some 14) 2 13 false rfl rfl rfl rfl
      case h => exact step_move rfl
    first
    | apply ChainL.off (some 15) 2 13 false rfl rfl rfl rfl
    | apply ChainL.on (some 15) 2 13 false rfl rfl rfl rfl
      case h => exact step_move rfl
    first
    | apply ChainL.off (some 16) 2 13 false rfl rfl rfl rfl
    | apply ChainL.on (some 16) 2 13 false rfl rfl rfl rfl
      case h => (first | exact step_nilCheck rfl rfl | exact step_nilCheck_elt rfl rfl)
    first
    | apply ChainL.off (some 17) 2 13 false rfl rfl rfl rfl
    | apply ChainL.on (some 17) 2 13 false rfl rfl rfl rfl
      case h => (first | exact w_fieldAddr tab rfl rfl rfl rfl (by decide) rfl rfl | exact w_fieldAddr_elt tab rfl rfl rfl rfl (by decide) rfl rfl)
    first
    | apply ChainL.off (some 18) 2 13 false rfl rfl rfl rfl
    | apply ChainL.on (some 18) 2 13 false rfl rfl rfl rfl
      case h => (first | exact w_load tab rfl rfl rfl rfl rfl rfl rfl | exact w_load tab rfl rfl rfl rfl rfl (by assumption) rfl | exact w_load_elt tab rfl rfl rfl rfl rfl | exact w_loads tab rfl rfl rfl rfl rfl rfl rfl rfl | exact w_load_tab tab rfl rfl rfl rfl (.head _) (by kernel_rfl) | exact w_loads_elt tab rfl rfl rfl rfl rfl rfl)
    first
    | apply ChainL.off (some 19) 2 13 false rfl rfl rfl rfl
    | apply ChainL.on (some 19) 2 13 false rfl rfl rfl rfl
      case h => exact w_len tab rfl rfl rfl (.own rfl hlen (by simp [hD])) (n := 9) (by simp [hD])
    first
    | apply ChainL.off (some 20) 2 13 false rfl rfl rfl rfl
    | apply ChainL.on (some 20) 2 13 false rfl rfl rfl rfl
      case h => (first | exact w_bin rfl rfl rfl (geq_t (by omega)) | exact w_bin rfl rfl rfl (geq_f (by omega)) | exact w_bin rfl rfl rfl rfl)
    apply ChainL.of (some 21) rfl rfl
    case h => exact step_pick rfl rfl
    apply ChainL.of (some 10) rfl rfl
    case h => exact step_assign rfl
    exact .nil
  show Cwp _ _ _ _
  refine cond_f (by first | rfl | kernel_rfl) ?_
  refine cwp_seq ?_
  apply one_region
  case hc =>
    apply ChainL.of (some 23) rfl rfl
    case h => exact step_move rfl
    apply ChainL.of (some 24) rfl rfl
    case h => exact w_call c2 [] [0, 1, 2] [] Try.func20 rfl (by decide +kernel) rfl rfl .nil (by decide) (map3 rfl (strs_ren _ _) (bools_ren _ _)) rfl rfl (all3 rfl (strs_lt _ _) (bools_lt _ _)) rfl (all3 rfl (strs_lt _ _) (bools_lt _ _)) rfl rfl rfl rfl (zip3 rfl (os_strs _ _) (os_bools _ _))
    apply ChainL.of (some 22) rfl rfl
    case h => exact step_assign rfl
    exact .nil
  show Cwp _ _ _ _
  refine cond_f (by first | rfl | kernel_rfl) ?_
  refine cwp_skip ?_
  show Cwp _ _ _ _
  refine cwp_seq ?_
  refine cwp_seq ?_
  apply one_region
  case hc =>
    apply ChainL.of (some 25) rfl rfl
    case h => exact step_move rfl
    apply ChainL.of (some 26) rfl rfl
    case h => (first | exact step_nilCheck rfl rfl | exact step_nilCheck_elt rfl rfl)
    apply ChainL.of (some 27) rfl rfl
    case h => (first | exact w_fieldAddr tab rfl rfl rfl rfl (by decide) rfl rfl | exact w_fieldAddr_elt tab rfl rfl rfl rfl (by decide) rfl rfl)
    apply ChainL.of (some 28) rfl rfl
    case h => (first | exact w_load tab rfl rfl rfl rfl rfl rfl rfl | exact w_load tab rfl rfl rfl rfl rfl (by assumption) rfl | exact w_load_elt tab rfl rfl rfl rfl rfl | exact w_loads tab rfl rfl rfl rfl rfl rfl rfl rfl | exact w_load_tab tab rfl rfl rfl rfl (.head _) (by kernel_rfl) | exact w_loads_elt tab rfl rfl rfl rfl rfl rfl)
    apply ChainL.of (some 29) rfl rfl
    case h => exact w_len tab rfl rfl rfl (.nil (m := 0)) (n := 0) rfl
    apply ChainL.of (some 30) rfl rfl
    case h => (first | exact w_bin rfl rfl rfl (sub_i64 rfl (by omega) (by omega)) | exact w_bin rfl rfl rfl rfl)
    apply ChainL.of (some 6) rfl rfl
    case h => exact step_assign rfl
    exact .nil
  show Cwp _ _ _ _
  refine cwp_block ?_
  refine cwp_loopN 1 ?_
  refine loop_round ?_
  refine cwp_seq ?_
  refine cwp_seq ?_
  apply one_region
  case hc =>
    apply ChainL.of (some 31) rfl rfl
    case h => exact step_move rfl
    apply ChainL.of (some 32) rfl rfl
    case h => (first | exact w_bin rfl rfl rfl (geq_t (by omega)) | exact w_bin rfl rfl rfl (geq_f (by omega)) | exact w_bin rfl rfl rfl rfl)
    exact .nil
  show Cwp _ _ _ _
  refine cond_f (by first | rfl | kernel_rfl) ?_
  refine cwp_exit ?_
  show Cwp _ _ _ _
  refine cwp_seq ?_
  refine cwp_seq ?_
  apply one_region
  case hc =>
    apply ChainL.of (some 53) rfl rfl
    case h => exact step_move rfl
    apply ChainL.of (some 54) rfl rfl
    case h => (first | exact step_nilCheck rfl rfl | exact step_nilCheck_elt rfl rfl)
    apply ChainL.of (some 55) rfl rfl
    case h => (first | exact w_fieldAddr tab rfl rfl rfl rfl (by decide) rfl rfl | exact w_fieldAddr_elt tab rfl rfl rfl rfl (by decide) rfl rfl)
    apply ChainL.of (some 56) rfl rfl
    case h => (first | exact w_load tab rfl rfl rfl rfl rfl rfl rfl | exact w_load tab rfl rfl rfl rfl rfl (by assumption) rfl | exact w_load_elt tab rfl rfl rfl rfl rfl | exact w_loads tab rfl rfl rfl rfl rfl rfl rfl rfl | exact w_load_tab tab rfl rfl rfl rfl (.head _) (by kernel_rfl) | exact w_loads_elt tab rfl rfl rfl rfl rfl rfl)
    apply ChainL.of (some 57) rfl rfl
    case h => exact step_move rfl
    apply ChainL.of (some 58) rfl rfl
    case h => (first | exact w_index_own tab rfl rfl rfl rfl rfl rfl rfl rfl (by omega) (by omega) rfl | exact w_index_lst tab rfl rfl rfl rfl rfl rfl rfl (by omega) (by assumption))
    apply ChainL.of (some 59) rfl rfl
    case h => (first | exact w_load tab rfl rfl rfl rfl rfl rfl rfl | exact w_load tab rfl rfl rfl rfl rfl (by assumption) rfl | exact w_load_elt tab rfl rfl rfl rfl rfl | exact w_loads tab rfl rfl rfl rfl rfl rfl rfl rfl | exact w_load_tab tab rfl rfl rfl rfl (.head _) (by kernel_rfl) | exact w_loads_elt tab rfl rfl rfl rfl rfl rfl)
    exact .nil
  show Cwp _ _ _ _
  refine cond_f (by first | rfl | kernel_rfl) ?_
  refine cwp_skip ?_
  show Cwp _ _ _ _
  refine cwp_seq ?_
  refine cwp_seq ?_
  apply one_region
  case hc =>
    apply ChainL.of (some 60) rfl rfl
    case h => exact step_move rfl
    apply ChainL.of (some 61) rfl rfl
    case h => (first | exact step_nilCheck rfl rfl | exact step_nilCheck_elt rfl rfl)
    apply ChainL.of (some 62) rfl rfl
    case h => (first | exact w_fieldAddr tab rfl rfl rfl rfl (by decide) rfl rfl | exact w_fieldAddr_elt tab rfl rfl rfl rfl (by decide) rfl rfl)
    apply ChainL.of (some 63) rfl rfl
    case h => (first | exact w_load tab rfl rfl rfl rfl rfl rfl rfl | exact w_load tab rfl rfl rfl rfl rfl (by assumption) rfl | exact w_load_elt tab rfl rfl rfl rfl rfl | exact w_loads tab rfl rfl rfl rfl rfl rfl rfl rfl | exact w_load_tab tab rfl rfl rfl rfl (.head _) (by kernel_rfl) | exact w_loads_elt tab rfl rfl rfl rfl rfl rfl)
    apply ChainL.of (some 64) rfl rfl
    case h => exact step_move rfl
    apply ChainL.of (some 65) rfl rfl
    case h => (first | exact w_index_own tab rfl rfl rfl rfl rfl rfl rfl rfl (by omega) (by omega) rfl | exact w_index_lst tab rfl rfl rfl rfl rfl rfl rfl (by omega) (by assumption))
    apply ChainL.of (some 66) rfl rfl
    case h => (first | exact w_load tab rfl rfl rfl rfl rfl rfl rfl | exact w_load tab rfl rfl rfl rfl rfl (by assumption) rfl | exact w_load_elt tab rfl rfl rfl rfl rfl | exact w_loads tab rfl rfl rfl rfl rfl rfl rfl rfl | exact w_load_tab tab rfl rfl rfl rfl (.head _) (by kernel_rfl) | exact w_loads_elt tab rfl rfl rfl rfl rfl rfl)
    apply ChainL.of (some 67) rfl rfl
    case h => exact w_bin rfl rfl rfl (nonempty s0 hs)
    exact .nil
  show Cwp _ _ _ _
  refine cond_f (by first | rfl | kernel_rfl) ?_
  refine cwp_skip ?_
  show Cwp _ _ _ _
  refine cwp_seq ?_
  apply one_region
  case hc =>
    apply ChainL.of (some 70) rfl rfl
    case h => exact step_move rfl
    apply ChainL.of (some 71) rfl rfl
    case h => (first | exact step_nilCheck rfl rfl | exact step_nilCheck_elt rfl rfl)
    apply ChainL.of (some 72) rfl rfl
    case h => (first | exact w_fieldAddr tab rfl rfl rfl rfl (by decide) rfl rfl | exact w_fieldAddr_elt tab rfl rfl rfl rfl (by decide) rfl rfl)
    apply ChainL.of (some 73) rfl rfl
    case h => (first | exact w_load tab rfl rfl rfl rfl rfl rfl rfl | exact w_load tab rfl rfl rfl rfl rfl (by assumption) rfl | exact w_load_elt tab rfl rfl rfl rfl rfl | exact w_loads tab rfl rfl rfl rfl rfl rfl rfl rfl | exact w_load_tab tab rfl rfl rfl rfl (.head _) (by kernel_rfl) | exact w_loads_elt tab rfl rfl rfl rfl rfl rfl)
    apply ChainL.of (some 74) rfl rfl
    case h => exact step_move rfl
    apply ChainL.of (some 75) rfl rfl
    case h => (first | exact w_index_own tab rfl rfl rfl rfl rfl rfl rfl rfl (by omega) (by omega) rfl | exact w_index_lst tab rfl rfl rfl rfl rfl rfl rfl (by omega) (by assumption))
    apply ChainL.of (some 76) rfl rfl
    case h => (first | exact w_load tab rfl rfl rfl rfl rfl rfl rfl | exact w_load tab rfl rfl rfl rfl rfl (by assumption) rfl | exact w_load_elt tab rfl rfl rfl rfl rfl | exact w_loads tab rfl rfl rfl rfl rfl rfl rfl rfl | exact w_load_tab tab rfl rfl rfl rfl (.head _) (by kernel_rfl) | exact w_loads_elt tab rfl rfl rfl rfl rfl rfl)
    apply ChainL.of (some 4) rfl rfl
    case h => exact step_assign rfl
    apply ChainL.of (some 5) rfl rfl
    case h => exact step_assign rfl
    exact .nil
  show Cwp _ _ _ _
  refine cwp_ret ?_
  exact ⟨.inl rfl, resH_two rfl rfl rfl, objs_ok rfl⟩
theorem fails_is (w cu : SV) (acts all fails : Int) (dead : Bool) (A B : Ob) : HCall Try.prog 13 [dsk w cu acts all fails dead, A, B] [.ref 0 0 0] [.ob (dsk w cu acts all fails dead), .ob A, .ob B] (.v (.int .i64 fails)) := by
  refine HCall.of Try.func13 rfl (by decide +kernel) (Nat.le_of_ble_eq_true rfl) ?_
  refine cwp_seq ?_
  apply one_region
  case hc =>
    apply ChainL.of (some 2) rfl rfl
    case h => exact step_assign rfl
    exact .nil
  show Cwp _ _ _ _
  refine cwp_seq ?_
  refine cwp_seq ?_
  apply one_region
  case hc =>
    apply ChainL.of (some 3) rfl rfl
    case h => exact step_move rfl
    apply ChainL.of (some 4) rfl rfl
    case h => (first | exact w_nil_nil tab (b := true) rfl rfl rfl rfl rfl | exact w_ptr_nil tab (b := true) rfl rfl rfl rfl rfl)
    exact .nil
  show Cwp _ _ _ _
  refine cond_f (by first | rfl | kernel_rfl) ?_
  refine cwp_skip ?_
  show Cwp _ _ _ _
  refine cwp_seq ?_
  apply one_region
  case hc =>
    apply ChainL.of (some 5) rfl rfl
    case h => exact step_move rfl
    apply ChainL.of (some 6) rfl rfl
    case h => (first | exact step_nilCheck rfl rfl | exact step_nilCheck_elt rfl rfl)
    apply ChainL.of (some 7) rfl rfl
    case h => (first | exact w_fieldAddr tab rfl rfl rfl rfl (by decide) rfl rfl | exact w_fieldAddr_elt tab rfl rfl rfl rfl (by decide) rfl rfl)
    apply ChainL.of (some 8) rfl rfl
    case h => (first | exact w_load tab rfl rfl rfl rfl rfl rfl rfl | exact w_load tab rfl rfl rfl rfl rfl (by assumption) rfl | exact w_load_elt tab rfl rfl rfl rfl rfl | exact w_loads tab rfl rfl rfl rfl rfl rfl rfl rfl | exact w_load_tab tab rfl rfl rfl rfl (.head _) (by kernel_rfl) | exact w_loads_elt tab rfl rfl rfl rfl rfl rfl)
    apply ChainL.of (some 2) rfl rfl
    case h => exact step_assign rfl
    exact .nil
  show Cwp _ _ _ _
  refine cwp_ret ?_
  exact ⟨.inl rfl, resH_one rfl rfl, objs_ok rfl⟩
theorem dead_is (w cu : SV) (acts all fails : Int) (A B : Ob) : HCall Try.prog 10 [dsk w cu acts all fails true, A, B] [.ref 0 0 0] [.ob (dsk w cu acts all fails true), .ob A, .ob B] (.v (.bool true)) := by
  refine HCall.of Try.func10 rfl (by decide +kernel) (Nat.le_of_ble_eq_true rfl) ?_
  refine cwp_seq ?_
  apply one_region
  case hc =>
    apply ChainL.of (some 2) rfl rfl
    case h => exact step_assign rfl
    exact .nil
  show Cwp _ _ _ _
  refine cwp_seq ?_
  apply one_region
  case hc =>
    apply ChainL.of (some 3) rfl rfl
    case h => exact step_move rfl
    apply ChainL.of (some 4) rfl rfl
    case h => (first | exact w_nil_nil tab (b := true) rfl rfl rfl rfl rfl | exact w_ptr_nil tab (b := true) rfl rfl rfl rfl rfl)
    apply ChainL.of (some 5) rfl rfl
    case h => exact step_move rfl
    first
    | apply ChainL.off (some 6) 2 5 false rfl rfl rfl rfl
    | apply ChainL.on (some 6) 2 5 false rfl rfl rfl rfl
      case h => exact step_move rfl
    first
    | apply ChainL.off (some 7) 2 5 false rfl rfl rfl rfl
    | apply ChainL.on (some 7) 2 5 false rfl rfl rfl rfl
      case h => (first | exact step_nilCheck rfl rfl | exact step_nilCheck_elt rfl rfl)
    first
    | apply ChainL.off (some 8) 2 5 false rfl rfl rfl rfl
    | apply ChainL.on (some 8) 2 5 false rfl rfl rfl rfl
      case h => (first | exact w_fieldAddr tab rfl rfl rfl rfl (by decide) rfl rfl | exact w_fieldAddr_elt tab rfl rfl rfl rfl (by decide) rfl rfl)
    first
    | apply ChainL.off (some 9) 2 5 false rfl rfl rfl rfl
    | apply ChainL.on (some 9) 2 5 false rfl rfl rfl rfl
      case h => (first | exact w_load tab rfl rfl rfl rfl rfl rfl rfl | exact w_load tab rfl rfl rfl rfl rfl (by assumption) rfl | exact w_load_elt tab rfl rfl rfl rfl rfl | exact w_loads tab rfl rfl rfl rfl rfl rfl rfl rfl | exact w_load_tab tab rfl rfl rfl rfl (.head _) (by kernel_rfl) | exact w_loads_elt tab rfl rfl rfl rfl rfl rfl)
    apply ChainL.of (some 10) rfl rfl
    case h => exact step_pick rfl rfl
    apply ChainL.of (some 2) rfl rfl
    case h => exact step_assign rfl
    exact .nil
  show Cwp _ _ _ _
  refine cwp_ret ?_
  exact ⟨.inl rfl, resH_one rfl rfl, objs_ok rfl⟩
theorem up_is (w cu : SV) (acts all fails : Int) (A B : Ob) : HCall Try.prog 11 [dsk w cu acts all fails true, A, B] [.ref 0 0 0] [.ob (dsk w cu 0 all fails false), .ob A, .ob B] (.tup []) := by
  refine HCall.of Try.func11 rfl (by decide +kernel) (Nat.le_of_ble_eq_true rfl) ?_
  refine cwp_seq ?_
  apply one_region
  case hc =>
    apply ChainL.of (some 2) rfl rfl
    case h => exact step_move rfl
    apply ChainL.of (some 3) rfl rfl
    case h => (first | exact w_nil_nil tab (b := false) rfl rfl rfl rfl rfl | exact w_ptr_nil tab (b := false) rfl rfl rfl rfl rfl)
    apply ChainL.of (some 4) rfl rfl
    case h => exact step_move rfl
    first
    | apply ChainL.off (some 5) 2 4 true rfl rfl rfl rfl
    | apply ChainL.on (some 5) 2 4 true rfl rfl rfl rfl
      case h => exact step_move rfl
    first
    | apply ChainL.off (some 6) 2 4 true rfl rfl rfl rfl
    | apply ChainL.on (some 6) 2 4 true rfl rfl rfl rfl
      case h => (first | exact step_nilCheck rfl rfl | exact step_nilCheck_elt rfl rfl)
    first
    | apply ChainL.off (some 7) 2 4 true rfl rfl rfl rfl
    | apply ChainL.on (some 7) 2 4 true rfl rfl rfl rfl
      case h => (first | exact w_fieldAddr tab rfl rfl rfl rfl (by decide) rfl rfl | exact w_fieldAddr_elt tab rfl rfl rfl rfl (by decide) rfl rfl)
    first
    | apply ChainL.off (some 8) 2 4 true rfl rfl rfl rfl
    | apply ChainL.on (some 8) 2 4 true rfl rfl rfl rfl
      case h => (first | exact w_load tab rfl rfl rfl rfl rfl rfl rfl | exact w_load tab rfl rfl rfl rfl rfl (by assumption) rfl | exact w_load_elt tab rfl rfl rfl rfl rfl | exact w_loads tab rfl rfl rfl rfl rfl rfl rfl rfl | exact w_load_tab tab rfl rfl rfl rfl (.head _) (by kernel_rfl) | exact w_loads_elt tab rfl rfl rfl rfl rfl rfl)
    apply ChainL.of (some 9) rfl rfl
    case h => exact step_pick rfl rfl
    exact .nil
  show Cwp _ _ _ _
  refine cond_t (by first | rfl | kernel_rfl) ?_
  apply one_region
  case hc =>
    apply ChainL.of (some 10) rfl rfl
    case h => exact step_move rfl
    apply ChainL.of (some 11) rfl rfl
    case h => exact step_move rfl
    apply ChainL.of (some 12) rfl rfl
    case h => (first | exact step_nilCheck rfl rfl | exact step_nilCheck_elt rfl rfl)
    apply ChainL.of (some 13) rfl rfl
    case h => (first | exact w_fieldAddr tab rfl rfl rfl rfl (by decide) rfl rfl | exact w_fieldAddr_elt tab rfl rfl rfl rfl (by decide) rfl rfl)
    apply ChainL.of none rfl rfl
    case h => (first | exact w_store tab rfl rfl rfl rfl rfl rfl rfl rfl rfl (Nat.le_of_ble_eq_true rfl) rfl rfl | exact w_store tab rfl rfl rfl rfl rfl (by assumption) rfl rfl rfl (Nat.le_of_ble_eq_true rfl) rfl rfl)
    apply ChainL.of (some 14) rfl rfl
    case h => (first | exact step_nilCheck rfl rfl | exact step_nilCheck_elt rfl rfl)
    apply ChainL.of (some 15) rfl rfl
    case h => (first | exact w_fieldAddr tab rfl rfl rfl rfl (by decide) rfl rfl | exact w_fieldAddr_elt tab rfl rfl rfl rfl (by decide) rfl rfl)
    apply ChainL.of none rfl rfl
    case h => (first | exact w_store tab rfl rfl rfl rfl rfl rfl rfl rfl rfl (Nat.le_of_ble_eq_true rfl) rfl rfl | exact w_store tab rfl rfl rfl rfl rfl (by assumption) rfl rfl rfl (Nat.le_of_ble_eq_true rfl) rfl rfl)
    exact .nil
  exact ⟨.inr rfl, resH_none rfl, objs_ok rfl⟩
end Go.Proofs.Ytcbbpidnocgoiaa.Dk


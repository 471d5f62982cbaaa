/- Places: making them, and the methods at one that is. -/
import Derived.Test.YtcbbpidnocgoiaaDoorSpA
namespace Go.Proofs.YtcbbpidnocgoiaaDoor.Sp
open Go Go.RowKit Go.Proofs.YtcbbpidnocgoiaaDoor.Eng
set_option linter.unusedVariables false
set_option linter.unusedSimpArgs false
set_option maxRecDepth 20000
def sp (n : Int) (k : Nat) : Ob := ⟨2, [[.v (.int .i64 n), .own 1 0 k]], false⟩
def wd (ws : List Int) : Ob := ⟨1, ws.map fun x => [.v (.int .u64 x)], false⟩
/-- New: the words, and what has them. -/
theorem new_neg (m : Int) (h : m ≤ 0) : HCall Tryd.prog 6 [] [.v (.int .i64 m)] [.ob ⟨1, [], false⟩, .ob ⟨2, [[.v (.int .i64 0), .own 0 0 0]], false⟩] (.ref 1 0 0) := by
  refine HCall.of Tryd.func6 rfl (by decide +kernel) (Nat.le_of_ble_eq_true rfl) ?_
  apply seq_region
  case hc =>
    apply ChainL.of (some 2) rfl rfl
    case h => exact step_assign rfl
    exact .nil
  by_cases h0 : m < 0
  ·
    apply seq_region
    case hc =>
      apply ChainL.of (some 3) rfl rfl
      case h => exact step_move rfl
      apply ChainL.of (some 4) rfl rfl
      case h => (first | exact w_max rfl rfl rfl (if_pos (by omega)) | exact w_max rfl rfl rfl (if_neg (by omega)) | exact w_max rfl rfl rfl rfl)
      apply ChainL.of (some 0) rfl rfl
      case h => exact step_assign rfl
      exact .nil
    apply seq_region
    case hc =>
      apply ChainL.of (some 5) rfl rfl
      case h => exact step_move rfl
      apply ChainL.of (some 6) rfl rfl
      case h => exact step_move rfl
      apply ChainL.of (some 7) rfl rfl
      case h => (first | exact w_bin rfl rfl rfl (add_i64 rfl (by omega) (by omega)) | exact w_bin rfl rfl rfl rfl)
      apply ChainL.of (some 8) rfl rfl
      case h => (first | exact w_bin rfl rfl rfl (sub_i64 rfl (by omega) (by omega)) | exact w_bin rfl rfl rfl rfl)
      apply ChainL.of (some 9) rfl rfl
      case h => (first | exact w_bin rfl rfl rfl (quo_i64 (by omega) (by omega) (by omega) rfl) | exact w_bin rfl rfl rfl rfl)
      apply ChainL.of (some 10) rfl rfl
      case h => exact w_makeSlice tab rfl rfl rfl rfl 0 rfl rfl (by omega) (by dsimp only; omega) (by omega) (by decide) rfl rfl
      apply ChainL.of (some 11) rfl rfl
      case h => exact w_build tab rfl rfl (by decide) rfl rfl
      apply ChainL.of (some 12) rfl rfl
      case h => exact w_box rfl 1 rfl rfl rfl
      apply ChainL.of (some 2) rfl rfl
      case h => exact step_assign rfl
      exact .nil
    exact cwp_ret ⟨.inl rfl, resH_one rfl rfl, objs_ok rfl⟩
  · obtain rfl : m = 0 := by omega
    apply seq_region
    case hc =>
      apply ChainL.of (some 3) rfl rfl
      case h => exact step_move rfl
      apply ChainL.of (some 4) rfl rfl
      case h => (first | exact w_max rfl rfl rfl (if_pos (by omega)) | exact w_max rfl rfl rfl (if_neg (by omega)) | exact w_max rfl rfl rfl rfl)
      apply ChainL.of (some 0) rfl rfl
      case h => exact step_assign rfl
      exact .nil
    apply seq_region
    case hc =>
      apply ChainL.of (some 5) rfl rfl
      case h => exact step_move rfl
      apply ChainL.of (some 6) rfl rfl
      case h => exact step_move rfl
      apply ChainL.of (some 7) rfl rfl
      case h => (first | exact w_bin rfl rfl rfl (add_i64 rfl (by omega) (by omega)) | exact w_bin rfl rfl rfl rfl)
      apply ChainL.of (some 8) rfl rfl
      case h => (first | exact w_bin rfl rfl rfl (sub_i64 rfl (by omega) (by omega)) | exact w_bin rfl rfl rfl rfl)
      apply ChainL.of (some 9) rfl rfl
      case h => (first | exact w_bin rfl rfl rfl (quo_i64 (by omega) (by omega) (by omega) rfl) | exact w_bin rfl rfl rfl rfl)
      apply ChainL.of (some 10) rfl rfl
      case h => exact w_makeSlice tab rfl rfl rfl rfl 0 rfl rfl (by omega) (by dsimp only; omega) (by omega) (by decide) rfl rfl
      apply ChainL.of (some 11) rfl rfl
      case h => exact w_build tab rfl rfl (by decide) rfl rfl
      apply ChainL.of (some 12) rfl rfl
      case h => exact w_box rfl 1 rfl rfl rfl
      apply ChainL.of (some 2) rfl rfl
      case h => exact step_assign rfl
      exact .nil
    exact cwp_ret ⟨.inl rfl, resH_one rfl rfl, objs_ok rfl⟩
theorem new_pos (m : Int) (h : 0 ≤ m) (h2 : m ≤ 100000000) : HCall Tryd.prog 6 [] [.v (.int .i64 m)] [.ob ⟨1, List.replicate ((m + 64 - 1) / 64).toNat [.v (.int .u64 0)], false⟩, .ob ⟨2, [[.v (.int .i64 m), .own 0 0 ((m + 64 - 1) / 64).toNat]], false⟩] (.ref 1 0 0) := by
  refine HCall.of Tryd.func6 rfl (by decide +kernel) (Nat.le_of_ble_eq_true rfl) ?_
  apply seq_region
  case hc =>
    apply ChainL.of (some 2) rfl rfl
    case h => exact step_assign rfl
    exact .nil
  apply seq_region
  case hc =>
    apply ChainL.of (some 3) rfl rfl
    case h => exact step_move rfl
    apply ChainL.of (some 4) rfl rfl
    case h => (first | exact w_max rfl rfl rfl (if_pos (by omega)) | exact w_max rfl rfl rfl (if_neg (by omega)) | exact w_max rfl rfl rfl rfl)
    apply ChainL.of (some 0) rfl rfl
    case h => exact step_assign rfl
    exact .nil
  apply seq_region
  case hc =>
    apply ChainL.of (some 5) rfl rfl
    case h => exact step_move rfl
    apply ChainL.of (some 6) rfl rfl
    case h => exact step_move rfl
    apply ChainL.of (some 7) rfl rfl
    case h => (first | exact w_bin rfl rfl rfl (add_i64 rfl (by omega) (by omega)) | exact w_bin rfl rfl rfl rfl)
    apply ChainL.of (some 8) rfl rfl
    case h => (first | exact w_bin rfl rfl rfl (sub_i64 rfl (by omega) (by omega)) | exact w_bin rfl rfl rfl rfl)
    apply ChainL.of (some 9) rfl rfl
    case h => (first | exact w_bin rfl rfl rfl (quo_i64 (by omega) (by omega) (by omega) rfl) | exact w_bin rfl rfl rfl rfl)
    apply ChainL.of (some 10) rfl rfl
    case h => exact w_makeSlice tab rfl rfl rfl rfl 0 rfl rfl (by omega) (by dsimp only; omega) (by omega) (by decide) rfl rfl
    apply ChainL.of (some 11) rfl rfl
    case h => exact w_build tab rfl rfl (by decide) rfl rfl
    apply ChainL.of (some 12) rfl rfl
    case h => exact w_box rfl 1 rfl rfl rfl
    apply ChainL.of (some 2) rfl rfl
    case h => exact step_assign rfl
    exact .nil
  exact cwp_ret ⟨.inl rfl, resH_one rfl rfl, objs_ok rfl⟩
theorem many_ob (n : Int) (k : Nat) (ws : List Int) : HCall Tryd.prog 8 [sp n k, wd ws] [.ref 0 0 0] [.ob (sp n k), .ob (wd ws)] (.v (.int .i64 n)) := by
  refine HCall.of Tryd.func8 rfl (by decide +kernel) (Nat.le_of_ble_eq_true rfl) ?_
  apply seq_region
  case hc =>
    apply ChainL.of (some 2) rfl rfl
    case h => exact step_assign rfl
    exact .nil
  refine cwp_seq ?_
  apply seq_region
  case hc =>
    apply ChainL.of (some 3) rfl rfl
    case h => exact step_move rfl
    apply ChainL.of (some 4) rfl rfl
    case h => (first | exact w_nil_nil tab (b := true) rfl rfl rfl rfl rfl | exact w_ptr_nil tab (b := true) rfl rfl rfl rfl rfl)
    exact .nil
  refine cond_f rfl ?_
  refine cwp_skip ?_
  show Cwp _ _ _ _
  apply seq_region
  case hc =>
    apply ChainL.of (some 5) rfl rfl
    case h => exact step_move rfl
    apply ChainL.of (some 6) rfl rfl
    case h => (first | exact step_nilCheck rfl rfl | exact step_nilCheck_elt rfl rfl)
    apply ChainL.of (some 7) rfl rfl
    case h => (first | exact w_fieldAddr tab rfl rfl rfl rfl (by decide) rfl rfl | exact w_fieldAddr_elt tab rfl rfl rfl rfl (by decide) rfl rfl)
    apply ChainL.of (some 8) rfl rfl
    case h => (first | exact w_load tab rfl rfl rfl rfl rfl rfl rfl | exact w_load tab rfl rfl rfl rfl rfl (by assumption) rfl | exact w_load_elt tab rfl rfl rfl rfl rfl | exact w_loads tab rfl rfl rfl rfl rfl rfl rfl rfl | exact w_load_tab tab rfl rfl rfl rfl (.head _) (by kernel_rfl) | exact w_loads_elt tab rfl rfl rfl rfl rfl rfl)
    apply ChainL.of (some 2) rfl rfl
    case h => exact step_assign rfl
    exact .nil
  exact cwp_ret ⟨.inl rfl, resH_one rfl rfl, objs_ok rfl⟩
theorem in_t (n : Int) (k : Nat) (ws : List Int) (i : Int) (h0 : 0 ≤ i) (h1 : i < n) : HCall Tryd.prog 16 [sp n k, wd ws] [.ref 0 0 0, .v (.int .i64 i)] [.ob (sp n k), .ob (wd ws)] (.v (.bool true)) := by
  refine HCall.of Tryd.func16 rfl (by decide +kernel) (Nat.le_of_ble_eq_true rfl) ?_
  apply seq_region
  case hc =>
    apply ChainL.of (some 4) rfl rfl
    case h => exact step_assign rfl
    exact .nil
  apply seq_region
  case hc =>
    apply ChainL.of (some 5) rfl rfl
    case h => exact step_move rfl
    apply ChainL.of (some 6) rfl rfl
    case h => (first | exact w_nil_nil tab (b := false) rfl rfl rfl rfl rfl | exact w_ptr_nil tab (b := false) rfl rfl rfl rfl rfl)
    apply ChainL.of (some 7) rfl rfl
    case h => exact step_move rfl
    first
    | apply ChainL.off (some 8) 2 7 true rfl rfl rfl rfl
    | apply ChainL.on (some 8) 2 7 true rfl rfl rfl rfl
      case h => exact step_move rfl
    first
    | apply ChainL.off (some 9) 2 7 true rfl rfl rfl rfl
    | apply ChainL.on (some 9) 2 7 true rfl rfl rfl rfl
      case h => (first | exact w_bin rfl rfl rfl (geq_t (by omega)) | exact w_bin rfl rfl rfl (geq_f (by omega)) | exact w_bin rfl rfl rfl rfl)
    apply ChainL.of (some 10) rfl rfl
    case h => exact step_pick rfl rfl
    apply ChainL.of (some 11) rfl rfl
    case h => exact step_move rfl
    first
    | apply ChainL.off (some 12) 6 11 true rfl rfl rfl rfl
    | apply ChainL.on (some 12) 6 11 true rfl rfl rfl rfl
      case h => exact step_move rfl
    first
    | apply ChainL.off (some 13) 6 11 true rfl rfl rfl rfl
    | apply ChainL.on (some 13) 6 11 true rfl rfl rfl rfl
      case h => exact step_move rfl
    first
    | apply ChainL.off (some 14) 6 11 true rfl rfl rfl rfl
    | apply ChainL.on (some 14) 6 11 true rfl rfl rfl rfl
      case h => (first | exact step_nilCheck rfl rfl | exact step_nilCheck_elt rfl rfl)
    first
    | apply ChainL.off (some 15) 6 11 true rfl rfl rfl rfl
    | apply ChainL.on (some 15) 6 11 true rfl rfl rfl rfl
      case h => (first | exact w_fieldAddr tab rfl rfl rfl rfl (by decide) rfl rfl | exact w_fieldAddr_elt tab rfl rfl rfl rfl (by decide) rfl rfl)
    first
    | apply ChainL.off (some 16) 6 11 true rfl rfl rfl rfl
    | apply ChainL.on (some 16) 6 11 true rfl rfl rfl rfl
      case h => (first | exact w_load tab rfl rfl rfl rfl rfl rfl rfl | exact w_load tab rfl rfl rfl rfl rfl (by assumption) rfl | exact w_load_elt tab rfl rfl rfl rfl rfl | exact w_loads tab rfl rfl rfl rfl rfl rfl rfl rfl | exact w_load_tab tab rfl rfl rfl rfl (.head _) (by kernel_rfl) | exact w_loads_elt tab rfl rfl rfl rfl rfl rfl)
    first
    | apply ChainL.off (some 17) 6 11 true rfl rfl rfl rfl
    | apply ChainL.on (some 17) 6 11 true rfl rfl rfl rfl
      case h => (first | exact w_bin rfl rfl rfl (lss_t (by omega)) | exact w_bin rfl rfl rfl (lss_f (by omega)) | exact w_bin rfl rfl rfl rfl)
    apply ChainL.of (some 18) rfl rfl
    case h => exact step_pick rfl rfl
    apply ChainL.of (some 4) rfl rfl
    case h => exact step_assign rfl
    exact .nil
  exact cwp_ret ⟨.inl rfl, resH_one rfl rfl, objs_ok rfl⟩
theorem in_f1 (n : Int) (k : Nat) (ws : List Int) (i : Int) (h0 : ¬ 0 ≤ i) : HCall Tryd.prog 16 [sp n k, wd ws] [.ref 0 0 0, .v (.int .i64 i)] [.ob (sp n k), .ob (wd ws)] (.v (.bool false)) := by
  refine HCall.of Tryd.func16 rfl (by decide +kernel) (Nat.le_of_ble_eq_true rfl) ?_
  apply seq_region
  case hc =>
    apply ChainL.of (some 4) rfl rfl
    case h => exact step_assign rfl
    exact .nil
  apply seq_region
  case hc =>
    apply ChainL.of (some 5) rfl rfl
    case h => exact step_move rfl
    apply ChainL.of (some 6) rfl rfl
    case h => (first | exact w_nil_nil tab (b := false) rfl rfl rfl rfl rfl | exact w_ptr_nil tab (b := false) rfl rfl rfl rfl rfl)
    apply ChainL.of (some 7) rfl rfl
    case h => exact step_move rfl
    first
    | apply ChainL.off (some 8) 2 7 true rfl rfl rfl rfl
    | apply ChainL.on (some 8) 2 7 true rfl rfl rfl rfl
      case h => exact step_move rfl
    first
    | apply ChainL.off (some 9) 2 7 true rfl rfl rfl rfl
    | apply ChainL.on (some 9) 2 7 true rfl rfl rfl rfl
      case h => (first | exact w_bin rfl rfl rfl (geq_t (by omega)) | exact w_bin rfl rfl rfl (geq_f (by omega)) | exact w_bin rfl rfl rfl rfl)
    apply ChainL.of (some 10) rfl rfl
    case h => exact step_pick rfl rfl
    apply ChainL.of (some 11) rfl rfl
    case h => exact step_move rfl
    first
    | apply ChainL.off (some 12) 6 11 true rfl rfl rfl rfl
    | apply ChainL.on (some 12) 6 11 true rfl rfl rfl rfl
      case h => exact step_move rfl
    first
    | apply ChainL.off (some 13) 6 11 true rfl rfl rfl rfl
    | apply ChainL.on (some 13) 6 11 true rfl rfl rfl rfl
      case h => exact step_move rfl
    first
    | apply ChainL.off (some 14) 6 11 true rfl rfl rfl rfl
    | apply ChainL.on (some 14) 6 11 true rfl rfl rfl rfl
      case h => (first | exact step_nilCheck rfl rfl | exact step_nilCheck_elt rfl rfl)
    first
    | apply ChainL.off (some 15) 6 11 true rfl rfl rfl rfl
    | apply ChainL.on (some 15) 6 11 true rfl rfl rfl rfl
      case h => (first | exact w_fieldAddr tab rfl rfl rfl rfl (by decide) rfl rfl | exact w_fieldAddr_elt tab rfl rfl rfl rfl (by decide) rfl rfl)
    first
    | apply ChainL.off (some 16) 6 11 true rfl rfl rfl rfl
    | apply ChainL.on (some 16) 6 11 true rfl rfl rfl rfl
      case h => (first | exact w_load tab rfl rfl rfl rfl rfl rfl rfl | exact w_load tab rfl rfl rfl rfl rfl (by assumption) rfl | exact w_load_elt tab rfl rfl rfl rfl rfl | exact w_loads tab rfl rfl rfl rfl rfl rfl rfl rfl | exact w_load_tab tab rfl rfl rfl rfl (.head _) (by kernel_rfl) | exact w_loads_elt tab rfl rfl rfl rfl rfl rfl)
    first
    | apply ChainL.off (some 17) 6 11 true rfl rfl rfl rfl
    | apply ChainL.on (some 17) 6 11 true rfl rfl rfl rfl
      case h => (first | exact w_bin rfl rfl rfl (lss_t (by omega)) | exact w_bin rfl rfl rfl (lss_f (by omega)) | exact w_bin rfl rfl rfl rfl)
    apply ChainL.of (some 18) rfl rfl
    case h => exact step_pick rfl rfl
    apply ChainL.of (some 4) rfl rfl
    case h => exact step_assign rfl
    exact .nil
  exact cwp_ret ⟨.inl rfl, resH_one rfl rfl, objs_ok rfl⟩
theorem in_f2 (n : Int) (k : Nat) (ws : List Int) (i : Int) (h0 : 0 ≤ i) (h1 : ¬ i < n) : HCall Tryd.prog 16 [sp n k, wd ws] [.ref 0 0 0, .v (.int .i64 i)] [.ob (sp n k), .ob (wd ws)] (.v (.bool false)) := by
  refine HCall.of Tryd.func16 rfl (by decide +kernel) (Nat.le_of_ble_eq_true rfl) ?_
  apply seq_region
  case hc =>
    apply ChainL.of (some 4) rfl rfl
    case h => exact step_assign rfl
    exact .nil
  apply seq_region
  case hc =>
    apply ChainL.of (some 5) rfl rfl
    case h => exact step_move rfl
    apply ChainL.of (some 6) rfl rfl
    case h => (first | exact w_nil_nil tab (b := false) rfl rfl rfl rfl rfl | exact w_ptr_nil tab (b := false) rfl rfl rfl rfl rfl)
    apply ChainL.of (some 7) rfl rfl
    case h => exact step_move rfl
    first
    | apply ChainL.off (some 8) 2 7 true rfl rfl rfl rfl
    | apply ChainL.on (some 8) 2 7 true rfl rfl rfl rfl
      case h => exact step_move rfl
    first
    | apply ChainL.off (some 9) 2 7 true rfl rfl rfl rfl
    | apply ChainL.on (some 9) 2 7 true rfl rfl rfl rfl
      case h => (first | exact w_bin rfl rfl rfl (geq_t (by omega)) | exact w_bin rfl rfl rfl (geq_f (by omega)) | exact w_bin rfl rfl rfl rfl)
    apply ChainL.of (some 10) rfl rfl
    case h => exact step_pick rfl rfl
    apply ChainL.of (some 11) rfl rfl
    case h => exact step_move rfl
    first
    | apply ChainL.off (some 12) 6 11 true rfl rfl rfl rfl
    | apply ChainL.on (some 12) 6 11 true rfl rfl rfl rfl
      case h => exact step_move rfl
    first
    | apply ChainL.off (some 13) 6 11 true rfl rfl rfl rfl
    | apply ChainL.on (some 13) 6 11 true rfl rfl rfl rfl
      case h => exact step_move rfl
    first
    | apply ChainL.off (some 14) 6 11 true rfl rfl rfl rfl
    | apply ChainL.on (some 14) 6 11 true rfl rfl rfl rfl
      case h => (first | exact step_nilCheck rfl rfl | exact step_nilCheck_elt rfl rfl)
    first
    | apply ChainL.off (some 15) 6 11 true rfl rfl rfl rfl
    | apply ChainL.on (some 15) 6 11 true rfl rfl rfl rfl
      case h => (first | exact w_fieldAddr tab rfl rfl rfl rfl (by decide) rfl rfl | exact w_fieldAddr_elt tab rfl rfl rfl rfl (by decide) rfl rfl)
    first
    | apply ChainL.off (some 16) 6 11 true rfl rfl rfl rfl
    | apply ChainL.on (some 16) 6 11 true rfl rfl rfl rfl
      case h => (first | exact w_load tab rfl rfl rfl rfl rfl rfl rfl | exact w_load tab rfl rfl rfl rfl rfl (by assumption) rfl | exact w_load_elt tab rfl rfl rfl rfl rfl | exact w_loads tab rfl rfl rfl rfl rfl rfl rfl rfl | exact w_load_tab tab rfl rfl rfl rfl (.head _) (by kernel_rfl) | exact w_loads_elt tab rfl rfl rfl rfl rfl rfl)
    first
    | apply ChainL.off (some 17) 6 11 true rfl rfl rfl rfl
    | apply ChainL.on (some 17) 6 11 true rfl rfl rfl rfl
      case h => (first | exact w_bin rfl rfl rfl (lss_t (by omega)) | exact w_bin rfl rfl rfl (lss_f (by omega)) | exact w_bin rfl rfl rfl rfl)
    apply ChainL.of (some 18) rfl rfl
    case h => exact step_pick rfl rfl
    apply ChainL.of (some 4) rfl rfl
    case h => exact step_assign rfl
    exact .nil
  exact cwp_ret ⟨.inl rfl, resH_one rfl rfl, objs_ok rfl⟩
theorem wd_lt (m : Nat) (ws : List Int) : ltR m (wd ws).rows = true := by
  refine closedR_lt m ?_
  exact closedR_map _ (fun x => rfl) ws
theorem wd_ren (ρ : Nat → Nat) (ws : List Int) : (wd ws).ren ρ = wd ws := by
  show Ob.mk 1 (renR ρ (ws.map fun x => [.v (.int .u64 x)])) false = _
  rw [closedR_ren ρ (closedR_map _ (fun x => rfl) ws)]
  rfl
/-- The rows of what a call hands in and leaves. -/
theorem sp_hco (n : Int) (k a b : Nat) (ws : List Int) : [sp n k, wd ws].map (Ob.ren (nameH [a, b])) = [⟨2, [[.v (.int .i64 n), .own b 0 k]], false⟩, wd ws] := by
  show [_, Ob.ren _ (wd ws)] = _
  rw [wd_ren]
  rfl
theorem sp_hlt (n : Int) (k : Nat) (ws : List Int) : (([sp n k, wd ws] : List Ob).all fun o => ltR 2 o.rows) = true := by
  show (true && (ltR 2 (wd ws).rows && true)) = true
  rw [wd_lt]
  rfl
theorem sp_hok (n : Int) (k : Nat) (ws : List Int) : (([.ob (sp n k), .ob (wd ws)] : List OS).all (OS.okH 2)) = true := by
  show (true && (ltR 2 (wd ws).rows && true)) = true
  rw [wd_lt]
  rfl
theorem sp_zip (n : Int) (k a b : Nat) (ws : List Int) : frz [] ++ zipH (nameH [a, b]) [a, b] [.ob (sp n k), .ob (wd ws)] = [(a, .ob ⟨2, [[.v (.int .i64 n), .own b 0 k]], false⟩), (b, .ob (wd ws))] := by
  show [(a, OS.ob _), (b, OS.ob (Ob.ren _ (wd ws)))] = _
  rw [wd_ren]
  rfl
/-- Whether a place's bit is set, as the machine asks. -/
def bit (x i : Int) : Bool := IntKind.wrap .u64 (((BitVec.ofInt 64 (x.fdiv (2 ^ min (i % 64).toNat 64)) &&& BitVec.ofInt 64 1)).toNat : Nat) == 1
theorem used_t (n : Int) (k : Nat) (ws : List Int) (i x : Int) (h0 : 0 ≤ i) (h1 : i < n) (h9 : n ≤ 100000000) (hq : i / 64 < k) (hx : (wd ws).rows[0 + (i / 64).toNat]? = some [.v (.int .u64 x)]) :
    HCall Tryd.prog 11 [sp n k, wd ws] [.ref 0 0 0, .v (.int .i64 i)] [.ob (sp n k), .ob (wd ws)] (.v (.bool (bit x i))) := by
  refine HCall.of Tryd.func11 rfl (by decide +kernel) (Nat.le_of_ble_eq_true rfl) ?_
  apply seq_region
  case hc =>
    apply ChainL.of (some 4) rfl rfl
    case h => exact step_assign rfl
    exact .nil
  apply seq_region
  case hc =>
    apply ChainL.of (some 5) rfl rfl
    case h => exact step_move rfl
    apply ChainL.of (some 6) rfl rfl
    case h => exact step_move rfl
    apply ChainL.of (some 7) rfl rfl
    case h => exact w_call (in_t _ _ _ _ (by assumption) (by assumption)) [] [0, 1] [] Tryd.func16 rfl (by decide +kernel) rfl rfl .nil (by decide) (sp_hco _ _ 0 1 _) rfl rfl (sp_hlt _ _ _) rfl (sp_hok _ _ _) rfl rfl rfl rfl (sp_zip _ _ 0 1 _)
    apply ChainL.of (some 8) rfl rfl
    case h => exact w_un rfl rfl rfl
    apply ChainL.of (some 9) rfl rfl
    case h => exact step_move rfl
    first
    | apply ChainL.off (some 10) 4 9 false rfl rfl rfl rfl
    | apply ChainL.on (some 10) 4 9 false rfl rfl rfl rfl
      case h => exact step_move rfl
    first
    | apply ChainL.off (some 11) 4 9 false rfl rfl rfl rfl
    | apply ChainL.on (some 11) 4 9 false rfl rfl rfl rfl
      case h => (first | exact step_nilCheck rfl rfl | exact step_nilCheck_elt rfl rfl)
    first
    | apply ChainL.off (some 12) 4 9 false rfl rfl rfl rfl
    | apply ChainL.on (some 12) 4 9 false rfl rfl rfl rfl
      case h => (first | exact w_fieldAddr tab rfl rfl rfl rfl (by decide) rfl rfl | exact w_fieldAddr_elt tab rfl rfl rfl rfl (by decide) rfl rfl)
    first
    | apply ChainL.off (some 13) 4 9 false rfl rfl rfl rfl
    | apply ChainL.on (some 13) 4 9 false rfl rfl rfl rfl
      case h => (first | exact w_load tab rfl rfl rfl rfl rfl rfl rfl | exact w_load tab rfl rfl rfl rfl rfl (by assumption) rfl | exact w_load_elt tab rfl rfl rfl rfl rfl | exact w_loads tab rfl rfl rfl rfl rfl rfl rfl rfl | exact w_load_tab tab rfl rfl rfl rfl (.head _) (by kernel_rfl) | exact w_loads_elt tab rfl rfl rfl rfl rfl rfl)
    first
    | apply ChainL.off (some 14) 4 9 false rfl rfl rfl rfl
    | apply ChainL.on (some 14) 4 9 false rfl rfl rfl rfl
      case h => exact step_move rfl
    first
    | apply ChainL.off (some 15) 4 9 false rfl rfl rfl rfl
    | apply ChainL.on (some 15) 4 9 false rfl rfl rfl rfl
      case h => (first | exact w_bin rfl rfl rfl (quo_i64 (by omega) (by omega) (by omega) rfl) | exact w_bin rfl rfl rfl rfl)
    first
    | apply ChainL.off (some 16) 4 9 false rfl rfl rfl rfl
    | apply ChainL.on (some 16) 4 9 false rfl rfl rfl rfl
      case h => (first | exact w_index_own tab rfl rfl rfl rfl rfl rfl rfl rfl (by omega) (by omega) rfl | exact w_index_lst tab rfl rfl rfl rfl rfl rfl rfl (by omega) (by assumption))
    first
    | apply ChainL.off (some 17) 4 9 false rfl rfl rfl rfl
    | apply ChainL.on (some 17) 4 9 false rfl rfl rfl rfl
      case h => (first | exact w_load tab rfl rfl rfl rfl rfl rfl rfl | exact w_load tab rfl rfl rfl rfl rfl (by assumption) rfl | exact w_load_elt tab rfl rfl rfl rfl rfl | exact w_loads tab rfl rfl rfl rfl rfl rfl rfl rfl | exact w_load_tab tab rfl rfl rfl rfl (.head _) (by kernel_rfl) | exact w_loads_elt tab rfl rfl rfl rfl rfl rfl)
    first
    | apply ChainL.off (some 18) 4 9 false rfl rfl rfl rfl
    | apply ChainL.on (some 18) 4 9 false rfl rfl rfl rfl
      case h => exact step_move rfl
    first
    | apply ChainL.off (some 19) 4 9 false rfl rfl rfl rfl
    | apply ChainL.on (some 19) 4 9 false rfl rfl rfl rfl
      case h => (first | exact w_bin rfl rfl rfl (rem_i64 (by omega) (by omega) rfl) | exact w_bin rfl rfl rfl rfl)
    first
    | apply ChainL.off (some 20) 4 9 false rfl rfl rfl rfl
    | apply ChainL.on (some 20) 4 9 false rfl rfl rfl rfl
      case h => (first | exact w_bin rfl rfl rfl (shr_ok (by omega)) | exact w_bin rfl rfl rfl rfl)
    first
    | apply ChainL.off (some 21) 4 9 false rfl rfl rfl rfl
    | apply ChainL.on (some 21) 4 9 false rfl rfl rfl rfl
      case h => exact w_bin rfl rfl rfl rfl
    first
    | apply ChainL.off (some 22) 4 9 false rfl rfl rfl rfl
    | apply ChainL.on (some 22) 4 9 false rfl rfl rfl rfl
      case h => (first | exact w_bin rfl rfl rfl (eql_t (by omega)) | exact w_bin rfl rfl rfl (eql_f (by omega)) | exact w_bin rfl rfl rfl rfl)
    apply ChainL.of (some 23) rfl rfl
    case h => exact step_pick rfl rfl
    apply ChainL.of (some 4) rfl rfl
    case h => exact step_assign rfl
    exact .nil
  exact cwp_ret ⟨.inl rfl, resH_one rfl rfl, objs_ok rfl⟩
end Go.Proofs.YtcbbpidnocgoiaaDoor.Sp


/- Places: using, freeing and copying, whatever the places. -/
import Derived.Test.YtcbbpidnocgoiaaDoorSpE
namespace Go.Proofs.YtcbbpidnocgoiaaDoor.Sp
open Go Go.RowKit Go.Proofs.YtcbbpidnocgoiaaDoor.Eng
set_option linter.unusedVariables false
set_option linter.unusedSimpArgs false
set_option maxRecDepth 20000
/-- A word with a place's bit set, and cleared, as the machine does it. -/
def orv (x i : Int) : Int := IntKind.wrap .u64 (((BitVec.ofInt 64 x ||| BitVec.ofInt 64 (IntKind.wrap .u64 (1 * 2 ^ min (i % 64).toNat 64)))).toNat : Nat)
def anv (x i : Int) : Int := IntKind.wrap .u64 (((BitVec.ofInt 64 x &&& ~~~BitVec.ofInt 64 (IntKind.wrap .u64 (1 * 2 ^ min (i % 64).toNat 64)))).toNat : Nat)
theorem wd_set (ws : List Int) (q : Nat) (y : Int) : wd (ws.set q y) = ⟨1, (wd ws).rows.set (0 + q) [.v (.int .u64 y)], false⟩ := by
  simp [wd, List.map_set]
theorem used_b (n : Int) (k : Nat) (ws : List Int) (i x : Int) (b : Bool) (h0 : 0 ≤ i) (h1 : i < n) (h9 : n ≤ 100000000) (hq : i / 64 < k) (hx : (wd ws).rows[0 + (i / 64).toNat]? = some [.v (.int .u64 x)]) (hb : bit x i = b) :
    HCall Tryd.prog 11 [sp n k, wd ws] [.ref 0 0 0, .v (.int .i64 i)] [.ob (sp n k), .ob (wd ws)] (.v (.bool b)) := by
  subst hb
  exact used_t n k ws i x h0 h1 h9 hq hx
theorem use_g (n : Int) (k : Nat) (ws : List Int) (i x : Int) (h0 : 0 ≤ i) (h1 : i < n) (h9 : n ≤ 100000000) (hq : i / 64 < k) (hx : (wd ws).rows[0 + (i / 64).toNat]? = some [.v (.int .u64 x)]) (hb : bit x i = false) :
    HCall Tryd.prog 9 [sp n k, wd ws] [.ref 0 0 0, .v (.int .i64 i)] [.ob (sp n k), .ob (wd (ws.set (i / 64).toNat (orv x i)))] (.v (.bool true)) := by
  have hu := used_b n k ws i x false h0 h1 h9 hq hx hb
  refine HCall.of Tryd.func9 rfl (by decide +kernel) (Nat.le_of_ble_eq_true rfl) ?_
  refine cwp_seq ?_
  apply one_region
  case hc =>
    apply ChainL.of (some 4) rfl rfl
    case h => exact step_assign rfl
    exact .nil
  show Cwp _ _ _ _
  refine cwp_seq ?_
  refine cwp_seq ?_
  apply one_region
  case hc =>
    apply ChainL.of (some 5) rfl rfl
    case h => exact step_move rfl
    apply ChainL.of (some 6) rfl rfl
    case h => exact step_move rfl
    apply ChainL.of (some 7) rfl rfl
    case h => exact w_call hu [] [0, 1] [] Tryd.func11 rfl (by decide +kernel) rfl rfl .nil (by decide) (sp_hco _ _ 0 1 _) rfl rfl (sp_hlt _ _ _) rfl (sp_hok _ _ _) rfl rfl rfl rfl (sp_zip _ _ 0 1 _)
    exact .nil
  show Cwp _ _ _ _
  refine cond_f (by first | rfl | kernel_rfl) ?_
  refine cwp_skip ?_
  show Cwp _ _ _ _
  refine cwp_seq ?_
  apply one_region_draw [0, 1, 3, 7, 0, 16, 63, 127, 0, 256, 768, 2047, 4095, 8191] rfl
  case hc =>
    apply ChainL.of (some 8) rfl rfl
    case h => exact step_move rfl
    apply ChainL.of (some 9) rfl rfl
    case h => (first | exact step_nilCheck rfl rfl | exact step_nilCheck_elt rfl rfl)
    apply ChainL.of (some 10) rfl rfl
    case h => (first | exact w_fieldAddr tab rfl rfl rfl rfl (by decide) rfl rfl | exact w_fieldAddr_elt tab rfl rfl rfl rfl (by decide) rfl rfl)
    apply ChainL.of (some 11) rfl rfl
    case h => (first | exact w_load tab rfl rfl rfl rfl rfl rfl rfl | exact w_load tab rfl rfl rfl rfl rfl (by assumption) rfl | exact w_load_elt tab rfl rfl rfl rfl rfl | exact w_loads tab rfl rfl rfl rfl rfl rfl rfl rfl | exact w_load_tab tab rfl rfl rfl rfl (.head _) (by kernel_rfl) | exact w_loads_elt tab rfl rfl rfl rfl rfl rfl)
    apply ChainL.of (some 12) rfl rfl
    case h => exact step_move rfl
    apply ChainL.of (some 13) rfl rfl
    case h => (first | exact w_bin rfl rfl rfl (quo_i64 (by omega) (by omega) (by omega) rfl) | exact w_bin rfl rfl rfl rfl)
    apply ChainL.of (some 14) rfl rfl
    case h => (first | exact w_index_own tab rfl rfl rfl rfl rfl rfl rfl rfl (by omega) (by omega) rfl | exact w_index_lst tab rfl rfl rfl rfl rfl rfl rfl (by omega) (by assumption))
    apply ChainL.of (some 15) rfl rfl
    case h => (first | exact w_load tab rfl rfl rfl rfl rfl rfl rfl | exact w_load tab rfl rfl rfl rfl rfl (by assumption) rfl | exact w_load_elt tab rfl rfl rfl rfl rfl | exact w_loads tab rfl rfl rfl rfl rfl rfl rfl rfl | exact w_load_tab tab rfl rfl rfl rfl (.head _) (by kernel_rfl) | exact w_loads_elt tab rfl rfl rfl rfl rfl rfl)
    apply ChainL.of (some 16) rfl rfl
    case h => exact step_move rfl
    apply ChainL.of (some 17) rfl rfl
    case h => (first | exact w_bin rfl rfl rfl (rem_i64 (by omega) (by omega) rfl) | exact w_bin rfl rfl rfl rfl)
    apply ChainL.of (some 18) rfl rfl
    case h => (first | exact w_bin rfl rfl rfl (shl_ok (by omega)) | exact w_bin rfl rfl rfl rfl)
    apply ChainL.of (some 19) rfl rfl
    case h => exact w_bin rfl rfl rfl rfl
    apply ChainL.of (some 20) rfl rfl
    case h => (first | exact w_index_own tab rfl rfl rfl rfl rfl rfl rfl rfl (by omega) (by omega) rfl | exact w_index_lst tab rfl rfl rfl rfl rfl rfl rfl (by omega) (by assumption))
    apply ChainL.of none rfl rfl
    case h => (first | exact w_store tab rfl rfl rfl rfl rfl rfl rfl rfl rfl (Nat.le_of_ble_eq_true rfl) rfl rfl | exact w_store tab rfl rfl rfl rfl rfl (by assumption) rfl rfl rfl (Nat.le_of_ble_eq_true rfl) rfl rfl)
    exact .nil
  case hB => decide +kernel
  case hI => kernel_rfl
  show Cwp _ _ _ _
  refine cwp_seq ?_
  apply one_region
  case hc =>
    apply ChainL.of (some 4) rfl rfl
    case h => exact step_assign rfl
    exact .nil
  show Cwp _ _ _ _
  refine cwp_ret ?_
  exact ⟨.inl rfl, resH_one rfl rfl, objs_ok (by rw [wd_set]; rfl)⟩
theorem free_g (n : Int) (k : Nat) (ws : List Int) (i x : Int) (h0 : 0 ≤ i) (h1 : i < n) (h9 : n ≤ 100000000) (hq : i / 64 < k) (hx : (wd ws).rows[0 + (i / 64).toNat]? = some [.v (.int .u64 x)]) (hb : bit x i = true) :
    HCall Tryd.prog 10 [sp n k, wd ws] [.ref 0 0 0, .v (.int .i64 i)] [.ob (sp n k), .ob (wd (ws.set (i / 64).toNat (anv x i)))] (.v (.bool true)) := by
  have hi := in_t n k ws i h0 h1
  have hu := used_b n k ws i x true h0 h1 h9 hq hx hb
  refine HCall.of Tryd.func10 rfl (by decide +kernel) (Nat.le_of_ble_eq_true rfl) ?_
  refine cwp_seq ?_
  apply one_region
  case hc =>
    apply ChainL.of (some 4) rfl rfl
    case h => exact step_assign rfl
    exact .nil
  show Cwp _ _ _ _
  refine cwp_seq ?_
  refine cwp_seq ?_
  apply one_region
  case hc =>
    apply ChainL.of (some 5) rfl rfl
    case h => exact step_move rfl
    apply ChainL.of (some 6) rfl rfl
    case h => exact step_move rfl
    apply ChainL.of (some 7) rfl rfl
    case h => exact w_call hi [] [0, 1] [] Tryd.func16 rfl (by decide +kernel) rfl rfl .nil (by decide) (sp_hco _ _ 0 1 _) rfl rfl (sp_hlt _ _ _) rfl (sp_hok _ _ _) rfl rfl rfl rfl (sp_zip _ _ 0 1 _)
    apply ChainL.of (some 8) rfl rfl
    case h => exact w_un rfl rfl rfl
    apply ChainL.of (some 9) rfl rfl
    case h => exact step_move rfl
    first
    | apply ChainL.off (some 10) 4 9 false rfl rfl rfl rfl
    | apply ChainL.on (some 10) 4 9 false rfl rfl rfl rfl
      case h => exact step_move rfl
    first
    | apply ChainL.off (some 11) 4 9 false rfl rfl rfl rfl
    | apply ChainL.on (some 11) 4 9 false rfl rfl rfl rfl
      case h => exact step_move rfl
    first
    | apply ChainL.off (some 12) 4 9 false rfl rfl rfl rfl
    | apply ChainL.on (some 12) 4 9 false rfl rfl rfl rfl
      case h => exact w_call hu [] [0, 1] [] Tryd.func11 rfl (by decide +kernel) rfl rfl .nil (by decide) (sp_hco _ _ 0 1 _) rfl rfl (sp_hlt _ _ _) rfl (sp_hok _ _ _) rfl rfl rfl rfl (sp_zip _ _ 0 1 _)
    first
    | apply ChainL.off (some 13) 4 9 false rfl rfl rfl rfl
    | apply ChainL.on (some 13) 4 9 false rfl rfl rfl rfl
      case h => exact w_un rfl rfl rfl
    apply ChainL.of (some 14) rfl rfl
    case h => exact step_pick rfl rfl
    exact .nil
  show Cwp _ _ _ _
  refine cond_f (by first | rfl | kernel_rfl) ?_
  refine cwp_skip ?_
  show Cwp _ _ _ _
  refine cwp_seq ?_
  apply one_region_draw [0, 1, 3, 7, 0, 16, 63, 127, 0, 256, 768, 2047, 4095, 8191] rfl
  case hc =>
    apply ChainL.of (some 15) rfl rfl
    case h => exact step_move rfl
    apply ChainL.of (some 16) rfl rfl
    case h => (first | exact step_nilCheck rfl rfl | exact step_nilCheck_elt rfl rfl)
    apply ChainL.of (some 17) rfl rfl
    case h => (first | exact w_fieldAddr tab rfl rfl rfl rfl (by decide) rfl rfl | exact w_fieldAddr_elt tab rfl rfl rfl rfl (by decide) rfl rfl)
    apply ChainL.of (some 18) rfl rfl
    case h => (first | exact w_load tab rfl rfl rfl rfl rfl rfl rfl | exact w_load tab rfl rfl rfl rfl rfl (by assumption) rfl | exact w_load_elt tab rfl rfl rfl rfl rfl | exact w_loads tab rfl rfl rfl rfl rfl rfl rfl rfl | exact w_load_tab tab rfl rfl rfl rfl (.head _) (by kernel_rfl) | exact w_loads_elt tab rfl rfl rfl rfl rfl rfl)
    apply ChainL.of (some 19) rfl rfl
    case h => exact step_move rfl
    apply ChainL.of (some 20) rfl rfl
    case h => (first | exact w_bin rfl rfl rfl (quo_i64 (by omega) (by omega) (by omega) rfl) | exact w_bin rfl rfl rfl rfl)
    apply ChainL.of (some 21) rfl rfl
    case h => (first | exact w_index_own tab rfl rfl rfl rfl rfl rfl rfl rfl (by omega) (by omega) rfl | exact w_index_lst tab rfl rfl rfl rfl rfl rfl rfl (by omega) (by assumption))
    apply ChainL.of (some 22) rfl rfl
    case h => (first | exact w_load tab rfl rfl rfl rfl rfl rfl rfl | exact w_load tab rfl rfl rfl rfl rfl (by assumption) rfl | exact w_load_elt tab rfl rfl rfl rfl rfl | exact w_loads tab rfl rfl rfl rfl rfl rfl rfl rfl | exact w_load_tab tab rfl rfl rfl rfl (.head _) (by kernel_rfl) | exact w_loads_elt tab rfl rfl rfl rfl rfl rfl)
    apply ChainL.of (some 23) rfl rfl
    case h => exact step_move rfl
    apply ChainL.of (some 24) rfl rfl
    case h => (first | exact w_bin rfl rfl rfl (rem_i64 (by omega) (by omega) rfl) | exact w_bin rfl rfl rfl rfl)
    apply ChainL.of (some 25) rfl rfl
    case h => (first | exact w_bin rfl rfl rfl (shl_ok (by omega)) | exact w_bin rfl rfl rfl rfl)
    apply ChainL.of (some 26) rfl rfl
    case h => exact w_bin rfl rfl rfl rfl
    apply ChainL.of (some 27) rfl rfl
    case h => (first | exact w_index_own tab rfl rfl rfl rfl rfl rfl rfl rfl (by omega) (by omega) rfl | exact w_index_lst tab rfl rfl rfl rfl rfl rfl rfl (by omega) (by assumption))
    apply ChainL.of none rfl rfl
    case h => (first | exact w_store tab rfl rfl rfl rfl rfl rfl rfl rfl rfl (Nat.le_of_ble_eq_true rfl) rfl rfl | exact w_store tab rfl rfl rfl rfl rfl (by assumption) rfl rfl rfl (Nat.le_of_ble_eq_true rfl) rfl rfl)
    exact .nil
  case hB => decide +kernel
  case hI => kernel_rfl
  show Cwp _ _ _ _
  refine cwp_seq ?_
  apply one_region
  case hc =>
    apply ChainL.of (some 4) rfl rfl
    case h => exact step_assign rfl
    exact .nil
  show Cwp _ _ _ _
  refine cwp_ret ?_
  exact ⟨.inl rfl, resH_one rfl rfl, objs_ok (by rw [wd_set]; rfl)⟩
abbrev kk (n : Int) : Nat := ((n + 64 - 1) / 64).toNat
def zs (n : Int) : List Int := List.replicate (kk n) 0
theorem wd_zs (n : Int) : wd (zs n) = ⟨1, List.replicate (kk n) [.v (.int .u64 0)], false⟩ := by simp [wd, zs]
theorem new_g (n : Int) (h : 0 ≤ n) (h2 : n ≤ 100000000) : HCall Tryd.prog 6 [] [.v (.int .i64 n)] [.ob (wd (zs n)), .ob ⟨2, [[.v (.int .i64 n), .own 0 0 (kk n)]], false⟩] (.ref 1 0 0) := by
  rw [wd_zs]
  exact new_pos n h h2
theorem new_hok (n : Int) (k : Nat) (ws : List Int) : (([.ob (wd ws), .ob ⟨2, [[.v (.int .i64 n), .own 0 0 k]], false⟩] : List OS).all (OS.okH 2)) = true := by
  show (ltR 2 (wd ws).rows && (true && true)) = true
  rw [wd_lt]
  rfl
theorem new_zip (n : Int) (k a b : Nat) (ws : List Int) : frz [] ++ zipH (nameH [a, b]) [a, b] [.ob (wd ws), .ob ⟨2, [[.v (.int .i64 n), .own 0 0 k]], false⟩] = [(a, .ob (wd ws)), (b, .ob ⟨2, [[.v (.int .i64 n), .own a 0 k]], false⟩)] := by
  show [(a, OS.ob (Ob.ren _ (wd ws))), (b, OS.ob _)] = _
  rw [wd_ren]
  rfl
theorem wd_one (ws : List Int) : ((wd ws).rows.all fun r => r.all SV.one) = true := by simp [wd, SV.one, Value.oneCell']
theorem copy_g (n : Int) (ws : List Int) (h : 0 ≤ n) (h2 : n ≤ 100000000) (hk : (wd ws).rows.length = kk n) : HCall Tryd.prog 15 [sp n (kk n), wd ws] [.ref 0 0 0] [.ob (sp n (kk n)), .ob (wd ws), .ob (wd ws), .ob ⟨2, [[.v (.int .i64 n), .own 2 0 (kk n)]], false⟩] (.ref 3 0 0) := by
  have hn := new_g n h h2
  have hz : (wd (zs n)).rows.length = kk n := by simp [wd, zs]
  have ho := wd_one ws
  refine HCall.of Tryd.func15 rfl (by decide +kernel) (Nat.le_of_ble_eq_true rfl) ?_
  refine cwp_seq ?_
  apply one_region
  case hc =>
    apply ChainL.of (some 2) rfl rfl
    case h => exact step_assign rfl
    exact .nil
  show Cwp _ _ _ _
  refine cwp_seq ?_
  refine cwp_seq ?_
  apply one_region
  case hc =>
    apply ChainL.of (some 4) rfl rfl
    case h => exact step_move rfl
    apply ChainL.of (some 5) rfl rfl
    case h => (first | exact w_nil_nil tab (b := true) rfl rfl rfl rfl rfl | exact w_ptr_nil tab (b := true) rfl rfl rfl rfl rfl)
    exact .nil
  show Cwp _ _ _ _
  refine cond_f (by first | rfl | kernel_rfl) ?_
  refine cwp_skip ?_
  show Cwp _ _ _ _
  refine cwp_seq ?_
  apply one_region
  case hc =>
    apply ChainL.of (some 6) rfl rfl
    case h => exact step_move rfl
    apply ChainL.of (some 7) rfl rfl
    case h => (first | exact step_nilCheck rfl rfl | exact step_nilCheck_elt rfl rfl)
    apply ChainL.of (some 8) rfl rfl
    case h => (first | exact w_fieldAddr tab rfl rfl rfl rfl (by decide) rfl rfl | exact w_fieldAddr_elt tab rfl rfl rfl rfl (by decide) rfl rfl)
    apply ChainL.of (some 9) rfl rfl
    case h => (first | exact w_load tab rfl rfl rfl rfl rfl rfl rfl | exact w_load tab rfl rfl rfl rfl rfl (by assumption) rfl | exact w_load_elt tab rfl rfl rfl rfl rfl | exact w_loads tab rfl rfl rfl rfl rfl rfl rfl rfl | exact w_load_tab tab rfl rfl rfl rfl (.head _) (by kernel_rfl) | exact w_loads_elt tab rfl rfl rfl rfl rfl rfl)
    apply ChainL.of (some 10) rfl rfl
    case h => exact w_call hn [] [] [2, 3] Tryd.func6 rfl (by decide +kernel) rfl rfl .nil (by decide) rfl rfl rfl rfl rfl (new_hok _ _ _) rfl rfl rfl rfl (new_zip _ _ 2 3 _)
    apply ChainL.of (some 3) rfl rfl
    case h => exact step_assign rfl
    exact .nil
  show Cwp _ _ _ _
  refine cwp_seq ?_
  apply one_region_draw [0, 1, 3, 7, 0, 16, 48, 112, 255] rfl
  case hc =>
    apply ChainL.of (some 11) rfl rfl
    case h => exact step_move rfl
    apply ChainL.of (some 12) rfl rfl
    case h => (first | exact step_nilCheck rfl rfl | exact step_nilCheck_elt rfl rfl)
    apply ChainL.of (some 13) rfl rfl
    case h => (first | exact w_fieldAddr tab rfl rfl rfl rfl (by decide) rfl rfl | exact w_fieldAddr_elt tab rfl rfl rfl rfl (by decide) rfl rfl)
    apply ChainL.of (some 14) rfl rfl
    case h => (first | exact w_load tab rfl rfl rfl rfl rfl rfl rfl | exact w_load tab rfl rfl rfl rfl rfl (by assumption) rfl | exact w_load_elt tab rfl rfl rfl rfl rfl | exact w_loads tab rfl rfl rfl rfl rfl rfl rfl rfl | exact w_load_tab tab rfl rfl rfl rfl (.head _) (by kernel_rfl) | exact w_loads_elt tab rfl rfl rfl rfl rfl rfl)
    apply ChainL.of (some 15) rfl rfl
    case h => exact step_move rfl
    apply ChainL.of (some 16) rfl rfl
    case h => (first | exact step_nilCheck rfl rfl | exact step_nilCheck_elt rfl rfl)
    apply ChainL.of (some 17) rfl rfl
    case h => (first | exact w_fieldAddr tab rfl rfl rfl rfl (by decide) rfl rfl | exact w_fieldAddr_elt tab rfl rfl rfl rfl (by decide) rfl rfl)
    apply ChainL.of (some 18) rfl rfl
    case h => (first | exact w_load tab rfl rfl rfl rfl rfl rfl rfl | exact w_load tab rfl rfl rfl rfl rfl (by assumption) rfl | exact w_load_elt tab rfl rfl rfl rfl rfl | exact w_loads tab rfl rfl rfl rfl rfl rfl rfl rfl | exact w_load_tab tab rfl rfl rfl rfl (.head _) (by kernel_rfl) | exact w_loads_elt tab rfl rfl rfl rfl rfl rfl)
    apply ChainL.of (some 19) rfl rfl
    case h => exact w_copy_all tab rfl rfl rfl rfl rfl rfl rfl rfl rfl (by assumption) rfl rfl rfl (by assumption) (by assumption)
    exact .nil
  case hB => decide +kernel
  case hI => kernel_rfl
  show Cwp _ _ _ _
  refine cwp_seq ?_
  apply one_region
  case hc =>
    apply ChainL.of (some 20) rfl rfl
    case h => exact step_move rfl
    apply ChainL.of (some 2) rfl rfl
    case h => exact step_assign rfl
    exact .nil
  show Cwp _ _ _ _
  refine cwp_ret ?_
  exact ⟨.inl rfl, resH_one rfl rfl, objs_ok rfl⟩
end Go.Proofs.YtcbbpidnocgoiaaDoor.Sp


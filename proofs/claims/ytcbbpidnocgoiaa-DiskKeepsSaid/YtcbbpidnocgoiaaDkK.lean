/- Disks: what was flushed is there. -/
import Derived.Test.YtcbbpidnocgoiaaDkJ
namespace Go.Proofs.Ytcbbpidnocgoiaa.Dk
open Go Go.RowKit Go.Proofs.Ytcbbpidnocgoiaa.Eng
set_option linter.unusedVariables false
set_option linter.unusedSimpArgs false
set_option maxRecDepth 20000
theorem cutl_closed (a : Int) (F : List Int) : closedR (cutO a (.lst 1 (F.map fun s => [.v (.int .i64 s)]))).rows = true := by
  show ((true && (closedR (F.map fun s => [SV.v (.int .i64 s)]) && true)) && true) = true
  rw [closedR_map _ (fun x => rfl) F]
  rfl
theorem cutl_lt (m : Nat) (a : Int) (F : List Int) : ltR m (cutO a (.lst 1 (F.map fun s => [.v (.int .i64 s)]))).rows = true := closedR_lt m (cutl_closed a F)
theorem cutl_ren (ρ : Nat → Nat) (a : Int) (F : List Int) : (cutO a (.lst 1 (F.map fun s => [.v (.int .i64 s)]))).ren ρ = cutO a (.lst 1 (F.map fun s => [.v (.int .i64 s)])) := by
  show Ob.mk 2 (renR ρ (cutO a (.lst 1 (F.map fun s => [.v (.int .i64 s)]))).rows) false = _
  rw [closedR_ren ρ (cutl_closed a F)]
  rfl
theorem os_cutl (ρ : Nat → Nat) (a : Int) (F : List Int) : OS.ren ρ (.ob (cutO a (.lst 1 (F.map fun s => [.v (.int .i64 s)])))) = .ob (cutO a (.lst 1 (F.map fun s => [.v (.int .i64 s)]))) := congrArg OS.ob (cutl_ren ρ a F)
theorem full_size (t : ByteArray) (h : t.size ≤ 256) : (full t).size = 256 := by
  unfold full
  rw [ByteArray.size_append, strOfNums_size, List.length_replicate]
  omega
theorem full_cut (t : ByteArray) : (full t).extract 0 t.size = t := by
  unfold full
  exact ByteArray.extract_append_eq_left rfl
theorem eq_self (t : ByteArray) : abin .eql (.string t) (.string t) = some (.bool true) := by simp [abin]
theorem keeps_5_0 (at_ c : Int) (s : ByteArray) (q : Nat) (hq : q < 8) (h7 : abin .and (.int .i64 at_) (.int .i64 7) = some (.int .i64 (q : Int))) (h3 : abin .and (.int .i64 c) (.int .i64 3) = some (.int .i64 0)) (hs : s.size ≤ 140737488351232) :
    HCall Try.prog 3 [] [.v (.int .i64 at_), .v (.string s), .agg [.v (.int .i64 c), .lst 1 []]] [] (.v (.bool true)) := by
  obtain ⟨h, hh⟩ : ∃ h, min s.size 256 = h := ⟨_, rfl⟩
  obtain ⟨t, ht⟩ : ∃ t, s.extract 0 h = t := ⟨_, rfl⟩
  have hle : h ≤ s.size := by omega
  have hts : t.size = h := by rw [← ht, ByteArray.size_extract]; omega
  have ht6 : t.size ≤ 256 := by omega
  have hmin : (if (256 : Int) < (s.size : Int) then (256 : Int) else (s.size : Int)) = ((h : Nat) : Int) := by split <;> omega
  have zl : zD.length = 9 := rfl
  have tl : zT.length = 9 := rfl
  have zq : zD[q]? = some ⟨#[]⟩ := by simp only [zD, List.getElem?_replicate]; rw [if_pos (by omega)]
  have tq : zT[q]? = some false := by simp only [zT, List.getElem?_replicate]; rw [if_pos (by omega)]
  have c6 := new9_5 (2 + 0)
  have c8 := write0_4 0 (2 + 0) 0 (by decide) (by decide) (by decide) zD zT q (by omega) (by omega) t ht6 zl
  have c9 := flush_5 (0 + 1) (2 + 0) 0 (by decide) (by decide) (by decide) zD zT q (by omega) t _ _ zq tq
  obtain ⟨D, hD⟩ : ∃ D, zD.set q (full t) = D := ⟨_, rfl⟩
  obtain ⟨T, hT⟩ : ∃ T, zT.set q false = T := ⟨_, rfl⟩
  rw [hD, hT] at c9
  have Dl : D.length = 9 := by rw [← hD, List.length_set]; rfl
  have Tl : T.length = 9 := by rw [← hT, List.length_set]; rfl
  have Dq : D[q]? = some (full t) := by rw [← hD, List.getElem?_set_self (by rw [zl]; omega)]
  have Tq : T[q]? = some false := by rw [← hT, List.getElem?_set_self (by rw [tl]; omega)]
  have w0 := wfail_5_0 (0 + 1 + 1) (2 + 0) 0 (by decide) (by decide) (by decide) (by decide) (by decide) (by decide) D T Dl Tl
  have d1 := dead_is (.v (.slice none 0 0)) (.lst 2 []) (0 + 1 + 1 + 1) (0 + 1 + 1 + 1) (0 + 1) (strs (itD [] D 1)) (bools (itT [] T 1))
  have d2 := up_is (.v (.slice none 0 0)) (.lst 2 []) (0 + 1 + 1 + 1) (0 + 1 + 1 + 1) (0 + 1) (strs (itD [] D 1)) (bools (itT [] T 1))
  have d3 := read_end 0 (0 + 1 + 1 + 1) (0 + 1) (by decide) (by decide) (by decide) (by decide) (itD [] D 1) (itT [] T 1) (by rw [itD_len, Dl]) q (by omega) (full t) (by rw [full_size t ht6]; decide) (by rw [itD_at _ _ _ (by omega), Dq]) (by rw [itT_at _ _ _ (by omega), Tq])
  have d4 := fails_is (.v (.slice none 0 0)) (.lst 2 []) (0 + 1) (0 + 1 + 1 + 1 + 1) (0 + 1) false (strs (itD [] D 1)) (bools (itT [] T 1))
  refine HCall.of Try.func3 rfl (by decide +kernel) (Nat.le_of_ble_eq_true rfl) ?_
  refine cwp_seq ?_
  apply one_region
  case hc =>
    apply ChainL.of (some 5) rfl rfl
    case h => exact w_box rfl 100 rfl rfl rfl
    apply ChainL.of (some 6) rfl rfl
    case h => exact step_assign rfl
    exact .nil
  show Cwp _ _ _ _
  refine cwp_seq ?_
  apply one_region
  case hc =>
    apply ChainL.of (some 15) rfl rfl
    case h => exact step_move rfl
    apply ChainL.of (some 16) rfl rfl
    case h => exact w_bin rfl rfl rfl h7
    apply ChainL.of (some 7) rfl rfl
    case h => exact step_assign rfl
    exact .nil
  show Cwp _ _ _ _
  refine cwp_seq ?_
  apply one_region
  case hc =>
    apply ChainL.of (some 17) rfl rfl
    case h => exact step_move rfl
    apply ChainL.of (some 18) rfl rfl
    case h => exact step_move rfl
    apply ChainL.of (some 19) rfl rfl
    case h => exact w_len_str (T := 9) (by kernel_rfl) rfl rfl rfl
    apply ChainL.of (some 20) rfl rfl
    case h => exact w_min rfl rfl rfl hmin
    apply ChainL.of (some 21) rfl rfl
    case h => exact w_cut_str (lo := none) (hi := some (.tmp 20)) (T := 9) (by kernel_rfl) rfl rfl 0 h rfl ⟨.i64, rfl⟩ (Nat.zero_le _) hle ht
    apply ChainL.of (some 8) rfl rfl
    case h => exact step_assign rfl
    exact .nil
  show Cwp _ _ _ _
  refine cwp_seq ?_
  apply one_region
  case hc =>
    apply ChainL.of (some 22) rfl rfl
    case h => (first | exact w_fieldAddr tab rfl rfl rfl rfl (by decide) rfl rfl | exact w_fieldAddr_elt tab rfl rfl rfl rfl (by decide) rfl rfl)
    apply ChainL.of (some 23) rfl rfl
    case h => (first | exact w_load tab rfl rfl rfl rfl rfl rfl rfl | exact w_load tab rfl rfl rfl rfl rfl (by assumption) rfl | exact w_load_elt tab rfl rfl rfl rfl rfl | exact w_loads tab rfl rfl rfl rfl rfl rfl rfl rfl | exact w_load_tab tab rfl rfl rfl rfl (.head _) (by kernel_rfl) | exact w_loads_elt tab rfl rfl rfl rfl rfl rfl)
    apply ChainL.of (some 24) rfl rfl
    case h => exact w_bin rfl rfl rfl h3
    apply ChainL.of (some 9) rfl rfl
    case h => exact step_assign rfl
    exact .nil
  show Cwp _ _ _ _
  refine cwp_seq ?_
  apply one_region
  case hc =>
    apply ChainL.of (some 26) rfl rfl
    case h => exact step_move rfl
    apply ChainL.of (some 27) rfl rfl
    case h => (first | exact w_bin rfl rfl rfl (add_i64 rfl (by omega) (by omega)) | exact w_bin rfl rfl rfl rfl)
    apply ChainL.of (some 28) rfl rfl
    case h => (first | exact w_fieldAddr tab rfl rfl rfl rfl (by decide) rfl rfl | exact w_fieldAddr_elt tab rfl rfl rfl rfl (by decide) rfl rfl)
    apply ChainL.of (some 29) rfl rfl
    case h => (first | exact w_load tab rfl rfl rfl rfl rfl rfl rfl | exact w_load tab rfl rfl rfl rfl rfl (by assumption) rfl | exact w_load_elt tab rfl rfl rfl rfl rfl | exact w_loads tab rfl rfl rfl rfl rfl rfl rfl rfl | exact w_load_tab tab rfl rfl rfl rfl (.head _) (by kernel_rfl) | exact w_loads_elt tab rfl rfl rfl rfl rfl rfl)
    apply ChainL.of (some 30) rfl rfl
    case h => exact w_build tab rfl rfl (by decide) rfl rfl
    apply ChainL.of (some 31) rfl rfl
    case h => exact w_slice1 tab rfl rfl rfl rfl 50 (by decide) (by decide) rfl rfl rfl
    apply ChainL.of (some 32) rfl rfl
    case h => exact w_call c6 [] [50] [1, 2, 0, 3] Try.func6 rfl (by decide +kernel) rfl rfl .nil (by decide) (map1 rfl) rfl rfl (all1 rfl) rfl (all5 rfl (strs_lt _ _) (bools_lt _ _) rfl rfl) rfl rfl rfl rfl (zip5 rfl (os_strs _ _) (os_bools _ _) rfl rfl)
    apply ChainL.of (some 25) rfl rfl
    case h => exact step_move rfl
    apply ChainL.of (some 33) rfl rfl
    case h => exact step_extract rfl rfl rfl
    apply ChainL.of (some 34) rfl rfl
    case h => exact step_extract rfl rfl rfl
    apply ChainL.of (some 10) rfl rfl
    case h => exact step_assign rfl
    apply ChainL.of (some 11) rfl rfl
    case h => exact step_assign rfl
    exact .nil
  show Cwp _ _ _ _
  refine cwp_seq ?_
  refine cwp_seq ?_
  apply one_region
  case hc =>
    apply ChainL.of (some 35) rfl rfl
    case h => exact w_call awake_t [] [] [] Try.func7 rfl (by decide +kernel) rfl rfl .nil (by decide) rfl rfl rfl rfl rfl rfl rfl rfl rfl rfl rfl
    apply ChainL.of (some 36) rfl rfl
    case h => exact w_un rfl rfl rfl
    apply ChainL.of (some 37) rfl rfl
    case h => exact step_move rfl
    first
    | apply ChainL.off (some 38) 2 37 false rfl rfl rfl rfl
    | apply ChainL.on (some 38) 2 37 false rfl rfl rfl rfl
      case h => exact step_move rfl
    first
    | apply ChainL.off (some 39) 2 37 false rfl rfl rfl rfl
    | apply ChainL.on (some 39) 2 37 false rfl rfl rfl rfl
      case h => (first | exact w_bin rfl rfl rfl (neq_t (by omega)) | exact w_bin rfl rfl rfl (neq_f (by omega)) | exact w_bin rfl rfl rfl rfl)
    apply ChainL.of (some 40) rfl rfl
    case h => exact step_pick rfl rfl
    apply ChainL.of (some 41) rfl rfl
    case h => exact step_move rfl
    first
    | apply ChainL.off (some 42) 6 41 false rfl rfl rfl rfl
    | apply ChainL.on (some 42) 6 41 false rfl rfl rfl rfl
      case h => exact step_move rfl
    first
    | apply ChainL.off (some 43) 6 41 false rfl rfl rfl rfl
    | apply ChainL.on (some 43) 6 41 false rfl rfl rfl rfl
      case h => exact step_move rfl
    first
    | apply ChainL.off (some 44) 6 41 false rfl rfl rfl rfl
    | apply ChainL.on (some 44) 6 41 false rfl rfl rfl rfl
      case h => exact step_move rfl
    first
    | apply ChainL.off (some 45) 6 41 false rfl rfl rfl rfl
    | apply ChainL.on (some 45) 6 41 false rfl rfl rfl rfl
      case h => (first | exact w_call c8 [] [0, 1, 2, 3] [5] Try.func8 rfl (by decide +kernel) rfl rfl .nil (by decide) (map4 rfl (strs_ren _ _) (bools_ren _ _) rfl) rfl rfl (all4 rfl (strs_lt _ _) (bools_lt _ _) rfl) rfl (all5 rfl (strs_lt _ _) (bools_lt _ _) rfl rfl) rfl rfl rfl rfl (zip5 rfl (os_strs _ _) (os_bools _ _) rfl rfl) | exact w_call w0 [] [0, 1, 2, 3] [] Try.func8 rfl (by decide +kernel) rfl rfl .nil (by decide) (map4 rfl (strs_ren _ _) (bools_ren _ _) rfl) rfl rfl (all4 rfl (strs_lt _ _) (bools_lt _ _) rfl) rfl (all4 rfl (strs_lt _ _) (bools_lt _ _) rfl) rfl rfl rfl rfl (zip4 rfl (os_strs _ _) (os_bools _ _) rfl))
    first
    | apply ChainL.off (some 46) 6 41 false rfl rfl rfl rfl
    | apply ChainL.on (some 46) 6 41 false rfl rfl rfl rfl
      case h => (first | exact w_bin rfl rfl rfl (neq_t (by omega)) | exact w_bin rfl rfl rfl (neq_f (by omega)) | exact w_bin rfl rfl rfl rfl)
    apply ChainL.of (some 47) rfl rfl
    case h => exact step_pick rfl rfl
    apply ChainL.of (some 48) rfl rfl
    case h => exact step_move rfl
    first
    | apply ChainL.off (some 49) 13 48 false rfl rfl rfl rfl
    | apply ChainL.on (some 49) 13 48 false rfl rfl rfl rfl
      case h => exact step_move rfl
    first
    | apply ChainL.off (some 50) 13 48 false rfl rfl rfl rfl
    | apply ChainL.on (some 50) 13 48 false rfl rfl rfl rfl
      case h => exact w_call c9 [] [0, 1, 2, 5, 3] [] Try.func9 rfl (by decide +kernel) rfl rfl .nil (by decide) (map5 rfl (strs_ren _ _) (bools_ren _ _) rfl rfl) rfl rfl (all5 rfl (strs_lt _ _) (bools_lt _ _) rfl rfl) rfl (all5 rfl (strs_lt _ _) (bools_lt _ _) rfl rfl) rfl rfl rfl rfl (zip5 rfl (os_strs _ _) (os_bools _ _) rfl rfl)
    first
    | apply ChainL.off (some 51) 13 48 false rfl rfl rfl rfl
    | apply ChainL.on (some 51) 13 48 false rfl rfl rfl rfl
      case h => (first | exact w_bin rfl rfl rfl (neq_t (by omega)) | exact w_bin rfl rfl rfl (neq_f (by omega)) | exact w_bin rfl rfl rfl rfl)
    apply ChainL.of (some 52) rfl rfl
    case h => exact step_pick rfl rfl
    exact .nil
  show Cwp _ _ _ _
  refine cond_f (by first | rfl | kernel_rfl) ?_
  refine cwp_skip ?_
  show Cwp _ _ _ _
  refine cwp_seq ?_
  refine cwp_seq ?_
  apply one_region
  case hc =>
    apply ChainL.of (some 12) rfl rfl
    case h => exact step_assign rfl
    exact .nil
  show Cwp _ _ _ _
  refine cwp_block ?_
  refine cwp_loopN 2 ?_
  refine loop_round ?_
  refine cwp_seq ?_
  refine cwp_seq ?_
  apply one_region
  case hc =>
    apply ChainL.of (some 53) rfl rfl
    case h => exact step_move rfl
    apply ChainL.of (some 54) rfl rfl
    case h => exact step_move rfl
    apply ChainL.of (some 55) rfl rfl
    case h => (first | exact w_bin rfl rfl rfl (leq_t (by omega)) | exact w_bin rfl rfl rfl (leq_f (by omega)) | exact w_bin rfl rfl rfl rfl)
    exact .nil
  show Cwp _ _ _ _
  refine cond_t (by first | rfl | kernel_rfl) ?_
  refine cwp_skip ?_
  show Cwp _ _ _ _
  refine cwp_seq ?_
  refine cwp_block ?_
  apply one_region
  case hc =>
    apply ChainL.of (some 58) rfl rfl
    case h => exact step_move rfl
    apply ChainL.of (some 59) rfl rfl
    case h => (first | exact w_call c8 [] [0, 1, 2, 3] [5] Try.func8 rfl (by decide +kernel) rfl rfl .nil (by decide) (map4 rfl (strs_ren _ _) (bools_ren _ _) rfl) rfl rfl (all4 rfl (strs_lt _ _) (bools_lt _ _) rfl) rfl (all5 rfl (strs_lt _ _) (bools_lt _ _) rfl rfl) rfl rfl rfl rfl (zip5 rfl (os_strs _ _) (os_bools _ _) rfl rfl) | exact w_call w0 [] [0, 1, 2, 3] [] Try.func8 rfl (by decide +kernel) rfl rfl .nil (by decide) (map4 rfl (strs_ren _ _) (bools_ren _ _) rfl) rfl rfl (all4 rfl (strs_lt _ _) (bools_lt _ _) rfl) rfl (all4 rfl (strs_lt _ _) (bools_lt _ _) rfl) rfl rfl rfl rfl (zip4 rfl (os_strs _ _) (os_bools _ _) rfl))
    exact .nil
  show Cwp _ _ _ _
  apply one_region
  case hc =>
    apply ChainL.of (some 56) rfl rfl
    case h => exact step_move rfl
    apply ChainL.of (some 57) rfl rfl
    case h => (first | exact w_bin rfl rfl rfl (add_i64 rfl (by omega) (by omega)) | exact w_bin rfl rfl rfl rfl)
    apply ChainL.of (some 12) rfl rfl
    case h => exact step_assign rfl
    exact .nil
  show LoopN _ _ _ _ _
  refine loop_round ?_
  refine cwp_seq ?_
  refine cwp_seq ?_
  apply one_region
  case hc =>
    apply ChainL.of (some 53) rfl rfl
    case h => exact step_move rfl
    apply ChainL.of (some 54) rfl rfl
    case h => exact step_move rfl
    apply ChainL.of (some 55) rfl rfl
    case h => (first | exact w_bin rfl rfl rfl (leq_t (by omega)) | exact w_bin rfl rfl rfl (leq_f (by omega)) | exact w_bin rfl rfl rfl rfl)
    exact .nil
  show Cwp _ _ _ _
  refine cond_f (by first | rfl | kernel_rfl) ?_
  refine cwp_exit ?_
  show Cwp _ _ _ _
  refine cwp_seq ?_
  refine cwp_seq ?_
  apply one_region
  case hc =>
    apply ChainL.of (some 60) rfl rfl
    case h => exact step_move rfl
    apply ChainL.of (some 61) rfl rfl
    case h => exact w_call d1 [] [0, 1, 2] [] Try.func10 rfl (by decide +kernel) rfl rfl .nil (by decide) (map3 rfl (strs_ren _ _) (bools_ren _ _)) rfl rfl (all3 rfl (strs_lt _ _) (bools_lt _ _)) rfl (all3 rfl (strs_lt _ _) (bools_lt _ _)) rfl rfl rfl rfl (zip3 rfl (os_strs _ _) (os_bools _ _))
    apply ChainL.of (some 62) rfl rfl
    case h => exact w_un rfl rfl rfl
    exact .nil
  show Cwp _ _ _ _
  refine cond_f (by first | rfl | kernel_rfl) ?_
  refine cwp_skip ?_
  show Cwp _ _ _ _
  refine cwp_seq ?_
  apply one_region
  case hc =>
    apply ChainL.of (some 63) rfl rfl
    case h => exact step_move rfl
    apply ChainL.of (some 64) rfl rfl
    case h => exact w_call d2 [] [0, 1, 2] [] Try.func11 rfl (by decide +kernel) rfl rfl .nil (by decide) (map3 rfl (strs_ren _ _) (bools_ren _ _)) rfl rfl (all3 rfl (strs_lt _ _) (bools_lt _ _)) rfl (all3 rfl (strs_lt _ _) (bools_lt _ _)) rfl rfl rfl rfl (zip3 rfl (os_strs _ _) (os_bools _ _))
    exact .nil
  show Cwp _ _ _ _
  refine cwp_seq ?_
  apply one_region
  case hc =>
    apply ChainL.of (some 66) rfl rfl
    case h => exact step_move rfl
    apply ChainL.of (some 67) rfl rfl
    case h => exact step_move rfl
    apply ChainL.of (some 68) rfl rfl
    case h => exact w_call d3 [] [0, 1, 2] [] Try.func12 rfl (by decide +kernel) rfl rfl .nil (by decide) (map3 rfl (strs_ren _ _) (bools_ren _ _)) rfl rfl (all3 rfl (strs_lt _ _) (bools_lt _ _)) rfl (all3 rfl (strs_lt _ _) (bools_lt _ _)) rfl rfl rfl rfl (zip3 rfl (os_strs _ _) (os_bools _ _))
    apply ChainL.of (some 65) rfl rfl
    case h => exact step_move rfl
    apply ChainL.of (some 69) rfl rfl
    case h => exact step_extract rfl rfl rfl
    apply ChainL.of (some 70) rfl rfl
    case h => exact step_extract rfl rfl rfl
    apply ChainL.of (some 13) rfl rfl
    case h => exact step_assign rfl
    apply ChainL.of (some 14) rfl rfl
    case h => exact step_assign rfl
    exact .nil
  show Cwp _ _ _ _
  refine cwp_seq ?_
  apply one_region
  case hc =>
    apply ChainL.of (some 71) rfl rfl
    case h => exact step_move rfl
    apply ChainL.of (some 72) rfl rfl
    case h => (first | exact w_bin rfl rfl rfl (eql_t (by omega)) | exact w_bin rfl rfl rfl (eql_f (by omega)) | exact w_bin rfl rfl rfl rfl)
    apply ChainL.of (some 73) rfl rfl
    case h => exact step_move rfl
    first
    | apply ChainL.off (some 74) 2 73 true rfl rfl rfl rfl
    | apply ChainL.on (some 74) 2 73 true rfl rfl rfl rfl
      case h => exact step_move rfl
    first
    | apply ChainL.off (some 75) 2 73 true rfl rfl rfl rfl
    | apply ChainL.on (some 75) 2 73 true rfl rfl rfl rfl
      case h => exact step_move rfl
    first
    | apply ChainL.off (some 76) 2 73 true rfl rfl rfl rfl
    | apply ChainL.on (some 76) 2 73 true rfl rfl rfl rfl
      case h => exact w_len_str (T := 9) (by kernel_rfl) rfl rfl rfl
    first
    | apply ChainL.off (some 77) 2 73 true rfl rfl rfl rfl
    | apply ChainL.on (some 77) 2 73 true rfl rfl rfl rfl
      case h => exact w_cut_str (lo := none) (hi := some (.tmp 76)) (T := 9) (by kernel_rfl) rfl rfl 0 t.size rfl ⟨.i64, rfl⟩ (Nat.zero_le _) (by rw [full_size t ht6]; exact ht6) (full_cut t)
    first
    | apply ChainL.off (some 78) 2 73 true rfl rfl rfl rfl
    | apply ChainL.on (some 78) 2 73 true rfl rfl rfl rfl
      case h => exact step_move rfl
    first
    | apply ChainL.off (some 79) 2 73 true rfl rfl rfl rfl
    | apply ChainL.on (some 79) 2 73 true rfl rfl rfl rfl
      case h => exact w_bin rfl rfl rfl (eq_self t)
    apply ChainL.of (some 80) rfl rfl
    case h => exact step_pick rfl rfl
    apply ChainL.of (some 81) rfl rfl
    case h => exact step_move rfl
    first
    | apply ChainL.off (some 82) 10 81 true rfl rfl rfl rfl
    | apply ChainL.on (some 82) 10 81 true rfl rfl rfl rfl
      case h => exact step_move rfl
    first
    | apply ChainL.off (some 83) 10 81 true rfl rfl rfl rfl
    | apply ChainL.on (some 83) 10 81 true rfl rfl rfl rfl
      case h => exact w_call d4 [] [0, 1, 2] [] Try.func13 rfl (by decide +kernel) rfl rfl .nil (by decide) (map3 rfl (strs_ren _ _) (bools_ren _ _)) rfl rfl (all3 rfl (strs_lt _ _) (bools_lt _ _)) rfl (all3 rfl (strs_lt _ _) (bools_lt _ _)) rfl rfl rfl rfl (zip3 rfl (os_strs _ _) (os_bools _ _))
    first
    | apply ChainL.off (some 84) 10 81 true rfl rfl rfl rfl
    | apply ChainL.on (some 84) 10 81 true rfl rfl rfl rfl
      case h => (first | exact w_bin rfl rfl rfl (eql_t (by omega)) | exact w_bin rfl rfl rfl (eql_f (by omega)) | exact w_bin rfl rfl rfl rfl)
    apply ChainL.of (some 85) rfl rfl
    case h => exact step_pick rfl rfl
    apply ChainL.of (some 6) rfl rfl
    case h => exact step_assign rfl
    exact .nil
  show Cwp _ _ _ _
  refine cwp_ret ?_
  exact ⟨.inl rfl, resH_one rfl rfl, fun i x h => by simp at h⟩
theorem keeps_5_1 (at_ c : Int) (s : ByteArray) (q : Nat) (hq : q < 8) (h7 : abin .and (.int .i64 at_) (.int .i64 7) = some (.int .i64 (q : Int))) (h3 : abin .and (.int .i64 c) (.int .i64 3) = some (.int .i64 1)) (hs : s.size ≤ 140737488351232) :
    HCall Try.prog 3 [] [.v (.int .i64 at_), .v (.string s), .agg [.v (.int .i64 c), .lst 1 []]] [] (.v (.bool true)) := by
  obtain ⟨h, hh⟩ : ∃ h, min s.size 256 = h := ⟨_, rfl⟩
  obtain ⟨t, ht⟩ : ∃ t, s.extract 0 h = t := ⟨_, rfl⟩
  have hle : h ≤ s.size := by omega
  have hts : t.size = h := by rw [← ht, ByteArray.size_extract]; omega
  have ht6 : t.size ≤ 256 := by omega
  have hmin : (if (256 : Int) < (s.size : Int) then (256 : Int) else (s.size : Int)) = ((h : Nat) : Int) := by split <;> omega
  have zl : zD.length = 9 := rfl
  have tl : zT.length = 9 := rfl
  have zq : zD[q]? = some ⟨#[]⟩ := by simp only [zD, List.getElem?_replicate]; rw [if_pos (by omega)]
  have tq : zT[q]? = some false := by simp only [zT, List.getElem?_replicate]; rw [if_pos (by omega)]
  have c6 := new9_5 (2 + 1)
  have c8 := write0_4 0 (2 + 1) 0 (by decide) (by decide) (by decide) zD zT q (by omega) (by omega) t ht6 zl
  have c9 := flush_5 (0 + 1) (2 + 1) 0 (by decide) (by decide) (by decide) zD zT q (by omega) t _ _ zq tq
  obtain ⟨D, hD⟩ : ∃ D, zD.set q (full t) = D := ⟨_, rfl⟩
  obtain ⟨T, hT⟩ : ∃ T, zT.set q false = T := ⟨_, rfl⟩
  rw [hD, hT] at c9
  have Dl : D.length = 9 := by rw [← hD, List.length_set]; rfl
  have Tl : T.length = 9 := by rw [← hT, List.length_set]; rfl
  have Dq : D[q]? = some (full t) := by rw [← hD, List.getElem?_set_self (by rw [zl]; omega)]
  have Tq : T[q]? = some false := by rw [← hT, List.getElem?_set_self (by rw [tl]; omega)]
  have w0 := write0_4 (0 + 1 + 1) (2 + 1) 0 (by decide) (by decide) (by decide) D T 8 (by decide) (by decide) oth (by decide +kernel) Dl
  have w1 := wfail_5_1 (0 + 1 + 1 + 1) (2 + 1) 0 (by decide) (by decide) (by decide) (by decide) (by decide) (by decide) D T Dl Tl
  have d1 := dead_is (.v (.slice none 0 0)) (.lst 2 []) (0 + 1 + 1 + 1 + 1) (0 + 1 + 1 + 1 + 1) (0 + 1) (strs (itD [] D 2)) (bools (itT [] T 2))
  have d2 := up_is (.v (.slice none 0 0)) (.lst 2 []) (0 + 1 + 1 + 1 + 1) (0 + 1 + 1 + 1 + 1) (0 + 1) (strs (itD [] D 2)) (bools (itT [] T 2))
  have d3 := read_end 0 (0 + 1 + 1 + 1 + 1) (0 + 1) (by decide) (by decide) (by decide) (by decide) (itD [] D 2) (itT [] T 2) (by rw [itD_len, Dl]) q (by omega) (full t) (by rw [full_size t ht6]; decide) (by rw [itD_at _ _ _ (by omega), Dq]) (by rw [itT_at _ _ _ (by omega), Tq])
  have d4 := fails_is (.v (.slice none 0 0)) (.lst 2 []) (0 + 1) (0 + 1 + 1 + 1 + 1 + 1) (0 + 1) false (strs (itD [] D 2)) (bools (itT [] T 2))
  refine HCall.of Try.func3 rfl (by decide +kernel) (Nat.le_of_ble_eq_true rfl) ?_
  refine cwp_seq ?_
  apply one_region
  case hc =>
    apply ChainL.of (some 5) rfl rfl
    case h => exact w_box rfl 101 rfl rfl rfl
    apply ChainL.of (some 6) rfl rfl
    case h => exact step_assign rfl
    exact .nil
  show Cwp _ _ _ _
  refine cwp_seq ?_
  apply one_region
  case hc =>
    apply ChainL.of (some 15) rfl rfl
    case h => exact step_move rfl
    apply ChainL.of (some 16) rfl rfl
    case h => exact w_bin rfl rfl rfl h7
    apply ChainL.of (some 7) rfl rfl
    case h => exact step_assign rfl
    exact .nil
  show Cwp _ _ _ _
  refine cwp_seq ?_
  apply one_region
  case hc =>
    apply ChainL.of (some 17) rfl rfl
    case h => exact step_move rfl
    apply ChainL.of (some 18) rfl rfl
    case h => exact step_move rfl
    apply ChainL.of (some 19) rfl rfl
    case h => exact w_len_str (T := 9) (by kernel_rfl) rfl rfl rfl
    apply ChainL.of (some 20) rfl rfl
    case h => exact w_min rfl rfl rfl hmin
    apply ChainL.of (some 21) rfl rfl
    case h => exact w_cut_str (lo := none) (hi := some (.tmp 20)) (T := 9) (by kernel_rfl) rfl rfl 0 h rfl ⟨.i64, rfl⟩ (Nat.zero_le _) hle ht
    apply ChainL.of (some 8) rfl rfl
    case h => exact step_assign rfl
    exact .nil
  show Cwp _ _ _ _
  refine cwp_seq ?_
  apply one_region
  case hc =>
    apply ChainL.of (some 22) rfl rfl
    case h => (first | exact w_fieldAddr tab rfl rfl rfl rfl (by decide) rfl rfl | exact w_fieldAddr_elt tab rfl rfl rfl rfl (by decide) rfl rfl)
    apply ChainL.of (some 23) rfl rfl
    case h => (first | exact w_load tab rfl rfl rfl rfl rfl rfl rfl | exact w_load tab rfl rfl rfl rfl rfl (by assumption) rfl | exact w_load_elt tab rfl rfl rfl rfl rfl | exact w_loads tab rfl rfl rfl rfl rfl rfl rfl rfl | exact w_load_tab tab rfl rfl rfl rfl (.head _) (by kernel_rfl) | exact w_loads_elt tab rfl rfl rfl rfl rfl rfl)
    apply ChainL.of (some 24) rfl rfl
    case h => exact w_bin rfl rfl rfl h3
    apply ChainL.of (some 9) rfl rfl
    case h => exact step_assign rfl
    exact .nil
  show Cwp _ _ _ _
  refine cwp_seq ?_
  apply one_region
  case hc =>
    apply ChainL.of (some 26) rfl rfl
    case h => exact step_move rfl
    apply ChainL.of (some 27) rfl rfl
    case h => (first | exact w_bin rfl rfl rfl (add_i64 rfl (by omega) (by omega)) | exact w_bin rfl rfl rfl rfl)
    apply ChainL.of (some 28) rfl rfl
    case h => (first | exact w_fieldAddr tab rfl rfl rfl rfl (by decide) rfl rfl | exact w_fieldAddr_elt tab rfl rfl rfl rfl (by decide) rfl rfl)
    apply ChainL.of (some 29) rfl rfl
    case h => (first | exact w_load tab rfl rfl rfl rfl rfl rfl rfl | exact w_load tab rfl rfl rfl rfl rfl (by assumption) rfl | exact w_load_elt tab rfl rfl rfl rfl rfl | exact w_loads tab rfl rfl rfl rfl rfl rfl rfl rfl | exact w_load_tab tab rfl rfl rfl rfl (.head _) (by kernel_rfl) | exact w_loads_elt tab rfl rfl rfl rfl rfl rfl)
    apply ChainL.of (some 30) rfl rfl
    case h => exact w_build tab rfl rfl (by decide) rfl rfl
    apply ChainL.of (some 31) rfl rfl
    case h => exact w_slice1 tab rfl rfl rfl rfl 50 (by decide) (by decide) rfl rfl rfl
    apply ChainL.of (some 32) rfl rfl
    case h => exact w_call c6 [] [50] [1, 2, 0, 3] Try.func6 rfl (by decide +kernel) rfl rfl .nil (by decide) (map1 rfl) rfl rfl (all1 rfl) rfl (all5 rfl (strs_lt _ _) (bools_lt _ _) rfl rfl) rfl rfl rfl rfl (zip5 rfl (os_strs _ _) (os_bools _ _) rfl rfl)
    apply ChainL.of (some 25) rfl rfl
    case h => exact step_move rfl
    apply ChainL.of (some 33) rfl rfl
    case h => exact step_extract rfl rfl rfl
    apply ChainL.of (some 34) rfl rfl
    case h => exact step_extract rfl rfl rfl
    apply ChainL.of (some 10) rfl rfl
    case h => exact step_assign rfl
    apply ChainL.of (some 11) rfl rfl
    case h => exact step_assign rfl
    exact .nil
  show Cwp _ _ _ _
  refine cwp_seq ?_
  refine cwp_seq ?_
  apply one_region
  case hc =>
    apply ChainL.of (some 35) rfl rfl
    case h => exact w_call awake_t [] [] [] Try.func7 rfl (by decide +kernel) rfl rfl .nil (by decide) rfl rfl rfl rfl rfl rfl rfl rfl rfl rfl rfl
    apply ChainL.of (some 36) rfl rfl
    case h => exact w_un rfl rfl rfl
    apply ChainL.of (some 37) rfl rfl
    case h => exact step_move rfl
    first
    | apply ChainL.off (some 38) 2 37 false rfl rfl rfl rfl
    | apply ChainL.on (some 38) 2 37 false rfl rfl rfl rfl
      case h => exact step_move rfl
    first
    | apply ChainL.off (some 39) 2 37 false rfl rfl rfl rfl
    | apply ChainL.on (some 39) 2 37 false rfl rfl rfl rfl
      case h => (first | exact w_bin rfl rfl rfl (neq_t (by omega)) | exact w_bin rfl rfl rfl (neq_f (by omega)) | exact w_bin rfl rfl rfl rfl)
    apply ChainL.of (some 40) rfl rfl
    case h => exact step_pick rfl rfl
    apply ChainL.of (some 41) rfl rfl
    case h => exact step_move rfl
    first
    | apply ChainL.off (some 42) 6 41 false rfl rfl rfl rfl
    | apply ChainL.on (some 42) 6 41 false rfl rfl rfl rfl
      case h => exact step_move rfl
    first
    | apply ChainL.off (some 43) 6 41 false rfl rfl rfl rfl
    | apply ChainL.on (some 43) 6 41 false rfl rfl rfl rfl
      case h => exact step_move rfl
    first
    | apply ChainL.off (some 44) 6 41 false rfl rfl rfl rfl
    | apply ChainL.on (some 44) 6 41 false rfl rfl rfl rfl
      case h => exact step_move rfl
    first
    | apply ChainL.off (some 45) 6 41 false rfl rfl rfl rfl
    | apply ChainL.on (some 45) 6 41 false rfl rfl rfl rfl
      case h => (first | exact w_call c8 [] [0, 1, 2, 3] [5] Try.func8 rfl (by decide +kernel) rfl rfl .nil (by decide) (map4 rfl (strs_ren _ _) (bools_ren _ _) rfl) rfl rfl (all4 rfl (strs_lt _ _) (bools_lt _ _) rfl) rfl (all5 rfl (strs_lt _ _) (bools_lt _ _) rfl rfl) rfl rfl rfl rfl (zip5 rfl (os_strs _ _) (os_bools _ _) rfl rfl) | exact w_call w0 [] [0, 1, 2, 3] [6] Try.func8 rfl (by decide +kernel) rfl rfl .nil (by decide) (map4 rfl (strs_ren _ _) (bools_ren _ _) rfl) rfl rfl (all4 rfl (strs_lt _ _) (bools_lt _ _) rfl) rfl (all5 rfl (strs_lt _ _) (bools_lt _ _) rfl rfl) rfl rfl rfl rfl (zip5 rfl (os_strs _ _) (os_bools _ _) rfl rfl) | exact w_call w1 [] [0, 1, 2, 6, 3] [] Try.func8 rfl (by decide +kernel) rfl rfl .nil (by decide) (map5 rfl (strs_ren _ _) (bools_ren _ _) rfl rfl) rfl rfl (all5 rfl (strs_lt _ _) (bools_lt _ _) rfl rfl) rfl (all5 rfl (strs_lt _ _) (bools_lt _ _) rfl rfl) rfl rfl rfl rfl (zip5 rfl (os_strs _ _) (os_bools _ _) rfl rfl))
    first
    | apply ChainL.off (some 46) 6 41 false rfl rfl rfl rfl
    | apply ChainL.on (some 46) 6 41 false rfl rfl rfl rfl
      case h => (first | exact w_bin rfl rfl rfl (neq_t (by omega)) | exact w_bin rfl rfl rfl (neq_f (by omega)) | exact w_bin rfl rfl rfl rfl)
    apply ChainL.of (some 47) rfl rfl
    case h => exact step_pick rfl rfl
    apply ChainL.of (some 48) rfl rfl
    case h => exact step_move rfl
    first
    | apply ChainL.off (some 49) 13 48 false rfl rfl rfl rfl
    | apply ChainL.on (some 49) 13 48 false rfl rfl rfl rfl
      case h => exact step_move rfl
    first
    | apply ChainL.off (some 50) 13 48 false rfl rfl rfl rfl
    | apply ChainL.on (some 50) 13 48 false rfl rfl rfl rfl
      case h => exact w_call c9 [] [0, 1, 2, 5, 3] [] Try.func9 rfl (by decide +kernel) rfl rfl .nil (by decide) (map5 rfl (strs_ren _ _) (bools_ren _ _) rfl rfl) rfl rfl (all5 rfl (strs_lt _ _) (bools_lt _ _) rfl rfl) rfl (all5 rfl (strs_lt _ _) (bools_lt _ _) rfl rfl) rfl rfl rfl rfl (zip5 rfl (os_strs _ _) (os_bools _ _) rfl rfl)
    first
    | apply ChainL.off (some 51) 13 48 false rfl rfl rfl rfl
    | apply ChainL.on (some 51) 13 48 false rfl rfl rfl rfl
      case h => (first | exact w_bin rfl rfl rfl (neq_t (by omega)) | exact w_bin rfl rfl rfl (neq_f (by omega)) | exact w_bin rfl rfl rfl rfl)
    apply ChainL.of (some 52) rfl rfl
    case h => exact step_pick rfl rfl
    exact .nil
  show Cwp _ _ _ _
  refine cond_f (by first | rfl | kernel_rfl) ?_
  refine cwp_skip ?_
  show Cwp _ _ _ _
  refine cwp_seq ?_
  refine cwp_seq ?_
  apply one_region
  case hc =>
    apply ChainL.of (some 12) rfl rfl
    case h => exact step_assign rfl
    exact .nil
  show Cwp _ _ _ _
  refine cwp_block ?_
  refine cwp_loopN 3 ?_
  refine loop_round ?_
  refine cwp_seq ?_
  refine cwp_seq ?_
  apply one_region
  case hc =>
    apply ChainL.of (some 53) rfl rfl
    case h => exact step_move rfl
    apply ChainL.of (some 54) rfl rfl
    case h => exact step_move rfl
    apply ChainL.of (some 55) rfl rfl
    case h => (first | exact w_bin rfl rfl rfl (leq_t (by omega)) | exact w_bin rfl rfl rfl (leq_f (by omega)) | exact w_bin rfl rfl rfl rfl)
    exact .nil
  show Cwp _ _ _ _
  refine cond_t (by first | rfl | kernel_rfl) ?_
  refine cwp_skip ?_
  show Cwp _ _ _ _
  refine cwp_seq ?_
  refine cwp_block ?_
  apply one_region
  case hc =>
    apply ChainL.of (some 58) rfl rfl
    case h => exact step_move rfl
    apply ChainL.of (some 59) rfl rfl
    case h => (first | exact w_call c8 [] [0, 1, 2, 3] [5] Try.func8 rfl (by decide +kernel) rfl rfl .nil (by decide) (map4 rfl (strs_ren _ _) (bools_ren _ _) rfl) rfl rfl (all4 rfl (strs_lt _ _) (bools_lt _ _) rfl) rfl (all5 rfl (strs_lt _ _) (bools_lt _ _) rfl rfl) rfl rfl rfl rfl (zip5 rfl (os_strs _ _) (os_bools _ _) rfl rfl) | exact w_call w0 [] [0, 1, 2, 3] [6] Try.func8 rfl (by decide +kernel) rfl rfl .nil (by decide) (map4 rfl (strs_ren _ _) (bools_ren _ _) rfl) rfl rfl (all4 rfl (strs_lt _ _) (bools_lt _ _) rfl) rfl (all5 rfl (strs_lt _ _) (bools_lt _ _) rfl rfl) rfl rfl rfl rfl (zip5 rfl (os_strs _ _) (os_bools _ _) rfl rfl) | exact w_call w1 [] [0, 1, 2, 6, 3] [] Try.func8 rfl (by decide +kernel) rfl rfl .nil (by decide) (map5 rfl (strs_ren _ _) (bools_ren _ _) rfl rfl) rfl rfl (all5 rfl (strs_lt _ _) (bools_lt _ _) rfl rfl) rfl (all5 rfl (strs_lt _ _) (bools_lt _ _) rfl rfl) rfl rfl rfl rfl (zip5 rfl (os_strs _ _) (os_bools _ _) rfl rfl))
    exact .nil
  show Cwp _ _ _ _
  apply one_region
  case hc =>
    apply ChainL.of (some 56) rfl rfl
    case h => exact step_move rfl
    apply ChainL.of (some 57) rfl rfl
    case h => (first | exact w_bin rfl rfl rfl (add_i64 rfl (by omega) (by omega)) | exact w_bin rfl rfl rfl rfl)
    apply ChainL.of (some 12) rfl rfl
    case h => exact step_assign rfl
    exact .nil
  show LoopN _ _ _ _ _
  refine loop_round ?_
  refine cwp_seq ?_
  refine cwp_seq ?_
  apply one_region
  case hc =>
    apply ChainL.of (some 53) rfl rfl
    case h => exact step_move rfl
    apply ChainL.of (some 54) rfl rfl
    case h => exact step_move rfl
    apply ChainL.of (some 55) rfl rfl
    case h => (first | exact w_bin rfl rfl rfl (leq_t (by omega)) | exact w_bin rfl rfl rfl (leq_f (by omega)) | exact w_bin rfl rfl rfl rfl)
    exact .nil
  show Cwp _ _ _ _
  refine cond_t (by first | rfl | kernel_rfl) ?_
  refine cwp_skip ?_
  show Cwp _ _ _ _
  refine cwp_seq ?_
  refine cwp_block ?_
  apply one_region
  case hc =>
    apply ChainL.of (some 58) rfl rfl
    case h => exact step_move rfl
    apply ChainL.of (some 59) rfl rfl
    case h => (first | exact w_call c8 [] [0, 1, 2, 3] [5] Try.func8 rfl (by decide +kernel) rfl rfl .nil (by decide) (map4 rfl (strs_ren _ _) (bools_ren _ _) rfl) rfl rfl (all4 rfl (strs_lt _ _) (bools_lt _ _) rfl) rfl (all5 rfl (strs_lt _ _) (bools_lt _ _) rfl rfl) rfl rfl rfl rfl (zip5 rfl (os_strs _ _) (os_bools _ _) rfl rfl) | exact w_call w0 [] [0, 1, 2, 3] [6] Try.func8 rfl (by decide +kernel) rfl rfl .nil (by decide) (map4 rfl (strs_ren _ _) (bools_ren _ _) rfl) rfl rfl (all4 rfl (strs_lt _ _) (bools_lt _ _) rfl) rfl (all5 rfl (strs_lt _ _) (bools_lt _ _) rfl rfl) rfl rfl rfl rfl (zip5 rfl (os_strs _ _) (os_bools _ _) rfl rfl) | exact w_call w1 [] [0, 1, 2, 6, 3] [] Try.func8 rfl (by decide +kernel) rfl rfl .nil (by decide) (map5 rfl (strs_ren _ _) (bools_ren _ _) rfl rfl) rfl rfl (all5 rfl (strs_lt _ _) (bools_lt _ _) rfl rfl) rfl (all5 rfl (strs_lt _ _) (bools_lt _ _) rfl rfl) rfl rfl rfl rfl (zip5 rfl (os_strs _ _) (os_bools _ _) rfl rfl))
    exact .nil
  show Cwp _ _ _ _
  apply one_region
  case hc =>
    apply ChainL.of (some 56) rfl rfl
    case h => exact step_move rfl
    apply ChainL.of (some 57) rfl rfl
    case h => (first | exact w_bin rfl rfl rfl (add_i64 rfl (by omega) (by omega)) | exact w_bin rfl rfl rfl rfl)
    apply ChainL.of (some 12) rfl rfl
    case h => exact step_assign rfl
    exact .nil
  show LoopN _ _ _ _ _
  refine loop_round ?_
  refine cwp_seq ?_
  refine cwp_seq ?_
  apply one_region
  case hc =>
    apply ChainL.of (some 53) rfl rfl
    case h => exact step_move rfl
    apply ChainL.of (some 54) rfl rfl
    case h => exact step_move rfl
    apply ChainL.of (some 55) rfl rfl
    case h => (first | exact w_bin rfl rfl rfl (leq_t (by omega)) | exact w_bin rfl rfl rfl (leq_f (by omega)) | exact w_bin rfl rfl rfl rfl)
    exact .nil
  show Cwp _ _ _ _
  refine cond_f (by first | rfl | kernel_rfl) ?_
  refine cwp_exit ?_
  show Cwp _ _ _ _
  refine cwp_seq ?_
  refine cwp_seq ?_
  apply one_region
  case hc =>
    apply ChainL.of (some 60) rfl rfl
    case h => exact step_move rfl
    apply ChainL.of (some 61) rfl rfl
    case h => exact w_call d1 [] [0, 1, 2] [] Try.func10 rfl (by decide +kernel) rfl rfl .nil (by decide) (map3 rfl (strs_ren _ _) (bools_ren _ _)) rfl rfl (all3 rfl (strs_lt _ _) (bools_lt _ _)) rfl (all3 rfl (strs_lt _ _) (bools_lt _ _)) rfl rfl rfl rfl (zip3 rfl (os_strs _ _) (os_bools _ _))
    apply ChainL.of (some 62) rfl rfl
    case h => exact w_un rfl rfl rfl
    exact .nil
  show Cwp _ _ _ _
  refine cond_f (by first | rfl | kernel_rfl) ?_
  refine cwp_skip ?_
  show Cwp _ _ _ _
  refine cwp_seq ?_
  apply one_region
  case hc =>
    apply ChainL.of (some 63) rfl rfl
    case h => exact step_move rfl
    apply ChainL.of (some 64) rfl rfl
    case h => exact w_call d2 [] [0, 1, 2] [] Try.func11 rfl (by decide +kernel) rfl rfl .nil (by decide) (map3 rfl (strs_ren _ _) (bools_ren _ _)) rfl rfl (all3 rfl (strs_lt _ _) (bools_lt _ _)) rfl (all3 rfl (strs_lt _ _) (bools_lt _ _)) rfl rfl rfl rfl (zip3 rfl (os_strs _ _) (os_bools _ _))
    exact .nil
  show Cwp _ _ _ _
  refine cwp_seq ?_
  apply one_region
  case hc =>
    apply ChainL.of (some 66) rfl rfl
    case h => exact step_move rfl
    apply ChainL.of (some 67) rfl rfl
    case h => exact step_move rfl
    apply ChainL.of (some 68) rfl rfl
    case h => exact w_call d3 [] [0, 1, 2] [] Try.func12 rfl (by decide +kernel) rfl rfl .nil (by decide) (map3 rfl (strs_ren _ _) (bools_ren _ _)) rfl rfl (all3 rfl (strs_lt _ _) (bools_lt _ _)) rfl (all3 rfl (strs_lt _ _) (bools_lt _ _)) rfl rfl rfl rfl (zip3 rfl (os_strs _ _) (os_bools _ _))
    apply ChainL.of (some 65) rfl rfl
    case h => exact step_move rfl
    apply ChainL.of (some 69) rfl rfl
    case h => exact step_extract rfl rfl rfl
    apply ChainL.of (some 70) rfl rfl
    case h => exact step_extract rfl rfl rfl
    apply ChainL.of (some 13) rfl rfl
    case h => exact step_assign rfl
    apply ChainL.of (some 14) rfl rfl
    case h => exact step_assign rfl
    exact .nil
  show Cwp _ _ _ _
  refine cwp_seq ?_
  apply one_region
  case hc =>
    apply ChainL.of (some 71) rfl rfl
    case h => exact step_move rfl
    apply ChainL.of (some 72) rfl rfl
    case h => (first | exact w_bin rfl rfl rfl (eql_t (by omega)) | exact w_bin rfl rfl rfl (eql_f (by omega)) | exact w_bin rfl rfl rfl rfl)
    apply ChainL.of (some 73) rfl rfl
    case h => exact step_move rfl
    first
    | apply ChainL.off (some 74) 2 73 true rfl rfl rfl rfl
    | apply ChainL.on (some 74) 2 73 true rfl rfl rfl rfl
      case h => exact step_move rfl
    first
    | apply ChainL.off (some 75) 2 73 true rfl rfl rfl rfl
    | apply ChainL.on (some 75) 2 73 true rfl rfl rfl rfl
      case h => exact step_move rfl
    first
    | apply ChainL.off (some 76) 2 73 true rfl rfl rfl rfl
    | apply ChainL.on (some 76) 2 73 true rfl rfl rfl rfl
      case h => exact w_len_str (T := 9) (by kernel_rfl) rfl rfl rfl
    first
    | apply ChainL.off (some 77) 2 73 true rfl rfl rfl rfl
    | apply ChainL.on (some 77) 2 73 true rfl rfl rfl rfl
      case h => exact w_cut_str (lo := none) (hi := some (.tmp 76)) (T := 9) (by kernel_rfl) rfl rfl 0 t.size rfl ⟨.i64, rfl⟩ (Nat.zero_le _) (by rw [full_size t ht6]; exact ht6) (full_cut t)
    first
    | apply ChainL.off (some 78) 2 73 true rfl rfl rfl rfl
    | apply ChainL.on (some 78) 2 73 true rfl rfl rfl rfl
      case h => exact step_move rfl
    first
    | apply ChainL.off (some 79) 2 73 true rfl rfl rfl rfl
    | apply ChainL.on (some 79) 2 73 true rfl rfl rfl rfl
      case h => exact w_bin rfl rfl rfl (eq_self t)
    apply ChainL.of (some 80) rfl rfl
    case h => exact step_pick rfl rfl
    apply ChainL.of (some 81) rfl rfl
    case h => exact step_move rfl
    first
    | apply ChainL.off (some 82) 10 81 true rfl rfl rfl rfl
    | apply ChainL.on (some 82) 10 81 true rfl rfl rfl rfl
      case h => exact step_move rfl
    first
    | apply ChainL.off (some 83) 10 81 true rfl rfl rfl rfl
    | apply ChainL.on (some 83) 10 81 true rfl rfl rfl rfl
      case h => exact w_call d4 [] [0, 1, 2] [] Try.func13 rfl (by decide +kernel) rfl rfl .nil (by decide) (map3 rfl (strs_ren _ _) (bools_ren _ _)) rfl rfl (all3 rfl (strs_lt _ _) (bools_lt _ _)) rfl (all3 rfl (strs_lt _ _) (bools_lt _ _)) rfl rfl rfl rfl (zip3 rfl (os_strs _ _) (os_bools _ _))
    first
    | apply ChainL.off (some 84) 10 81 true rfl rfl rfl rfl
    | apply ChainL.on (some 84) 10 81 true rfl rfl rfl rfl
      case h => (first | exact w_bin rfl rfl rfl (eql_t (by omega)) | exact w_bin rfl rfl rfl (eql_f (by omega)) | exact w_bin rfl rfl rfl rfl)
    apply ChainL.of (some 85) rfl rfl
    case h => exact step_pick rfl rfl
    apply ChainL.of (some 6) rfl rfl
    case h => exact step_assign rfl
    exact .nil
  show Cwp _ _ _ _
  refine cwp_ret ?_
  exact ⟨.inl rfl, resH_one rfl rfl, fun i x h => by simp at h⟩
theorem keeps_5_2 (at_ c : Int) (s : ByteArray) (q : Nat) (hq : q < 8) (h7 : abin .and (.int .i64 at_) (.int .i64 7) = some (.int .i64 (q : Int))) (h3 : abin .and (.int .i64 c) (.int .i64 3) = some (.int .i64 2)) (hs : s.size ≤ 140737488351232) :
    HCall Try.prog 3 [] [.v (.int .i64 at_), .v (.string s), .agg [.v (.int .i64 c), .lst 1 []]] [] (.v (.bool true)) := by
  obtain ⟨h, hh⟩ : ∃ h, min s.size 256 = h := ⟨_, rfl⟩
  obtain ⟨t, ht⟩ : ∃ t, s.extract 0 h = t := ⟨_, rfl⟩
  have hle : h ≤ s.size := by omega
  have hts : t.size = h := by rw [← ht, ByteArray.size_extract]; omega
  have ht6 : t.size ≤ 256 := by omega
  have hmin : (if (256 : Int) < (s.size : Int) then (256 : Int) else (s.size : Int)) = ((h : Nat) : Int) := by split <;> omega
  have zl : zD.length = 9 := rfl
  have tl : zT.length = 9 := rfl
  have zq : zD[q]? = some ⟨#[]⟩ := by simp only [zD, List.getElem?_replicate]; rw [if_pos (by omega)]
  have tq : zT[q]? = some false := by simp only [zT, List.getElem?_replicate]; rw [if_pos (by omega)]
  have c6 := new9_5 (2 + 2)
  have c8 := write0_4 0 (2 + 2) 0 (by decide) (by decide) (by decide) zD zT q (by omega) (by omega) t ht6 zl
  have c9 := flush_5 (0 + 1) (2 + 2) 0 (by decide) (by decide) (by decide) zD zT q (by omega) t _ _ zq tq
  obtain ⟨D, hD⟩ : ∃ D, zD.set q (full t) = D := ⟨_, rfl⟩
  obtain ⟨T, hT⟩ : ∃ T, zT.set q false = T := ⟨_, rfl⟩
  rw [hD, hT] at c9
  have Dl : D.length = 9 := by rw [← hD, List.length_set]; rfl
  have Tl : T.length = 9 := by rw [← hT, List.length_set]; rfl
  have Dq : D[q]? = some (full t) := by rw [← hD, List.getElem?_set_self (by rw [zl]; omega)]
  have Tq : T[q]? = some false := by rw [← hT, List.getElem?_set_self (by rw [tl]; omega)]
  have w0 := write0_4 (0 + 1 + 1) (2 + 2) 0 (by decide) (by decide) (by decide) D T 8 (by decide) (by decide) oth (by decide +kernel) Dl
  have w1 := wok_5_1 (0 + 1 + 1 + 1) (2 + 2) 0 (by decide) (by decide) (by decide) D T Dl
  have w2 := wfail_5_2 (0 + 1 + 1 + 1 + 1) (2 + 2) 0 (by decide) (by decide) (by decide) (by decide) (by decide) (by decide) D T Dl Tl
  have d1 := dead_is (.v (.slice none 0 0)) (.lst 2 []) (0 + 1 + 1 + 1 + 1 + 1) (0 + 1 + 1 + 1 + 1 + 1) (0 + 1) (strs (itD [] D 3)) (bools (itT [] T 3))
  have d2 := up_is (.v (.slice none 0 0)) (.lst 2 []) (0 + 1 + 1 + 1 + 1 + 1) (0 + 1 + 1 + 1 + 1 + 1) (0 + 1) (strs (itD [] D 3)) (bools (itT [] T 3))
  have d3 := read_end 0 (0 + 1 + 1 + 1 + 1 + 1) (0 + 1) (by decide) (by decide) (by decide) (by decide) (itD [] D 3) (itT [] T 3) (by rw [itD_len, Dl]) q (by omega) (full t) (by rw [full_size t ht6]; decide) (by rw [itD_at _ _ _ (by omega), Dq]) (by rw [itT_at _ _ _ (by omega), Tq])
  have d4 := fails_is (.v (.slice none 0 0)) (.lst 2 []) (0 + 1) (0 + 1 + 1 + 1 + 1 + 1 + 1) (0 + 1) false (strs (itD [] D 3)) (bools (itT [] T 3))
  refine HCall.of Try.func3 rfl (by decide +kernel) (Nat.le_of_ble_eq_true rfl) ?_
  refine cwp_seq ?_
  apply one_region
  case hc =>
    apply ChainL.of (some 5) rfl rfl
    case h => exact w_box rfl 102 rfl rfl rfl
    apply ChainL.of (some 6) rfl rfl
    case h => exact step_assign rfl
    exact .nil
  show Cwp _ _ _ _
  refine cwp_seq ?_
  apply one_region
  case hc =>
    apply ChainL.of (some 15) rfl rfl
    case h => exact step_move rfl
    apply ChainL.of (some 16) rfl rfl
    case h => exact w_bin rfl rfl rfl h7
    apply ChainL.of (some 7) rfl rfl
    case h => exact step_assign rfl
    exact .nil
  show Cwp _ _ _ _
  refine cwp_seq ?_
  apply one_region
  case hc =>
    apply ChainL.of (some 17) rfl rfl
    case h => exact step_move rfl
    apply ChainL.of (some 18) rfl rfl
    case h => exact step_move rfl
    apply ChainL.of (some 19) rfl rfl
    case h => exact w_len_str (T := 9) (by kernel_rfl) rfl rfl rfl
    apply ChainL.of (some 20) rfl rfl
    case h => exact w_min rfl rfl rfl hmin
    apply ChainL.of (some 21) rfl rfl
    case h => exact w_cut_str (lo := none) (hi := some (.tmp 20)) (T := 9) (by kernel_rfl) rfl rfl 0 h rfl ⟨.i64, rfl⟩ (Nat.zero_le _) hle ht
    apply ChainL.of (some 8) rfl rfl
    case h => exact step_assign rfl
    exact .nil
  show Cwp _ _ _ _
  refine cwp_seq ?_
  apply one_region
  case hc =>
    apply ChainL.of (some 22) rfl rfl
    case h => (first | exact w_fieldAddr tab rfl rfl rfl rfl (by decide) rfl rfl | exact w_fieldAddr_elt tab rfl rfl rfl rfl (by decide) rfl rfl)
    apply ChainL.of (some 23) rfl rfl
    case h => (first | exact w_load tab rfl rfl rfl rfl rfl rfl rfl | exact w_load tab rfl rfl rfl rfl rfl (by assumption) rfl | exact w_load_elt tab rfl rfl rfl rfl rfl | exact w_loads tab rfl rfl rfl rfl rfl rfl rfl rfl | exact w_load_tab tab rfl rfl rfl rfl (.head _) (by kernel_rfl) | exact w_loads_elt tab rfl rfl rfl rfl rfl rfl)
    apply ChainL.of (some 24) rfl rfl
    case h => exact w_bin rfl rfl rfl h3
    apply ChainL.of (some 9) rfl rfl
    case h => exact step_assign rfl
    exact .nil
  show Cwp _ _ _ _
  refine cwp_seq ?_
  apply one_region
  case hc =>
    apply ChainL.of (some 26) rfl rfl
    case h => exact step_move rfl
    apply ChainL.of (some 27) rfl rfl
    case h => (first | exact w_bin rfl rfl rfl (add_i64 rfl (by omega) (by omega)) | exact w_bin rfl rfl rfl rfl)
    apply ChainL.of (some 28) rfl rfl
    case h => (first | exact w_fieldAddr tab rfl rfl rfl rfl (by decide) rfl rfl | exact w_fieldAddr_elt tab rfl rfl rfl rfl (by decide) rfl rfl)
    apply ChainL.of (some 29) rfl rfl
    case h => (first | exact w_load tab rfl rfl rfl rfl rfl rfl rfl | exact w_load tab rfl rfl rfl rfl rfl (by assumption) rfl | exact w_load_elt tab rfl rfl rfl rfl rfl | exact w_loads tab rfl rfl rfl rfl rfl rfl rfl rfl | exact w_load_tab tab rfl rfl rfl rfl (.head _) (by kernel_rfl) | exact w_loads_elt tab rfl rfl rfl rfl rfl rfl)
    apply ChainL.of (some 30) rfl rfl
    case h => exact w_build tab rfl rfl (by decide) rfl rfl
    apply ChainL.of (some 31) rfl rfl
    case h => exact w_slice1 tab rfl rfl rfl rfl 50 (by decide) (by decide) rfl rfl rfl
    apply ChainL.of (some 32) rfl rfl
    case h => exact w_call c6 [] [50] [1, 2, 0, 3] Try.func6 rfl (by decide +kernel) rfl rfl .nil (by decide) (map1 rfl) rfl rfl (all1 rfl) rfl (all5 rfl (strs_lt _ _) (bools_lt _ _) rfl rfl) rfl rfl rfl rfl (zip5 rfl (os_strs _ _) (os_bools _ _) rfl rfl)
    apply ChainL.of (some 25) rfl rfl
    case h => exact step_move rfl
    apply ChainL.of (some 33) rfl rfl
    case h => exact step_extract rfl rfl rfl
    apply ChainL.of (some 34) rfl rfl
    case h => exact step_extract rfl rfl rfl
    apply ChainL.of (some 10) rfl rfl
    case h => exact step_assign rfl
    apply ChainL.of (some 11) rfl rfl
    case h => exact step_assign rfl
    exact .nil
  show Cwp _ _ _ _
  refine cwp_seq ?_
  refine cwp_seq ?_
  apply one_region
  case hc =>
    apply ChainL.of (some 35) rfl rfl
    case h => exact w_call awake_t [] [] [] Try.func7 rfl (by decide +kernel) rfl rfl .nil (by decide) rfl rfl rfl rfl rfl rfl rfl rfl rfl rfl rfl
    apply ChainL.of (some 36) rfl rfl
    case h => exact w_un rfl rfl rfl
    apply ChainL.of (some 37) rfl rfl
    case h => exact step_move rfl
    first
    | apply ChainL.off (some 38) 2 37 false rfl rfl rfl rfl
    | apply ChainL.on (some 38) 2 37 false rfl rfl rfl rfl
      case h => exact step_move rfl
    first
    | apply ChainL.off (some 39) 2 37 false rfl rfl rfl rfl
    | apply ChainL.on (some 39) 2 37 false rfl rfl rfl rfl
      case h => (first | exact w_bin rfl rfl rfl (neq_t (by omega)) | exact w_bin rfl rfl rfl (neq_f (by omega)) | exact w_bin rfl rfl rfl rfl)
    apply ChainL.of (some 40) rfl rfl
    case h => exact step_pick rfl rfl
    apply ChainL.of (some 41) rfl rfl
    case h => exact step_move rfl
    first
    | apply ChainL.off (some 42) 6 41 false rfl rfl rfl rfl
    | apply ChainL.on (some 42) 6 41 false rfl rfl rfl rfl
      case h => exact step_move rfl
    first
    | apply ChainL.off (some 43) 6 41 false rfl rfl rfl rfl
    | apply ChainL.on (some 43) 6 41 false rfl rfl rfl rfl
      case h => exact step_move rfl
    first
    | apply ChainL.off (some 44) 6 41 false rfl rfl rfl rfl
    | apply ChainL.on (some 44) 6 41 false rfl rfl rfl rfl
      case h => exact step_move rfl
    first
    | apply ChainL.off (some 45) 6 41 false rfl rfl rfl rfl
    | apply ChainL.on (some 45) 6 41 false rfl rfl rfl rfl
      case h => (first | exact w_call c8 [] [0, 1, 2, 3] [5] Try.func8 rfl (by decide +kernel) rfl rfl .nil (by decide) (map4 rfl (strs_ren _ _) (bools_ren _ _) rfl) rfl rfl (all4 rfl (strs_lt _ _) (bools_lt _ _) rfl) rfl (all5 rfl (strs_lt _ _) (bools_lt _ _) rfl rfl) rfl rfl rfl rfl (zip5 rfl (os_strs _ _) (os_bools _ _) rfl rfl) | exact w_call w0 [] [0, 1, 2, 3] [6] Try.func8 rfl (by decide +kernel) rfl rfl .nil (by decide) (map4 rfl (strs_ren _ _) (bools_ren _ _) rfl) rfl rfl (all4 rfl (strs_lt _ _) (bools_lt _ _) rfl) rfl (all5 rfl (strs_lt _ _) (bools_lt _ _) rfl rfl) rfl rfl rfl rfl (zip5 rfl (os_strs _ _) (os_bools _ _) rfl rfl) | exact w_call w1 [] [0, 1, 2, 6, 3] [7] Try.func8 rfl (by decide +kernel) rfl rfl .nil (by decide) (map5 rfl (strs_ren _ _) (bools_ren _ _) rfl rfl) rfl rfl (all5 rfl (strs_lt _ _) (bools_lt _ _) rfl rfl) rfl (all6 rfl (strs_lt _ _) (bools_lt _ _) rfl rfl rfl) rfl rfl rfl rfl (zip6 rfl (os_strs _ _) (os_bools _ _) rfl rfl rfl) | exact w_call w2 [] [0, 1, 2, 7, 3] [] Try.func8 rfl (by decide +kernel) rfl rfl .nil (by decide) (map5 rfl (strs_ren _ _) (bools_ren _ _) rfl rfl) rfl rfl (all5 rfl (strs_lt _ _) (bools_lt _ _) rfl rfl) rfl (all5 rfl (strs_lt _ _) (bools_lt _ _) rfl rfl) rfl rfl rfl rfl (zip5 rfl (os_strs _ _) (os_bools _ _) rfl rfl))
    first
    | apply ChainL.off (some 46) 6 41 false rfl rfl rfl rfl
    | apply ChainL.on (some 46) 6 41 false rfl rfl rfl rfl
      case h => (first | exact w_bin rfl rfl rfl (neq_t (by omega)) | exact w_bin rfl rfl rfl (neq_f (by omega)) | exact w_bin rfl rfl rfl rfl)
    apply ChainL.of (some 47) rfl rfl
    case h => exact step_pick rfl rfl
    apply ChainL.of (some 48) rfl rfl
    case h => exact step_move rfl
    first
    | apply ChainL.off (some 49) 13 48 false rfl rfl rfl rfl
    | apply ChainL.on (some 49) 13 48 false rfl rfl rfl rfl
      case h => exact step_move rfl
    first
    | apply ChainL.off (some 50) 13 48 false rfl rfl rfl rfl
    | apply ChainL.on (some 50) 13 48 false rfl rfl rfl rfl
      case h => exact w_call c9 [] [0, 1, 2, 5, 3] [] Try.func9 rfl (by decide +kernel) rfl rfl .nil (by decide) (map5 rfl (strs_ren _ _) (bools_ren _ _) rfl rfl) rfl rfl (all5 rfl (strs_lt _ _) (bools_lt _ _) rfl rfl) rfl (all5 rfl (strs_lt _ _) (bools_lt _ _) rfl rfl) rfl rfl rfl rfl (zip5 rfl (os_strs _ _) (os_bools _ _) rfl rfl)
    first
    | apply ChainL.off (some 51) 13 48 false rfl rfl rfl rfl
    | apply ChainL.on (some 51) 13 48 false rfl rfl rfl rfl
      case h => (first | exact w_bin rfl rfl rfl (neq_t (by omega)) | exact w_bin rfl rfl rfl (neq_f (by omega)) | exact w_bin rfl rfl rfl rfl)
    apply ChainL.of (some 52) rfl rfl
    case h => exact step_pick rfl rfl
    exact .nil
  show Cwp _ _ _ _
  refine cond_f (by first | rfl | kernel_rfl) ?_
  refine cwp_skip ?_
  show Cwp _ _ _ _
  refine cwp_seq ?_
  refine cwp_seq ?_
  apply one_region
  case hc =>
    apply ChainL.of (some 12) rfl rfl
    case h => exact step_assign rfl
    exact .nil
  show Cwp _ _ _ _
  refine cwp_block ?_
  refine cwp_loopN 4 ?_
  refine loop_round ?_
  refine cwp_seq ?_
  refine cwp_seq ?_
  apply one_region
  case hc =>
    apply ChainL.of (some 53) rfl rfl
    case h => exact step_move rfl
    apply ChainL.of (some 54) rfl rfl
    case h => exact step_move rfl
    apply ChainL.of (some 55) rfl rfl
    case h => (first | exact w_bin rfl rfl rfl (leq_t (by omega)) | exact w_bin rfl rfl rfl (leq_f (by omega)) | exact w_bin rfl rfl rfl rfl)
    exact .nil
  show Cwp _ _ _ _
  refine cond_t (by first | rfl | kernel_rfl) ?_
  refine cwp_skip ?_
  show Cwp _ _ _ _
  refine cwp_seq ?_
  refine cwp_block ?_
  apply one_region
  case hc =>
    apply ChainL.of (some 58) rfl rfl
    case h => exact step_move rfl
    apply ChainL.of (some 59) rfl rfl
    case h => (first | exact w_call c8 [] [0, 1, 2, 3] [5] Try.func8 rfl (by decide +kernel) rfl rfl .nil (by decide) (map4 rfl (strs_ren _ _) (bools_ren _ _) rfl) rfl rfl (all4 rfl (strs_lt _ _) (bools_lt _ _) rfl) rfl (all5 rfl (strs_lt _ _) (bools_lt _ _) rfl rfl) rfl rfl rfl rfl (zip5 rfl (os_strs _ _) (os_bools _ _) rfl rfl) | exact w_call w0 [] [0, 1, 2, 3] [6] Try.func8 rfl (by decide +kernel) rfl rfl .nil (by decide) (map4 rfl (strs_ren _ _) (bools_ren _ _) rfl) rfl rfl (all4 rfl (strs_lt _ _) (bools_lt _ _) rfl) rfl (all5 rfl (strs_lt _ _) (bools_lt _ _) rfl rfl) rfl rfl rfl rfl (zip5 rfl (os_strs _ _) (os_bools _ _) rfl rfl) | exact w_call w1 [] [0, 1, 2, 6, 3] [7] Try.func8 rfl (by decide +kernel) rfl rfl .nil (by decide) (map5 rfl (strs_ren _ _) (bools_ren _ _) rfl rfl) rfl rfl (all5 rfl (strs_lt _ _) (bools_lt _ _) rfl rfl) rfl (all6 rfl (strs_lt _ _) (bools_lt _ _) rfl rfl rfl) rfl rfl rfl rfl (zip6 rfl (os_strs _ _) (os_bools _ _) rfl rfl rfl) | exact w_call w2 [] [0, 1, 2, 7, 3] [] Try.func8 rfl (by decide +kernel) rfl rfl .nil (by decide) (map5 rfl (strs_ren _ _) (bools_ren _ _) rfl rfl) rfl rfl (all5 rfl (strs_lt _ _) (bools_lt _ _) rfl rfl) rfl (all5 rfl (strs_lt _ _) (bools_lt _ _) rfl rfl) rfl rfl rfl rfl (zip5 rfl (os_strs _ _) (os_bools _ _) rfl rfl))
    exact .nil
  show Cwp _ _ _ _
  apply one_region
  case hc =>
    apply ChainL.of (some 56) rfl rfl
    case h => exact step_move rfl
    apply ChainL.of (some 57) rfl rfl
    case h => (first | exact w_bin rfl rfl rfl (add_i64 rfl (by omega) (by omega)) | exact w_bin rfl rfl rfl rfl)
    apply ChainL.of (some 12) rfl rfl
    case h => exact step_assign rfl
    exact .nil
  show LoopN _ _ _ _ _
  refine loop_round ?_
  refine cwp_seq ?_
  refine cwp_seq ?_
  apply one_region
  case hc =>
    apply ChainL.of (some 53) rfl rfl
    case h => exact step_move rfl
    apply ChainL.of (some 54) rfl rfl
    case h => exact step_move rfl
    apply ChainL.of (some 55) rfl rfl
    case h => (first | exact w_bin rfl rfl rfl (leq_t (by omega)) | exact w_bin rfl rfl rfl (leq_f (by omega)) | exact w_bin rfl rfl rfl rfl)
    exact .nil
  show Cwp _ _ _ _
  refine cond_t (by first | rfl | kernel_rfl) ?_
  refine cwp_skip ?_
  show Cwp _ _ _ _
  refine cwp_seq ?_
  refine cwp_block ?_
  apply one_region
  case hc =>
    apply ChainL.of (some 58) rfl rfl
    case h => exact step_move rfl
    apply ChainL.of (some 59) rfl rfl
    case h => (first | exact w_call c8 [] [0, 1, 2, 3] [5] Try.func8 rfl (by decide +kernel) rfl rfl .nil (by decide) (map4 rfl (strs_ren _ _) (bools_ren _ _) rfl) rfl rfl (all4 rfl (strs_lt _ _) (bools_lt _ _) rfl) rfl (all5 rfl (strs_lt _ _) (bools_lt _ _) rfl rfl) rfl rfl rfl rfl (zip5 rfl (os_strs _ _) (os_bools _ _) rfl rfl) | exact w_call w0 [] [0, 1, 2, 3] [6] Try.func8 rfl (by decide +kernel) rfl rfl .nil (by decide) (map4 rfl (strs_ren _ _) (bools_ren _ _) rfl) rfl rfl (all4 rfl (strs_lt _ _) (bools_lt _ _) rfl) rfl (all5 rfl (strs_lt _ _) (bools_lt _ _) rfl rfl) rfl rfl rfl rfl (zip5 rfl (os_strs _ _) (os_bools _ _) rfl rfl) | exact w_call w1 [] [0, 1, 2, 6, 3] [7] Try.func8 rfl (by decide +kernel) rfl rfl .nil (by decide) (map5 rfl (strs_ren _ _) (bools_ren _ _) rfl rfl) rfl rfl (all5 rfl (strs_lt _ _) (bools_lt _ _) rfl rfl) rfl (all6 rfl (strs_lt _ _) (bools_lt _ _) rfl rfl rfl) rfl rfl rfl rfl (zip6 rfl (os_strs _ _) (os_bools _ _) rfl rfl rfl) | exact w_call w2 [] [0, 1, 2, 7, 3] [] Try.func8 rfl (by decide +kernel) rfl rfl .nil (by decide) (map5 rfl (strs_ren _ _) (bools_ren _ _) rfl rfl) rfl rfl (all5 rfl (strs_lt _ _) (bools_lt _ _) rfl rfl) rfl (all5 rfl (strs_lt _ _) (bools_lt _ _) rfl rfl) rfl rfl rfl rfl (zip5 rfl (os_strs _ _) (os_bools _ _) rfl rfl))
    exact .nil
  show Cwp _ _ _ _
  apply one_region
  case hc =>
    apply ChainL.of (some 56) rfl rfl
    case h => exact step_move rfl
    apply ChainL.of (some 57) rfl rfl
    case h => (first | exact w_bin rfl rfl rfl (add_i64 rfl (by omega) (by omega)) | exact w_bin rfl rfl rfl rfl)
    apply ChainL.of (some 12) rfl rfl
    case h => exact step_assign rfl
    exact .nil
  show LoopN _ _ _ _ _
  refine loop_round ?_
  refine cwp_seq ?_
  refine cwp_seq ?_
  apply one_region
  case hc =>
    apply ChainL.of (some 53) rfl rfl
    case h => exact step_move rfl
    apply ChainL.of (some 54) rfl rfl
    case h => exact step_move rfl
    apply ChainL.of (some 55) rfl rfl
    case h => (first | exact w_bin rfl rfl rfl (leq_t (by omega)) | exact w_bin rfl rfl rfl (leq_f (by omega)) | exact w_bin rfl rfl rfl rfl)
    exact .nil
  show Cwp _ _ _ _
  refine cond_t (by first | rfl | kernel_rfl) ?_
  refine cwp_skip ?_
  show Cwp _ _ _ _
  refine cwp_seq ?_
  refine cwp_block ?_
  apply one_region
  case hc =>
    apply ChainL.of (some 58) rfl rfl
    case h => exact step_move rfl
    apply ChainL.of (some 59) rfl rfl
    case h => (first | exact w_call c8 [] [0, 1, 2, 3] [5] Try.func8 rfl (by decide +kernel) rfl rfl .nil (by decide) (map4 rfl (strs_ren _ _) (bools_ren _ _) rfl) rfl rfl (all4 rfl (strs_lt _ _) (bools_lt _ _) rfl) rfl (all5 rfl (strs_lt _ _) (bools_lt _ _) rfl rfl) rfl rfl rfl rfl (zip5 rfl (os_strs _ _) (os_bools _ _) rfl rfl) | exact w_call w0 [] [0, 1, 2, 3] [6] Try.func8 rfl (by decide +kernel) rfl rfl .nil (by decide) (map4 rfl (strs_ren _ _) (bools_ren _ _) rfl) rfl rfl (all4 rfl (strs_lt _ _) (bools_lt _ _) rfl) rfl (all5 rfl (strs_lt _ _) (bools_lt _ _) rfl rfl) rfl rfl rfl rfl (zip5 rfl (os_strs _ _) (os_bools _ _) rfl rfl) | exact w_call w1 [] [0, 1, 2, 6, 3] [7] Try.func8 rfl (by decide +kernel) rfl rfl .nil (by decide) (map5 rfl (strs_ren _ _) (bools_ren _ _) rfl rfl) rfl rfl (all5 rfl (strs_lt _ _) (bools_lt _ _) rfl rfl) rfl (all6 rfl (strs_lt _ _) (bools_lt _ _) rfl rfl rfl) rfl rfl rfl rfl (zip6 rfl (os_strs _ _) (os_bools _ _) rfl rfl rfl) | exact w_call w2 [] [0, 1, 2, 7, 3] [] Try.func8 rfl (by decide +kernel) rfl rfl .nil (by decide) (map5 rfl (strs_ren _ _) (bools_ren _ _) rfl rfl) rfl rfl (all5 rfl (strs_lt _ _) (bools_lt _ _) rfl rfl) rfl (all5 rfl (strs_lt _ _) (bools_lt _ _) rfl rfl) rfl rfl rfl rfl (zip5 rfl (os_strs _ _) (os_bools _ _) rfl rfl))
    exact .nil
  show Cwp _ _ _ _
  apply one_region
  case hc =>
    apply ChainL.of (some 56) rfl rfl
    case h => exact step_move rfl
    apply ChainL.of (some 57) rfl rfl
    case h => (first | exact w_bin rfl rfl rfl (add_i64 rfl (by omega) (by omega)) | exact w_bin rfl rfl rfl rfl)
    apply ChainL.of (some 12) rfl rfl
    case h => exact step_assign rfl
    exact .nil
  show LoopN _ _ _ _ _
  refine loop_round ?_
  refine cwp_seq ?_
  refine cwp_seq ?_
  apply one_region
  case hc =>
    apply ChainL.of (some 53) rfl rfl
    case h => exact step_move rfl
    apply ChainL.of (some 54) rfl rfl
    case h => exact step_move rfl
    apply ChainL.of (some 55) rfl rfl
    case h => (first | exact w_bin rfl rfl rfl (leq_t (by omega)) | exact w_bin rfl rfl rfl (leq_f (by omega)) | exact w_bin rfl rfl rfl rfl)
    exact .nil
  show Cwp _ _ _ _
  refine cond_f (by first | rfl | kernel_rfl) ?_
  refine cwp_exit ?_
  show Cwp _ _ _ _
  refine cwp_seq ?_
  refine cwp_seq ?_
  apply one_region
  case hc =>
    apply ChainL.of (some 60) rfl rfl
    case h => exact step_move rfl
    apply ChainL.of (some 61) rfl rfl
    case h => exact w_call d1 [] [0, 1, 2] [] Try.func10 rfl (by decide +kernel) rfl rfl .nil (by decide) (map3 rfl (strs_ren _ _) (bools_ren _ _)) rfl rfl (all3 rfl (strs_lt _ _) (bools_lt _ _)) rfl (all3 rfl (strs_lt _ _) (bools_lt _ _)) rfl rfl rfl rfl (zip3 rfl (os_strs _ _) (os_bools _ _))
    apply ChainL.of (some 62) rfl rfl
    case h => exact w_un rfl rfl rfl
    exact .nil
  show Cwp _ _ _ _
  refine cond_f (by first | rfl | kernel_rfl) ?_
  refine cwp_skip ?_
  show Cwp _ _ _ _
  refine cwp_seq ?_
  apply one_region
  case hc =>
    apply ChainL.of (some 63) rfl rfl
    case h => exact step_move rfl
    apply ChainL.of (some 64) rfl rfl
    case h => exact w_call d2 [] [0, 1, 2] [] Try.func11 rfl (by decide +kernel) rfl rfl .nil (by decide) (map3 rfl (strs_ren _ _) (bools_ren _ _)) rfl rfl (all3 rfl (strs_lt _ _) (bools_lt _ _)) rfl (all3 rfl (strs_lt _ _) (bools_lt _ _)) rfl rfl rfl rfl (zip3 rfl (os_strs _ _) (os_bools _ _))
    exact .nil
  show Cwp _ _ _ _
  refine cwp_seq ?_
  apply one_region
  case hc =>
    apply ChainL.of (some 66) rfl rfl
    case h => exact step_move rfl
    apply ChainL.of (some 67) rfl rfl
    case h => exact step_move rfl
    apply ChainL.of (some 68) rfl rfl
    case h => exact w_call d3 [] [0, 1, 2] [] Try.func12 rfl (by decide +kernel) rfl rfl .nil (by decide) (map3 rfl (strs_ren _ _) (bools_ren _ _)) rfl rfl (all3 rfl (strs_lt _ _) (bools_lt _ _)) rfl (all3 rfl (strs_lt _ _) (bools_lt _ _)) rfl rfl rfl rfl (zip3 rfl (os_strs _ _) (os_bools _ _))
    apply ChainL.of (some 65) rfl rfl
    case h => exact step_move rfl
    apply ChainL.of (some 69) rfl rfl
    case h => exact step_extract rfl rfl rfl
    apply ChainL.of (some 70) rfl rfl
    case h => exact step_extract rfl rfl rfl
    apply ChainL.of (some 13) rfl rfl
    case h => exact step_assign rfl
    apply ChainL.of (some 14) rfl rfl
    case h => exact step_assign rfl
    exact .nil
  show Cwp _ _ _ _
  refine cwp_seq ?_
  apply one_region
  case hc =>
    apply ChainL.of (some 71) rfl rfl
    case h => exact step_move rfl
    apply ChainL.of (some 72) rfl rfl
    case h => (first | exact w_bin rfl rfl rfl (eql_t (by omega)) | exact w_bin rfl rfl rfl (eql_f (by omega)) | exact w_bin rfl rfl rfl rfl)
    apply ChainL.of (some 73) rfl rfl
    case h => exact step_move rfl
    first
    | apply ChainL.off (some 74) 2 73 true rfl rfl rfl rfl
    | apply ChainL.on (some 74) 2 73 true rfl rfl rfl rfl
      case h => exact step_move rfl
    first
    | apply ChainL.off (some 75) 2 73 true rfl rfl rfl rfl
    | apply ChainL.on (some 75) 2 73 true rfl rfl rfl rfl
      case h => exact step_move rfl
    first
    | apply ChainL.off (some 76) 2 73 true rfl rfl rfl rfl
    | apply ChainL.on (some 76) 2 73 true rfl rfl rfl rfl
      case h => exact w_len_str (T := 9) (by kernel_rfl) rfl rfl rfl
    first
    | apply ChainL.off (some 77) 2 73 true rfl rfl rfl rfl
    | apply ChainL.on (some 77) 2 73 true rfl rfl rfl rfl
      case h => exact w_cut_str (lo := none) (hi := some (.tmp 76)) (T := 9) (by kernel_rfl) rfl rfl 0 t.size rfl ⟨.i64, rfl⟩ (Nat.zero_le _) (by rw [full_size t ht6]; exact ht6) (full_cut t)
    first
    | apply ChainL.off (some 78) 2 73 true rfl rfl rfl rfl
    | apply ChainL.on (some 78) 2 73 true rfl rfl rfl rfl
      case h => exact step_move rfl
    first
    | apply ChainL.off (some 79) 2 73 true rfl rfl rfl rfl
    | apply ChainL.on (some 79) 2 73 true rfl rfl rfl rfl
      case h => exact w_bin rfl rfl rfl (eq_self t)
    apply ChainL.of (some 80) rfl rfl
    case h => exact step_pick rfl rfl
    apply ChainL.of (some 81) rfl rfl
    case h => exact step_move rfl
    first
    | apply ChainL.off (some 82) 10 81 true rfl rfl rfl rfl
    | apply ChainL.on (some 82) 10 81 true rfl rfl rfl rfl
      case h => exact step_move rfl
    first
    | apply ChainL.off (some 83) 10 81 true rfl rfl rfl rfl
    | apply ChainL.on (some 83) 10 81 true rfl rfl rfl rfl
      case h => exact w_call d4 [] [0, 1, 2] [] Try.func13 rfl (by decide +kernel) rfl rfl .nil (by decide) (map3 rfl (strs_ren _ _) (bools_ren _ _)) rfl rfl (all3 rfl (strs_lt _ _) (bools_lt _ _)) rfl (all3 rfl (strs_lt _ _) (bools_lt _ _)) rfl rfl rfl rfl (zip3 rfl (os_strs _ _) (os_bools _ _))
    first
    | apply ChainL.off (some 84) 10 81 true rfl rfl rfl rfl
    | apply ChainL.on (some 84) 10 81 true rfl rfl rfl rfl
      case h => (first | exact w_bin rfl rfl rfl (eql_t (by omega)) | exact w_bin rfl rfl rfl (eql_f (by omega)) | exact w_bin rfl rfl rfl rfl)
    apply ChainL.of (some 85) rfl rfl
    case h => exact step_pick rfl rfl
    apply ChainL.of (some 6) rfl rfl
    case h => exact step_assign rfl
    exact .nil
  show Cwp _ _ _ _
  refine cwp_ret ?_
  exact ⟨.inl rfl, resH_one rfl rfl, fun i x h => by simp at h⟩
theorem keeps_5_3 (at_ c : Int) (s : ByteArray) (q : Nat) (hq : q < 8) (h7 : abin .and (.int .i64 at_) (.int .i64 7) = some (.int .i64 (q : Int))) (h3 : abin .and (.int .i64 c) (.int .i64 3) = some (.int .i64 3)) (hs : s.size ≤ 140737488351232) :
    HCall Try.prog 3 [] [.v (.int .i64 at_), .v (.string s), .agg [.v (.int .i64 c), .lst 1 []]] [] (.v (.bool true)) := by
  obtain ⟨h, hh⟩ : ∃ h, min s.size 256 = h := ⟨_, rfl⟩
  obtain ⟨t, ht⟩ : ∃ t, s.extract 0 h = t := ⟨_, rfl⟩
  have hle : h ≤ s.size := by omega
  have hts : t.size = h := by rw [← ht, ByteArray.size_extract]; omega
  have ht6 : t.size ≤ 256 := by omega
  have hmin : (if (256 : Int) < (s.size : Int) then (256 : Int) else (s.size : Int)) = ((h : Nat) : Int) := by split <;> omega
  have zl : zD.length = 9 := rfl
  have tl : zT.length = 9 := rfl
  have zq : zD[q]? = some ⟨#[]⟩ := by simp only [zD, List.getElem?_replicate]; rw [if_pos (by omega)]
  have tq : zT[q]? = some false := by simp only [zT, List.getElem?_replicate]; rw [if_pos (by omega)]
  have c6 := new9_5 (2 + 3)
  have c8 := write0_4 0 (2 + 3) 0 (by decide) (by decide) (by decide) zD zT q (by omega) (by omega) t ht6 zl
  have c9 := flush_5 (0 + 1) (2 + 3) 0 (by decide) (by decide) (by decide) zD zT q (by omega) t _ _ zq tq
  obtain ⟨D, hD⟩ : ∃ D, zD.set q (full t) = D := ⟨_, rfl⟩
  obtain ⟨T, hT⟩ : ∃ T, zT.set q false = T := ⟨_, rfl⟩
  rw [hD, hT] at c9
  have Dl : D.length = 9 := by rw [← hD, List.length_set]; rfl
  have Tl : T.length = 9 := by rw [← hT, List.length_set]; rfl
  have Dq : D[q]? = some (full t) := by rw [← hD, List.getElem?_set_self (by rw [zl]; omega)]
  have Tq : T[q]? = some false := by rw [← hT, List.getElem?_set_self (by rw [tl]; omega)]
  have w0 := write0_4 (0 + 1 + 1) (2 + 3) 0 (by decide) (by decide) (by decide) D T 8 (by decide) (by decide) oth (by decide +kernel) Dl
  have w1 := wok_5_1 (0 + 1 + 1 + 1) (2 + 3) 0 (by decide) (by decide) (by decide) D T Dl
  have w2 := wok_5_2 (0 + 1 + 1 + 1 + 1) (2 + 3) 0 (by decide) (by decide) (by decide) D T Dl
  have w3 := wfail_5_3 (0 + 1 + 1 + 1 + 1 + 1) (2 + 3) 0 (by decide) (by decide) (by decide) (by decide) (by decide) (by decide) D T Dl Tl
  have d1 := dead_is (.v (.slice none 0 0)) (.lst 2 []) (0 + 1 + 1 + 1 + 1 + 1 + 1) (0 + 1 + 1 + 1 + 1 + 1 + 1) (0 + 1) (strs (itD [] D 4)) (bools (itT [] T 4))
  have d2 := up_is (.v (.slice none 0 0)) (.lst 2 []) (0 + 1 + 1 + 1 + 1 + 1 + 1) (0 + 1 + 1 + 1 + 1 + 1 + 1) (0 + 1) (strs (itD [] D 4)) (bools (itT [] T 4))
  have d3 := read_end 0 (0 + 1 + 1 + 1 + 1 + 1 + 1) (0 + 1) (by decide) (by decide) (by decide) (by decide) (itD [] D 4) (itT [] T 4) (by rw [itD_len, Dl]) q (by omega) (full t) (by rw [full_size t ht6]; decide) (by rw [itD_at _ _ _ (by omega), Dq]) (by rw [itT_at _ _ _ (by omega), Tq])
  have d4 := fails_is (.v (.slice none 0 0)) (.lst 2 []) (0 + 1) (0 + 1 + 1 + 1 + 1 + 1 + 1 + 1) (0 + 1) false (strs (itD [] D 4)) (bools (itT [] T 4))
  refine HCall.of Try.func3 rfl (by decide +kernel) (Nat.le_of_ble_eq_true rfl) ?_
  refine cwp_seq ?_
  apply one_region
  case hc =>
    apply ChainL.of (some 5) rfl rfl
    case h => exact w_box rfl 103 rfl rfl rfl
    apply ChainL.of (some 6) rfl rfl
    case h => exact step_assign rfl
    exact .nil
  show Cwp _ _ _ _
  refine cwp_seq ?_
  apply one_region
  case hc =>
    apply ChainL.of (some 15) rfl rfl
    case h => exact step_move rfl
    apply ChainL.of (some 16) rfl rfl
    case h => exact w_bin rfl rfl rfl h7
    apply ChainL.of (some 7) rfl rfl
    case h => exact step_assign rfl
    exact .nil
  show Cwp _ _ _ _
  refine cwp_seq ?_
  apply one_region
  case hc =>
    apply ChainL.of (some 17) rfl rfl
    case h => exact step_move rfl
    apply ChainL.of (some 18) rfl rfl
    case h => exact step_move rfl
    apply ChainL.of (some 19) rfl rfl
    case h => exact w_len_str (T := 9) (by kernel_rfl) rfl rfl rfl
    apply ChainL.of (some 20) rfl rfl
    case h => exact w_min rfl rfl rfl hmin
    apply ChainL.of (some 21) rfl rfl
    case h => exact w_cut_str (lo := none) (hi := some (.tmp 20)) (T := 9) (by kernel_rfl) rfl rfl 0 h rfl ⟨.i64, rfl⟩ (Nat.zero_le _) hle ht
    apply ChainL.of (some 8) rfl rfl
    case h => exact step_assign rfl
    exact .nil
  show Cwp _ _ _ _
  refine cwp_seq ?_
  apply one_region
  case hc =>
    apply ChainL.of (some 22) rfl rfl
    case h => (first | exact w_fieldAddr tab rfl rfl rfl rfl (by decide) rfl rfl | exact w_fieldAddr_elt tab rfl rfl rfl rfl (by decide) rfl rfl)
    apply ChainL.of (some 23) rfl rfl
    case h => (first | exact w_load tab rfl rfl rfl rfl rfl rfl rfl | exact w_load tab rfl rfl rfl rfl rfl (by assumption) rfl | exact w_load_elt tab rfl rfl rfl rfl rfl | exact w_loads tab rfl rfl rfl rfl rfl rfl rfl rfl | exact w_load_tab tab rfl rfl rfl rfl (.head _) (by kernel_rfl) | exact w_loads_elt tab rfl rfl rfl rfl rfl rfl)
    apply ChainL.of (some 24) rfl rfl
    case h => exact w_bin rfl rfl rfl h3
    apply ChainL.of (some 9) rfl rfl
    case h => exact step_assign rfl
    exact .nil
  show Cwp _ _ _ _
  refine cwp_seq ?_
  apply one_region
  case hc =>
    apply ChainL.of (some 26) rfl rfl
    case h => exact step_move rfl
    apply ChainL.of (some 27) rfl rfl
    case h => (first | exact w_bin rfl rfl rfl (add_i64 rfl (by omega) (by omega)) | exact w_bin rfl rfl rfl rfl)
    apply ChainL.of (some 28) rfl rfl
    case h => (first | exact w_fieldAddr tab rfl rfl rfl rfl (by decide) rfl rfl | exact w_fieldAddr_elt tab rfl rfl rfl rfl (by decide) rfl rfl)
    apply ChainL.of (some 29) rfl rfl
    case h => (first | exact w_load tab rfl rfl rfl rfl rfl rfl rfl | exact w_load tab rfl rfl rfl rfl rfl (by assumption) rfl | exact w_load_elt tab rfl rfl rfl rfl rfl | exact w_loads tab rfl rfl rfl rfl rfl rfl rfl rfl | exact w_load_tab tab rfl rfl rfl rfl (.head _) (by kernel_rfl) | exact w_loads_elt tab rfl rfl rfl rfl rfl rfl)
    apply ChainL.of (some 30) rfl rfl
    case h => exact w_build tab rfl rfl (by decide) rfl rfl
    apply ChainL.of (some 31) rfl rfl
    case h => exact w_slice1 tab rfl rfl rfl rfl 50 (by decide) (by decide) rfl rfl rfl
    apply ChainL.of (some 32) rfl rfl
    case h => exact w_call c6 [] [50] [1, 2, 0, 3] Try.func6 rfl (by decide +kernel) rfl rfl .nil (by decide) (map1 rfl) rfl rfl (all1 rfl) rfl (all5 rfl (strs_lt _ _) (bools_lt _ _) rfl rfl) rfl rfl rfl rfl (zip5 rfl (os_strs _ _) (os_bools _ _) rfl rfl)
    apply ChainL.of (some 25) rfl rfl
    case h => exact step_move rfl
    apply ChainL.of (some 33) rfl rfl
    case h => exact step_extract rfl rfl rfl
    apply ChainL.of (some 34) rfl rfl
    case h => exact step_extract rfl rfl rfl
    apply ChainL.of (some 10) rfl rfl
    case h => exact step_assign rfl
    apply ChainL.of (some 11) rfl rfl
    case h => exact step_assign rfl
    exact .nil
  show Cwp _ _ _ _
  refine cwp_seq ?_
  refine cwp_seq ?_
  apply one_region
  case hc =>
    apply ChainL.of (some 35) rfl rfl
    case h => exact w_call awake_t [] [] [] Try.func7 rfl (by decide +kernel) rfl rfl .nil (by decide) rfl rfl rfl rfl rfl rfl rfl rfl rfl rfl rfl
    apply ChainL.of (some 36) rfl rfl
    case h => exact w_un rfl rfl rfl
    apply ChainL.of (some 37) rfl rfl
    case h => exact step_move rfl
    first
    | apply ChainL.off (some 38) 2 37 false rfl rfl rfl rfl
    | apply ChainL.on (some 38) 2 37 false rfl rfl rfl rfl
      case h => exact step_move rfl
    first
    | apply ChainL.off (some 39) 2 37 false rfl rfl rfl rfl
    | apply ChainL.on (some 39) 2 37 false rfl rfl rfl rfl
      case h => (first | exact w_bin rfl rfl rfl (neq_t (by omega)) | exact w_bin rfl rfl rfl (neq_f (by omega)) | exact w_bin rfl rfl rfl rfl)
    apply ChainL.of (some 40) rfl rfl
    case h => exact step_pick rfl rfl
    apply ChainL.of (some 41) rfl rfl
    case h => exact step_move rfl
    first
    | apply ChainL.off (some 42) 6 41 false rfl rfl rfl rfl
    | apply ChainL.on (some 42) 6 41 false rfl rfl rfl rfl
      case h => exact step_move rfl
    first
    | apply ChainL.off (some 43) 6 41 false rfl rfl rfl rfl
    | apply ChainL.on (some 43) 6 41 false rfl rfl rfl rfl
      case h => exact step_move rfl
    first
    | apply ChainL.off (some 44) 6 41 false rfl rfl rfl rfl
    | apply ChainL.on (some 44) 6 41 false rfl rfl rfl rfl
      case h => exact step_move rfl
    first
    | apply ChainL.off (some 45) 6 41 false rfl rfl rfl rfl
    | apply ChainL.on (some 45) 6 41 false rfl rfl rfl rfl
      case h => (first | exact w_call c8 [] [0, 1, 2, 3] [5] Try.func8 rfl (by decide +kernel) rfl rfl .nil (by decide) (map4 rfl (strs_ren _ _) (bools_ren _ _) rfl) rfl rfl (all4 rfl (strs_lt _ _) (bools_lt _ _) rfl) rfl (all5 rfl (strs_lt _ _) (bools_lt _ _) rfl rfl) rfl rfl rfl rfl (zip5 rfl (os_strs _ _) (os_bools _ _) rfl rfl) | exact w_call w0 [] [0, 1, 2, 3] [6] Try.func8 rfl (by decide +kernel) rfl rfl .nil (by decide) (map4 rfl (strs_ren _ _) (bools_ren _ _) rfl) rfl rfl (all4 rfl (strs_lt _ _) (bools_lt _ _) rfl) rfl (all5 rfl (strs_lt _ _) (bools_lt _ _) rfl rfl) rfl rfl rfl rfl (zip5 rfl (os_strs _ _) (os_bools _ _) rfl rfl) | exact w_call w1 [] [0, 1, 2, 6, 3] [7] Try.func8 rfl (by decide +kernel) rfl rfl .nil (by decide) (map5 rfl (strs_ren _ _) (bools_ren _ _) rfl rfl) rfl rfl (all5 rfl (strs_lt _ _) (bools_lt _ _) rfl rfl) rfl (all6 rfl (strs_lt _ _) (bools_lt _ _) rfl rfl rfl) rfl rfl rfl rfl (zip6 rfl (os_strs _ _) (os_bools _ _) rfl rfl rfl) | exact w_call w2 [] [0, 1, 2, 7, 3] [8] Try.func8 rfl (by decide +kernel) rfl rfl .nil (by decide) (map5 rfl (strs_ren _ _) (bools_ren _ _) rfl rfl) rfl rfl (all5 rfl (strs_lt _ _) (bools_lt _ _) rfl rfl) rfl (all6 rfl (strs_lt _ _) (bools_lt _ _) rfl rfl rfl) rfl rfl rfl rfl (zip6 rfl (os_strs _ _) (os_bools _ _) rfl rfl rfl) | exact w_call w3 [] [0, 1, 2, 8, 3] [] Try.func8 rfl (by decide +kernel) rfl rfl .nil (by decide) (map5 rfl (strs_ren _ _) (bools_ren _ _) rfl rfl) rfl rfl (all5 rfl (strs_lt _ _) (bools_lt _ _) rfl rfl) rfl (all5 rfl (strs_lt _ _) (bools_lt _ _) rfl rfl) rfl rfl rfl rfl (zip5 rfl (os_strs _ _) (os_bools _ _) rfl rfl))
    first
    | apply ChainL.off (some 46) 6 41 false rfl rfl rfl rfl
    | apply ChainL.on (some 46) 6 41 false rfl rfl rfl rfl
      case h => (first | exact w_bin rfl rfl rfl (neq_t (by omega)) | exact w_bin rfl rfl rfl (neq_f (by omega)) | exact w_bin rfl rfl rfl rfl)
    apply ChainL.of (some 47) rfl rfl
    case h => exact step_pick rfl rfl
    apply ChainL.of (some 48) rfl rfl
    case h => exact step_move rfl
    first
    | apply ChainL.off (some 49) 13 48 false rfl rfl rfl rfl
    | apply ChainL.on (some 49) 13 48 false rfl rfl rfl rfl
      case h => exact step_move rfl
    first
    | apply ChainL.off (some 50) 13 48 false rfl rfl rfl rfl
    | apply ChainL.on (some 50) 13 48 false rfl rfl rfl rfl
      case h => exact w_call c9 [] [0, 1, 2, 5, 3] [] Try.func9 rfl (by decide +kernel) rfl rfl .nil (by decide) (map5 rfl (strs_ren _ _) (bools_ren _ _) rfl rfl) rfl rfl (all5 rfl (strs_lt _ _) (bools_lt _ _) rfl rfl) rfl (all5 rfl (strs_lt _ _) (bools_lt _ _) rfl rfl) rfl rfl rfl rfl (zip5 rfl (os_strs _ _) (os_bools _ _) rfl rfl)
    first
    | apply ChainL.off (some 51) 13 48 false rfl rfl rfl rfl
    | apply ChainL.on (some 51) 13 48 false rfl rfl rfl rfl
      case h => (first | exact w_bin rfl rfl rfl (neq_t (by omega)) | exact w_bin rfl rfl rfl (neq_f (by omega)) | exact w_bin rfl rfl rfl rfl)
    apply ChainL.of (some 52) rfl rfl
    case h => exact step_pick rfl rfl
    exact .nil
  show Cwp _ _ _ _
  refine cond_f (by first | rfl | kernel_rfl) ?_
  refine cwp_skip ?_
  show Cwp _ _ _ _
  refine cwp_seq ?_
  refine cwp_seq ?_
  apply one_region
  case hc =>
    apply ChainL.of (some 12) rfl rfl
    case h => exact step_assign rfl
    exact .nil
  show Cwp _ _ _ _
  refine cwp_block ?_
  refine cwp_loopN 5 ?_
  refine loop_round ?_
  refine cwp_seq ?_
  refine cwp_seq ?_
  apply one_region
  case hc =>
    apply ChainL.of (some 53) rfl rfl
    case h => exact step_move rfl
    apply ChainL.of (some 54) rfl rfl
    case h => exact step_move rfl
    apply ChainL.of (some 55) rfl rfl
    case h => (first | exact w_bin rfl rfl rfl (leq_t (by omega)) | exact w_bin rfl rfl rfl (leq_f (by omega)) | exact w_bin rfl rfl rfl rfl)
    exact .nil
  show Cwp _ _ _ _
  refine cond_t (by first | rfl | kernel_rfl) ?_
  refine cwp_skip ?_
  show Cwp _ _ _ _
  refine cwp_seq ?_
  refine cwp_block ?_
  apply one_region
  case hc =>
    apply ChainL.of (some 58) rfl rfl
    case h => exact step_move rfl
    apply ChainL.of (some 59) rfl rfl
    case h => (first | exact w_call c8 [] [0, 1, 2, 3] [5] Try.func8 rfl (by decide +kernel) rfl rfl .nil (by decide) (map4 rfl (strs_ren _ _) (bools_ren _ _) rfl) rfl rfl (all4 rfl (strs_lt _ _) (bools_lt _ _) rfl) rfl (all5 rfl (strs_lt _ _) (bools_lt _ _) rfl rfl) rfl rfl rfl rfl (zip5 rfl (os_strs _ _) (os_bools _ _) rfl rfl) | exact w_call w0 [] [0, 1, 2, 3] [6] Try.func8 rfl (by decide +kernel) rfl rfl .nil (by decide) (map4 rfl (strs_ren _ _) (bools_ren _ _) rfl) rfl rfl (all4 rfl (strs_lt _ _) (bools_lt _ _) rfl) rfl (all5 rfl (strs_lt _ _) (bools_lt _ _) rfl rfl) rfl rfl rfl rfl (zip5 rfl (os_strs _ _) (os_bools _ _) rfl rfl) | exact w_call w1 [] [0, 1, 2, 6, 3] [7] Try.func8 rfl (by decide +kernel) rfl rfl .nil (by decide) (map5 rfl (strs_ren _ _) (bools_ren _ _) rfl rfl) rfl rfl (all5 rfl (strs_lt _ _) (bools_lt _ _) rfl rfl) rfl (all6 rfl (strs_lt _ _) (bools_lt _ _) rfl rfl rfl) rfl rfl rfl rfl (zip6 rfl (os_strs _ _) (os_bools _ _) rfl rfl rfl) | exact w_call w2 [] [0, 1, 2, 7, 3] [8] Try.func8 rfl (by decide +kernel) rfl rfl .nil (by decide) (map5 rfl (strs_ren _ _) (bools_ren _ _) rfl rfl) rfl rfl (all5 rfl (strs_lt _ _) (bools_lt _ _) rfl rfl) rfl (all6 rfl (strs_lt _ _) (bools_lt _ _) rfl rfl rfl) rfl rfl rfl rfl (zip6 rfl (os_strs _ _) (os_bools _ _) rfl rfl rfl) | exact w_call w3 [] [0, 1, 2, 8, 3] [] Try.func8 rfl (by decide +kernel) rfl rfl .nil (by decide) (map5 rfl (strs_ren _ _) (bools_ren _ _) rfl rfl) rfl rfl (all5 rfl (strs_lt _ _) (bools_lt _ _) rfl rfl) rfl (all5 rfl (strs_lt _ _) (bools_lt _ _) rfl rfl) rfl rfl rfl rfl (zip5 rfl (os_strs _ _) (os_bools _ _) rfl rfl))
    exact .nil
  show Cwp _ _ _ _
  apply one_region
  case hc =>
    apply ChainL.of (some 56) rfl rfl
    case h => exact step_move rfl
    apply ChainL.of (some 57) rfl rfl
    case h => (first | exact w_bin rfl rfl rfl (add_i64 rfl (by omega) (by omega)) | exact w_bin rfl rfl rfl rfl)
    apply ChainL.of (some 12) rfl rfl
    case h => exact step_assign rfl
    exact .nil
  show LoopN _ _ _ _ _
  refine loop_round ?_
  refine cwp_seq ?_
  refine cwp_seq ?_
  apply one_region
  case hc =>
    apply ChainL.of (some 53) rfl rfl
    case h => exact step_move rfl
    apply ChainL.of (some 54) rfl rfl
    case h => exact step_move rfl
    apply ChainL.of (some 55) rfl rfl
    case h => (first | exact w_bin rfl rfl rfl (leq_t (by omega)) | exact w_bin rfl rfl rfl (leq_f (by omega)) | exact w_bin rfl rfl rfl rfl)
    exact .nil
  show Cwp _ _ _ _
  refine cond_t (by first | rfl | kernel_rfl) ?_
  refine cwp_skip ?_
  show Cwp _ _ _ _
  refine cwp_seq ?_
  refine cwp_block ?_
  apply one_region
  case hc =>
    apply ChainL.of (some 58) rfl rfl
    case h => exact step_move rfl
    apply ChainL.of (some 59) rfl rfl
    case h => (first | exact w_call c8 [] [0, 1, 2, 3] [5] Try.func8 rfl (by decide +kernel) rfl rfl .nil (by decide) (map4 rfl (strs_ren _ _) (bools_ren _ _) rfl) rfl rfl (all4 rfl (strs_lt _ _) (bools_lt _ _) rfl) rfl (all5 rfl (strs_lt _ _) (bools_lt _ _) rfl rfl) rfl rfl rfl rfl (zip5 rfl (os_strs _ _) (os_bools _ _) rfl rfl) | exact w_call w0 [] [0, 1, 2, 3] [6] Try.func8 rfl (by decide +kernel) rfl rfl .nil (by decide) (map4 rfl (strs_ren _ _) (bools_ren _ _) rfl) rfl rfl (all4 rfl (strs_lt _ _) (bools_lt _ _) rfl) rfl (all5 rfl (strs_lt _ _) (bools_lt _ _) rfl rfl) rfl rfl rfl rfl (zip5 rfl (os_strs _ _) (os_bools _ _) rfl rfl) | exact w_call w1 [] [0, 1, 2, 6, 3] [7] Try.func8 rfl (by decide +kernel) rfl rfl .nil (by decide) (map5 rfl (strs_ren _ _) (bools_ren _ _) rfl rfl) rfl rfl (all5 rfl (strs_lt _ _) (bools_lt _ _) rfl rfl) rfl (all6 rfl (strs_lt _ _) (bools_lt _ _) rfl rfl rfl) rfl rfl rfl rfl (zip6 rfl (os_strs _ _) (os_bools _ _) rfl rfl rfl) | exact w_call w2 [] [0, 1, 2, 7, 3] [8] Try.func8 rfl (by decide +kernel) rfl rfl .nil (by decide) (map5 rfl (strs_ren _ _) (bools_ren _ _) rfl rfl) rfl rfl (all5 rfl (strs_lt _ _) (bools_lt _ _) rfl rfl) rfl (all6 rfl (strs_lt _ _) (bools_lt _ _) rfl rfl rfl) rfl rfl rfl rfl (zip6 rfl (os_strs _ _) (os_bools _ _) rfl rfl rfl) | exact w_call w3 [] [0, 1, 2, 8, 3] [] Try.func8 rfl (by decide +kernel) rfl rfl .nil (by decide) (map5 rfl (strs_ren _ _) (bools_ren _ _) rfl rfl) rfl rfl (all5 rfl (strs_lt _ _) (bools_lt _ _) rfl rfl) rfl (all5 rfl (strs_lt _ _) (bools_lt _ _) rfl rfl) rfl rfl rfl rfl (zip5 rfl (os_strs _ _) (os_bools _ _) rfl rfl))
    exact .nil
  show Cwp _ _ _ _
  apply one_region
  case hc =>
    apply ChainL.of (some 56) rfl rfl
    case h => exact step_move rfl
    apply ChainL.of (some 57) rfl rfl
    case h => (first | exact w_bin rfl rfl rfl (add_i64 rfl (by omega) (by omega)) | exact w_bin rfl rfl rfl rfl)
    apply ChainL.of (some 12) rfl rfl
    case h => exact step_assign rfl
    exact .nil
  show LoopN _ _ _ _ _
  refine loop_round ?_
  refine cwp_seq ?_
  refine cwp_seq ?_
  apply one_region
  case hc =>
    apply ChainL.of (some 53) rfl rfl
    case h => exact step_move rfl
    apply ChainL.of (some 54) rfl rfl
    case h => exact step_move rfl
    apply ChainL.of (some 55) rfl rfl
    case h => (first | exact w_bin rfl rfl rfl (leq_t (by omega)) | exact w_bin rfl rfl rfl (leq_f (by omega)) | exact w_bin rfl rfl rfl rfl)
    exact .nil
  show Cwp _ _ _ _
  refine cond_t (by first | rfl | kernel_rfl) ?_
  refine cwp_skip ?_
  show Cwp _ _ _ _
  refine cwp_seq ?_
  refine cwp_block ?_
  apply one_region
  case hc =>
    apply ChainL.of (some 58) rfl rfl
    case h => exact step_move rfl
    apply ChainL.of (some 59) rfl rfl
    case h => (first | exact w_call c8 [] [0, 1, 2, 3] [5] Try.func8 rfl (by decide +kernel) rfl rfl .nil (by decide) (map4 rfl (strs_ren _ _) (bools_ren _ _) rfl) rfl rfl (all4 rfl (strs_lt _ _) (bools_lt _ _) rfl) rfl (all5 rfl (strs_lt _ _) (bools_lt _ _) rfl rfl) rfl rfl rfl rfl (zip5 rfl (os_strs _ _) (os_bools _ _) rfl rfl) | exact w_call w0 [] [0, 1, 2, 3] [6] Try.func8 rfl (by decide +kernel) rfl rfl .nil (by decide) (map4 rfl (strs_ren _ _) (bools_ren _ _) rfl) rfl rfl (all4 rfl (strs_lt _ _) (bools_lt _ _) rfl) rfl (all5 rfl (strs_lt _ _) (bools_lt _ _) rfl rfl) rfl rfl rfl rfl (zip5 rfl (os_strs _ _) (os_bools _ _) rfl rfl) | exact w_call w1 [] [0, 1, 2, 6, 3] [7] Try.func8 rfl (by decide +kernel) rfl rfl .nil (by decide) (map5 rfl (strs_ren _ _) (bools_ren _ _) rfl rfl) rfl rfl (all5 rfl (strs_lt _ _) (bools_lt _ _) rfl rfl) rfl (all6 rfl (strs_lt _ _) (bools_lt _ _) rfl rfl rfl) rfl rfl rfl rfl (zip6 rfl (os_strs _ _) (os_bools _ _) rfl rfl rfl) | exact w_call w2 [] [0, 1, 2, 7, 3] [8] Try.func8 rfl (by decide +kernel) rfl rfl .nil (by decide) (map5 rfl (strs_ren _ _) (bools_ren _ _) rfl rfl) rfl rfl (all5 rfl (strs_lt _ _) (bools_lt _ _) rfl rfl) rfl (all6 rfl (strs_lt _ _) (bools_lt _ _) rfl rfl rfl) rfl rfl rfl rfl (zip6 rfl (os_strs _ _) (os_bools _ _) rfl rfl rfl) | exact w_call w3 [] [0, 1, 2, 8, 3] [] Try.func8 rfl (by decide +kernel) rfl rfl .nil (by decide) (map5 rfl (strs_ren _ _) (bools_ren _ _) rfl rfl) rfl rfl (all5 rfl (strs_lt _ _) (bools_lt _ _) rfl rfl) rfl (all5 rfl (strs_lt _ _) (bools_lt _ _) rfl rfl) rfl rfl rfl rfl (zip5 rfl (os_strs _ _) (os_bools _ _) rfl rfl))
    exact .nil
  show Cwp _ _ _ _
  apply one_region
  case hc =>
    apply ChainL.of (some 56) rfl rfl
    case h => exact step_move rfl
    apply ChainL.of (some 57) rfl rfl
    case h => (first | exact w_bin rfl rfl rfl (add_i64 rfl (by omega) (by omega)) | exact w_bin rfl rfl rfl rfl)
    apply ChainL.of (some 12) rfl rfl
    case h => exact step_assign rfl
    exact .nil
  show LoopN _ _ _ _ _
  refine loop_round ?_
  refine cwp_seq ?_
  refine cwp_seq ?_
  apply one_region
  case hc =>
    apply ChainL.of (some 53) rfl rfl
    case h => exact step_move rfl
    apply ChainL.of (some 54) rfl rfl
    case h => exact step_move rfl
    apply ChainL.of (some 55) rfl rfl
    case h => (first | exact w_bin rfl rfl rfl (leq_t (by omega)) | exact w_bin rfl rfl rfl (leq_f (by omega)) | exact w_bin rfl rfl rfl rfl)
    exact .nil
  show Cwp _ _ _ _
  refine cond_t (by first | rfl | kernel_rfl) ?_
  refine cwp_skip ?_
  show Cwp _ _ _ _
  refine cwp_seq ?_
  refine cwp_block ?_
  apply one_region
  case hc =>
    apply ChainL.of (some 58) rfl rfl
    case h => exact step_move rfl
    apply ChainL.of (some 59) rfl rfl
    case h => (first | exact w_call c8 [] [0, 1, 2, 3] [5] Try.func8 rfl (by decide +kernel) rfl rfl .nil (by decide) (map4 rfl (strs_ren _ _) (bools_ren _ _) rfl) rfl rfl (all4 rfl (strs_lt _ _) (bools_lt _ _) rfl) rfl (all5 rfl (strs_lt _ _) (bools_lt _ _) rfl rfl) rfl rfl rfl rfl (zip5 rfl (os_strs _ _) (os_bools _ _) rfl rfl) | exact w_call w0 [] [0, 1, 2, 3] [6] Try.func8 rfl (by decide +kernel) rfl rfl .nil (by decide) (map4 rfl (strs_ren _ _) (bools_ren _ _) rfl) rfl rfl (all4 rfl (strs_lt _ _) (bools_lt _ _) rfl) rfl (all5 rfl (strs_lt _ _) (bools_lt _ _) rfl rfl) rfl rfl rfl rfl (zip5 rfl (os_strs _ _) (os_bools _ _) rfl rfl) | exact w_call w1 [] [0, 1, 2, 6, 3] [7] Try.func8 rfl (by decide +kernel) rfl rfl .nil (by decide) (map5 rfl (strs_ren _ _) (bools_ren _ _) rfl rfl) rfl rfl (all5 rfl (strs_lt _ _) (bools_lt _ _) rfl rfl) rfl (all6 rfl (strs_lt _ _) (bools_lt _ _) rfl rfl rfl) rfl rfl rfl rfl (zip6 rfl (os_strs _ _) (os_bools _ _) rfl rfl rfl) | exact w_call w2 [] [0, 1, 2, 7, 3] [8] Try.func8 rfl (by decide +kernel) rfl rfl .nil (by decide) (map5 rfl (strs_ren _ _) (bools_ren _ _) rfl rfl) rfl rfl (all5 rfl (strs_lt _ _) (bools_lt _ _) rfl rfl) rfl (all6 rfl (strs_lt _ _) (bools_lt _ _) rfl rfl rfl) rfl rfl rfl rfl (zip6 rfl (os_strs _ _) (os_bools _ _) rfl rfl rfl) | exact w_call w3 [] [0, 1, 2, 8, 3] [] Try.func8 rfl (by decide +kernel) rfl rfl .nil (by decide) (map5 rfl (strs_ren _ _) (bools_ren _ _) rfl rfl) rfl rfl (all5 rfl (strs_lt _ _) (bools_lt _ _) rfl rfl) rfl (all5 rfl (strs_lt _ _) (bools_lt _ _) rfl rfl) rfl rfl rfl rfl (zip5 rfl (os_strs _ _) (os_bools _ _) rfl rfl))
    exact .nil
  show Cwp _ _ _ _
  apply one_region
  case hc =>
    apply ChainL.of (some 56) rfl rfl
    case h => exact step_move rfl
    apply ChainL.of (some 57) rfl rfl
    case h => (first | exact w_bin rfl rfl rfl (add_i64 rfl (by omega) (by omega)) | exact w_bin rfl rfl rfl rfl)
    apply ChainL.of (some 12) rfl rfl
    case h => exact step_assign rfl
    exact .nil
  show LoopN _ _ _ _ _
  refine loop_round ?_
  refine cwp_seq ?_
  refine cwp_seq ?_
  apply one_region
  case hc =>
    apply ChainL.of (some 53) rfl rfl
    case h => exact step_move rfl
    apply ChainL.of (some 54) rfl rfl
    case h => exact step_move rfl
    apply ChainL.of (some 55) rfl rfl
    case h => (first | exact w_bin rfl rfl rfl (leq_t (by omega)) | exact w_bin rfl rfl rfl (leq_f (by omega)) | exact w_bin rfl rfl rfl rfl)
    exact .nil
  show Cwp _ _ _ _
  refine cond_f (by first | rfl | kernel_rfl) ?_
  refine cwp_exit ?_
  show Cwp _ _ _ _
  refine cwp_seq ?_
  refine cwp_seq ?_
  apply one_region
  case hc =>
    apply ChainL.of (some 60) rfl rfl
    case h => exact step_move rfl
    apply ChainL.of (some 61) rfl rfl
    case h => exact w_call d1 [] [0, 1, 2] [] Try.func10 rfl (by decide +kernel) rfl rfl .nil (by decide) (map3 rfl (strs_ren _ _) (bools_ren _ _)) rfl rfl (all3 rfl (strs_lt _ _) (bools_lt _ _)) rfl (all3 rfl (strs_lt _ _) (bools_lt _ _)) rfl rfl rfl rfl (zip3 rfl (os_strs _ _) (os_bools _ _))
    apply ChainL.of (some 62) rfl rfl
    case h => exact w_un rfl rfl rfl
    exact .nil
  show Cwp _ _ _ _
  refine cond_f (by first | rfl | kernel_rfl) ?_
  refine cwp_skip ?_
  show Cwp _ _ _ _
  refine cwp_seq ?_
  apply one_region
  case hc =>
    apply ChainL.of (some 63) rfl rfl
    case h => exact step_move rfl
    apply ChainL.of (some 64) rfl rfl
    case h => exact w_call d2 [] [0, 1, 2] [] Try.func11 rfl (by decide +kernel) rfl rfl .nil (by decide) (map3 rfl (strs_ren _ _) (bools_ren _ _)) rfl rfl (all3 rfl (strs_lt _ _) (bools_lt _ _)) rfl (all3 rfl (strs_lt _ _) (bools_lt _ _)) rfl rfl rfl rfl (zip3 rfl (os_strs _ _) (os_bools _ _))
    exact .nil
  show Cwp _ _ _ _
  refine cwp_seq ?_
  apply one_region
  case hc =>
    apply ChainL.of (some 66) rfl rfl
    case h => exact step_move rfl
    apply ChainL.of (some 67) rfl rfl
    case h => exact step_move rfl
    apply ChainL.of (some 68) rfl rfl
    case h => exact w_call d3 [] [0, 1, 2] [] Try.func12 rfl (by decide +kernel) rfl rfl .nil (by decide) (map3 rfl (strs_ren _ _) (bools_ren _ _)) rfl rfl (all3 rfl (strs_lt _ _) (bools_lt _ _)) rfl (all3 rfl (strs_lt _ _) (bools_lt _ _)) rfl rfl rfl rfl (zip3 rfl (os_strs _ _) (os_bools _ _))
    apply ChainL.of (some 65) rfl rfl
    case h => exact step_move rfl
    apply ChainL.of (some 69) rfl rfl
    case h => exact step_extract rfl rfl rfl
    apply ChainL.of (some 70) rfl rfl
    case h => exact step_extract rfl rfl rfl
    apply ChainL.of (some 13) rfl rfl
    case h => exact step_assign rfl
    apply ChainL.of (some 14) rfl rfl
    case h => exact step_assign rfl
    exact .nil
  show Cwp _ _ _ _
  refine cwp_seq ?_
  apply one_region
  case hc =>
    apply ChainL.of (some 71) rfl rfl
    case h => exact step_move rfl
    apply ChainL.of (some 72) rfl rfl
    case h => (first | exact w_bin rfl rfl rfl (eql_t (by omega)) | exact w_bin rfl rfl rfl (eql_f (by omega)) | exact w_bin rfl rfl rfl rfl)
    apply ChainL.of (some 73) rfl rfl
    case h => exact step_move rfl
    first
    | apply ChainL.off (some 74) 2 73 true rfl rfl rfl rfl
    | apply ChainL.on (some 74) 2 73 true rfl rfl rfl rfl
      case h => exact step_move rfl
    first
    | apply ChainL.off (some 75) 2 73 true rfl rfl rfl rfl
    | apply ChainL.on (some 75) 2 73 true rfl rfl rfl rfl
      case h => exact step_move rfl
    first
    | apply ChainL.off (some 76) 2 73 true rfl rfl rfl rfl
    | apply ChainL.on (some 76) 2 73 true rfl rfl rfl rfl
      case h => exact w_len_str (T := 9) (by kernel_rfl) rfl rfl rfl
    first
    | apply ChainL.off (some 77) 2 73 true rfl rfl rfl rfl
    | apply ChainL.on (some 77) 2 73 true rfl rfl rfl rfl
      case h => exact w_cut_str (lo := none) (hi := some (.tmp 76)) (T := 9) (by kernel_rfl) rfl rfl 0 t.size rfl ⟨.i64, rfl⟩ (Nat.zero_le _) (by rw [full_size t ht6]; exact ht6) (full_cut t)
    first
    | apply ChainL.off (some 78) 2 73 true rfl rfl rfl rfl
    | apply ChainL.on (some 78) 2 73 true rfl rfl rfl rfl
      case h => exact step_move rfl
    first
    | apply ChainL.off (some 79) 2 73 true rfl rfl rfl rfl
    | apply ChainL.on (some 79) 2 73 true rfl rfl rfl rfl
      case h => exact w_bin rfl rfl rfl (eq_self t)
    apply ChainL.of (some 80) rfl rfl
    case h => exact step_pick rfl rfl
    apply ChainL.of (some 81) rfl rfl
    case h => exact step_move rfl
    first
    | apply ChainL.off (some 82) 10 81 true rfl rfl rfl rfl
    | apply ChainL.on (some 82) 10 81 true rfl rfl rfl rfl
      case h => exact step_move rfl
    first
    | apply ChainL.off (some 83) 10 81 true rfl rfl rfl rfl
    | apply ChainL.on (some 83) 10 81 true rfl rfl rfl rfl
      case h => exact w_call d4 [] [0, 1, 2] [] Try.func13 rfl (by decide +kernel) rfl rfl .nil (by decide) (map3 rfl (strs_ren _ _) (bools_ren _ _)) rfl rfl (all3 rfl (strs_lt _ _) (bools_lt _ _)) rfl (all3 rfl (strs_lt _ _) (bools_lt _ _)) rfl rfl rfl rfl (zip3 rfl (os_strs _ _) (os_bools _ _))
    first
    | apply ChainL.off (some 84) 10 81 true rfl rfl rfl rfl
    | apply ChainL.on (some 84) 10 81 true rfl rfl rfl rfl
      case h => (first | exact w_bin rfl rfl rfl (eql_t (by omega)) | exact w_bin rfl rfl rfl (eql_f (by omega)) | exact w_bin rfl rfl rfl rfl)
    apply ChainL.of (some 85) rfl rfl
    case h => exact step_pick rfl rfl
    apply ChainL.of (some 6) rfl rfl
    case h => exact step_assign rfl
    exact .nil
  show Cwp _ _ _ _
  refine cwp_ret ?_
  exact ⟨.inl rfl, resH_one rfl rfl, fun i x h => by simp at h⟩
theorem keeps_6_0 (at_ c : Int) (s : ByteArray) (F : List Int) (hF : 0 < F.length) (hB : F.length * 8 ≤ 140737488355328) (q : Nat) (hq : q < 8) (h7 : abin .and (.int .i64 at_) (.int .i64 7) = some (.int .i64 (q : Int))) (h3 : abin .and (.int .i64 c) (.int .i64 3) = some (.int .i64 0)) (hs : s.size ≤ 140737488351232) :
    HCall Try.prog 3 [] [.v (.int .i64 at_), .v (.string s), .agg [.v (.int .i64 c), .lst 1 (F.map fun s => [.v (.int .i64 s)])]] [] (.v (.bool true)) := by
  obtain ⟨h, hh⟩ : ∃ h, min s.size 256 = h := ⟨_, rfl⟩
  obtain ⟨t, ht⟩ : ∃ t, s.extract 0 h = t := ⟨_, rfl⟩
  have hle : h ≤ s.size := by omega
  have hts : t.size = h := by rw [← ht, ByteArray.size_extract]; omega
  have ht6 : t.size ≤ 256 := by omega
  have hmin : (if (256 : Int) < (s.size : Int) then (256 : Int) else (s.size : Int)) = ((h : Nat) : Int) := by split <;> omega
  have zl : zD.length = 9 := rfl
  have tl : zT.length = 9 := rfl
  have zq : zD[q]? = some ⟨#[]⟩ := by simp only [zD, List.getElem?_replicate]; rw [if_pos (by omega)]
  have tq : zT[q]? = some false := by simp only [zT, List.getElem?_replicate]; rw [if_pos (by omega)]
  have c6 := new9_6 (2 + 0) F hF hB
  have c8 := write0_5 0 (2 + 0) 0 (by decide) (by decide) (by decide) zD zT F q (by omega) (by omega) t ht6 zl
  have c9 := flush_6 (0 + 1) (2 + 0) 0 (by decide) (by decide) (by decide) zD zT F q (by omega) t _ _ zq tq
  obtain ⟨D, hD⟩ : ∃ D, zD.set q (full t) = D := ⟨_, rfl⟩
  obtain ⟨T, hT⟩ : ∃ T, zT.set q false = T := ⟨_, rfl⟩
  rw [hD, hT] at c9
  have Dl : D.length = 9 := by rw [← hD, List.length_set]; rfl
  have Tl : T.length = 9 := by rw [← hT, List.length_set]; rfl
  have Dq : D[q]? = some (full t) := by rw [← hD, List.getElem?_set_self (by rw [zl]; omega)]
  have Tq : T[q]? = some false := by rw [← hT, List.getElem?_set_self (by rw [tl]; omega)]
  have w0 := wfail_6_0 (0 + 1 + 1) (2 + 0) 0 (by decide) (by decide) (by decide) (by decide) (by decide) (by decide) D T F Dl Tl
  have d1 := dead_is (.v (.slice none 0 0)) (.lst 2 []) (0 + 1 + 1 + 1) (0 + 1 + 1 + 1) (0 + 1) (strs (itD F D 1)) (bools (itT F T 1))
  have d2 := up_is (.v (.slice none 0 0)) (.lst 2 []) (0 + 1 + 1 + 1) (0 + 1 + 1 + 1) (0 + 1) (strs (itD F D 1)) (bools (itT F T 1))
  have d3 := read_end 0 (0 + 1 + 1 + 1) (0 + 1) (by decide) (by decide) (by decide) (by decide) (itD F D 1) (itT F T 1) (by rw [itD_len, Dl]) q (by omega) (full t) (by rw [full_size t ht6]; decide) (by rw [itD_at _ _ _ (by omega), Dq]) (by rw [itT_at _ _ _ (by omega), Tq])
  have d4 := fails_is (.v (.slice none 0 0)) (.lst 2 []) (0 + 1) (0 + 1 + 1 + 1 + 1) (0 + 1) false (strs (itD F D 1)) (bools (itT F T 1))
  refine HCall.of Try.func3 rfl (by decide +kernel) (Nat.le_of_ble_eq_true rfl) ?_
  refine cwp_seq ?_
  apply one_region
  case hc =>
    apply ChainL.of (some 5) rfl rfl
    case h => exact w_box rfl 104 rfl rfl rfl
    apply ChainL.of (some 6) rfl rfl
    case h => exact step_assign rfl
    exact .nil
  show Cwp _ _ _ _
  refine cwp_seq ?_
  apply one_region
  case hc =>
    apply ChainL.of (some 15) rfl rfl
    case h => exact step_move rfl
    apply ChainL.of (some 16) rfl rfl
    case h => exact w_bin rfl rfl rfl h7
    apply ChainL.of (some 7) rfl rfl
    case h => exact step_assign rfl
    exact .nil
  show Cwp _ _ _ _
  refine cwp_seq ?_
  apply one_region
  case hc =>
    apply ChainL.of (some 17) rfl rfl
    case h => exact step_move rfl
    apply ChainL.of (some 18) rfl rfl
    case h => exact step_move rfl
    apply ChainL.of (some 19) rfl rfl
    case h => exact w_len_str (T := 9) (by kernel_rfl) rfl rfl rfl
    apply ChainL.of (some 20) rfl rfl
    case h => exact w_min rfl rfl rfl hmin
    apply ChainL.of (some 21) rfl rfl
    case h => exact w_cut_str (lo := none) (hi := some (.tmp 20)) (T := 9) (by kernel_rfl) rfl rfl 0 h rfl ⟨.i64, rfl⟩ (Nat.zero_le _) hle ht
    apply ChainL.of (some 8) rfl rfl
    case h => exact step_assign rfl
    exact .nil
  show Cwp _ _ _ _
  refine cwp_seq ?_
  apply one_region
  case hc =>
    apply ChainL.of (some 22) rfl rfl
    case h => (first | exact w_fieldAddr tab rfl rfl rfl rfl (by decide) rfl rfl | exact w_fieldAddr_elt tab rfl rfl rfl rfl (by decide) rfl rfl)
    apply ChainL.of (some 23) rfl rfl
    case h => (first | exact w_load tab rfl rfl rfl rfl rfl rfl rfl | exact w_load tab rfl rfl rfl rfl rfl (by assumption) rfl | exact w_load_elt tab rfl rfl rfl rfl rfl | exact w_loads tab rfl rfl rfl rfl rfl rfl rfl rfl | exact w_load_tab tab rfl rfl rfl rfl (.head _) (by kernel_rfl) | exact w_loads_elt tab rfl rfl rfl rfl rfl rfl)
    apply ChainL.of (some 24) rfl rfl
    case h => exact w_bin rfl rfl rfl h3
    apply ChainL.of (some 9) rfl rfl
    case h => exact step_assign rfl
    exact .nil
  show Cwp _ _ _ _
  refine cwp_seq ?_
  apply one_region
  case hc =>
    apply ChainL.of (some 26) rfl rfl
    case h => exact step_move rfl
    apply ChainL.of (some 27) rfl rfl
    case h => (first | exact w_bin rfl rfl rfl (add_i64 rfl (by omega) (by omega)) | exact w_bin rfl rfl rfl rfl)
    apply ChainL.of (some 28) rfl rfl
    case h => (first | exact w_fieldAddr tab rfl rfl rfl rfl (by decide) rfl rfl | exact w_fieldAddr_elt tab rfl rfl rfl rfl (by decide) rfl rfl)
    apply ChainL.of (some 29) rfl rfl
    case h => (first | exact w_load tab rfl rfl rfl rfl rfl rfl rfl | exact w_load tab rfl rfl rfl rfl rfl (by assumption) rfl | exact w_load_elt tab rfl rfl rfl rfl rfl | exact w_loads tab rfl rfl rfl rfl rfl rfl rfl rfl | exact w_load_tab tab rfl rfl rfl rfl (.head _) (by kernel_rfl) | exact w_loads_elt tab rfl rfl rfl rfl rfl rfl)
    apply ChainL.of (some 30) rfl rfl
    case h => exact w_build tab rfl rfl (by decide) rfl rfl
    apply ChainL.of (some 31) rfl rfl
    case h => exact w_slice1 tab rfl rfl rfl rfl 50 (by decide) (by decide) rfl rfl rfl
    apply ChainL.of (some 32) rfl rfl
    case h => exact w_call c6 [] [50] [1, 2, 0, 3, 4] Try.func6 rfl (by decide +kernel) rfl rfl .nil (by decide) (map1 (cutl_ren _ _ _)) rfl rfl (all1 (cutl_lt _ _ _)) rfl (all6 (cutl_lt _ _ _) (strs_lt _ _) (bools_lt _ _) rfl rfl (ints_lt _ _)) rfl rfl rfl rfl (zip6 (os_cutl _ _ _) (os_strs _ _) (os_bools _ _) rfl rfl (os_ints _ _))
    apply ChainL.of (some 25) rfl rfl
    case h => exact step_move rfl
    apply ChainL.of (some 33) rfl rfl
    case h => exact step_extract rfl rfl rfl
    apply ChainL.of (some 34) rfl rfl
    case h => exact step_extract rfl rfl rfl
    apply ChainL.of (some 10) rfl rfl
    case h => exact step_assign rfl
    apply ChainL.of (some 11) rfl rfl
    case h => exact step_assign rfl
    exact .nil
  show Cwp _ _ _ _
  refine cwp_seq ?_
  refine cwp_seq ?_
  apply one_region
  case hc =>
    apply ChainL.of (some 35) rfl rfl
    case h => exact w_call awake_t [] [] [] Try.func7 rfl (by decide +kernel) rfl rfl .nil (by decide) rfl rfl rfl rfl rfl rfl rfl rfl rfl rfl rfl
    apply ChainL.of (some 36) rfl rfl
    case h => exact w_un rfl rfl rfl
    apply ChainL.of (some 37) rfl rfl
    case h => exact step_move rfl
    first
    | apply ChainL.off (some 38) 2 37 false rfl rfl rfl rfl
    | apply ChainL.on (some 38) 2 37 false rfl rfl rfl rfl
      case h => exact step_move rfl
    first
    | apply ChainL.off (some 39) 2 37 false rfl rfl rfl rfl
    | apply ChainL.on (some 39) 2 37 false rfl rfl rfl rfl
      case h => (first | exact w_bin rfl rfl rfl (neq_t (by omega)) | exact w_bin rfl rfl rfl (neq_f (by omega)) | exact w_bin rfl rfl rfl rfl)
    apply ChainL.of (some 40) rfl rfl
    case h => exact step_pick rfl rfl
    apply ChainL.of (some 41) rfl rfl
    case h => exact step_move rfl
    first
    | apply ChainL.off (some 42) 6 41 false rfl rfl rfl rfl
    | apply ChainL.on (some 42) 6 41 false rfl rfl rfl rfl
      case h => exact step_move rfl
    first
    | apply ChainL.off (some 43) 6 41 false rfl rfl rfl rfl
    | apply ChainL.on (some 43) 6 41 false rfl rfl rfl rfl
      case h => exact step_move rfl
    first
    | apply ChainL.off (some 44) 6 41 false rfl rfl rfl rfl
    | apply ChainL.on (some 44) 6 41 false rfl rfl rfl rfl
      case h => exact step_move rfl
    first
    | apply ChainL.off (some 45) 6 41 false rfl rfl rfl rfl
    | apply ChainL.on (some 45) 6 41 false rfl rfl rfl rfl
      case h => (first | exact w_call c8 [] [0, 1, 2, 3, 4] [5] Try.func8 rfl (by decide +kernel) rfl rfl .nil (by decide) (map5 rfl (strs_ren _ _) (bools_ren _ _) rfl (ints_ren _ _)) rfl rfl (all5 rfl (strs_lt _ _) (bools_lt _ _) rfl (ints_lt _ _)) rfl (all6 rfl (strs_lt _ _) (bools_lt _ _) rfl (ints_lt _ _) rfl) rfl rfl rfl rfl (zip6 rfl (os_strs _ _) (os_bools _ _) rfl (os_ints _ _) rfl) | exact w_call w0 [] [0, 1, 2, 3, 4] [] Try.func8 rfl (by decide +kernel) rfl rfl .nil (by decide) (map5 rfl (strs_ren _ _) (bools_ren _ _) rfl (ints_ren _ _)) rfl rfl (all5 rfl (strs_lt _ _) (bools_lt _ _) rfl (ints_lt _ _)) rfl (all5 rfl (strs_lt _ _) (bools_lt _ _) rfl (ints_lt _ _)) rfl rfl rfl rfl (zip5 rfl (os_strs _ _) (os_bools _ _) rfl (os_ints _ _)))
    first
    | apply ChainL.off (some 46) 6 41 false rfl rfl rfl rfl
    | apply ChainL.on (some 46) 6 41 false rfl rfl rfl rfl
      case h => (first | exact w_bin rfl rfl rfl (neq_t (by omega)) | exact w_bin rfl rfl rfl (neq_f (by omega)) | exact w_bin rfl rfl rfl rfl)
    apply ChainL.of (some 47) rfl rfl
    case h => exact step_pick rfl rfl
    apply ChainL.of (some 48) rfl rfl
    case h => exact step_move rfl
    first
    | apply ChainL.off (some 49) 13 48 false rfl rfl rfl rfl
    | apply ChainL.on (some 49) 13 48 false rfl rfl rfl rfl
      case h => exact step_move rfl
    first
    | apply ChainL.off (some 50) 13 48 false rfl rfl rfl rfl
    | apply ChainL.on (some 50) 13 48 false rfl rfl rfl rfl
      case h => exact w_call c9 [] [0, 1, 2, 5, 3, 4] [] Try.func9 rfl (by decide +kernel) rfl rfl .nil (by decide) (map6 rfl (strs_ren _ _) (bools_ren _ _) rfl rfl (ints_ren _ _)) rfl rfl (all6 rfl (strs_lt _ _) (bools_lt _ _) rfl rfl (ints_lt _ _)) rfl (all6 rfl (strs_lt _ _) (bools_lt _ _) rfl rfl (ints_lt _ _)) rfl rfl rfl rfl (zip6 rfl (os_strs _ _) (os_bools _ _) rfl rfl (os_ints _ _))
    first
    | apply ChainL.off (some 51) 13 48 false rfl rfl rfl rfl
    | apply ChainL.on (some 51) 13 48 false rfl rfl rfl rfl
      case h => (first | exact w_bin rfl rfl rfl (neq_t (by omega)) | exact w_bin rfl rfl rfl (neq_f (by omega)) | exact w_bin rfl rfl rfl rfl)
    apply ChainL.of (some 52) rfl rfl
    case h => exact step_pick rfl rfl
    exact .nil
  show Cwp _ _ _ _
  refine cond_f (by first | rfl | kernel_rfl) ?_
  refine cwp_skip ?_
  show Cwp _ _ _ _
  refine cwp_seq ?_
  refine cwp_seq ?_
  apply one_region
  case hc =>
    apply ChainL.of (some 12) rfl rfl
    case h => exact step_assign rfl
    exact .nil
  show Cwp _ _ _ _
  refine cwp_block ?_
  refine cwp_loopN 2 ?_
  refine loop_round ?_
  refine cwp_seq ?_
  refine cwp_seq ?_
  apply one_region
  case hc =>
    apply ChainL.of (some 53) rfl rfl
    case h => exact step_move rfl
    apply ChainL.of (some 54) rfl rfl
    case h => exact step_move rfl
    apply ChainL.of (some 55) rfl rfl
    case h => (first | exact w_bin rfl rfl rfl (leq_t (by omega)) | exact w_bin rfl rfl rfl (leq_f (by omega)) | exact w_bin rfl rfl rfl rfl)
    exact .nil
  show Cwp _ _ _ _
  refine cond_t (by first | rfl | kernel_rfl) ?_
  refine cwp_skip ?_
  show Cwp _ _ _ _
  refine cwp_seq ?_
  refine cwp_block ?_
  apply one_region
  case hc =>
    apply ChainL.of (some 58) rfl rfl
    case h => exact step_move rfl
    apply ChainL.of (some 59) rfl rfl
    case h => (first | exact w_call c8 [] [0, 1, 2, 3, 4] [5] Try.func8 rfl (by decide +kernel) rfl rfl .nil (by decide) (map5 rfl (strs_ren _ _) (bools_ren _ _) rfl (ints_ren _ _)) rfl rfl (all5 rfl (strs_lt _ _) (bools_lt _ _) rfl (ints_lt _ _)) rfl (all6 rfl (strs_lt _ _) (bools_lt _ _) rfl (ints_lt _ _) rfl) rfl rfl rfl rfl (zip6 rfl (os_strs _ _) (os_bools _ _) rfl (os_ints _ _) rfl) | exact w_call w0 [] [0, 1, 2, 3, 4] [] Try.func8 rfl (by decide +kernel) rfl rfl .nil (by decide) (map5 rfl (strs_ren _ _) (bools_ren _ _) rfl (ints_ren _ _)) rfl rfl (all5 rfl (strs_lt _ _) (bools_lt _ _) rfl (ints_lt _ _)) rfl (all5 rfl (strs_lt _ _) (bools_lt _ _) rfl (ints_lt _ _)) rfl rfl rfl rfl (zip5 rfl (os_strs _ _) (os_bools _ _) rfl (os_ints _ _)))
    exact .nil
  show Cwp _ _ _ _
  apply one_region
  case hc =>
    apply ChainL.of (some 56) rfl rfl
    case h => exact step_move rfl
    apply ChainL.of (some 57) rfl rfl
    case h => (first | exact w_bin rfl rfl rfl (add_i64 rfl (by omega) (by omega)) | exact w_bin rfl rfl rfl rfl)
    apply ChainL.of (some 12) rfl rfl
    case h => exact step_assign rfl
    exact .nil
  show LoopN _ _ _ _ _
  refine loop_round ?_
  refine cwp_seq ?_
  refine cwp_seq ?_
  apply one_region
  case hc =>
    apply ChainL.of (some 53) rfl rfl
    case h => exact step_move rfl
    apply ChainL.of (some 54) rfl rfl
    case h => exact step_move rfl
    apply ChainL.of (some 55) rfl rfl
    case h => (first | exact w_bin rfl rfl rfl (leq_t (by omega)) | exact w_bin rfl rfl rfl (leq_f (by omega)) | exact w_bin rfl rfl rfl rfl)
    exact .nil
  show Cwp _ _ _ _
  refine cond_f (by first | rfl | kernel_rfl) ?_
  refine cwp_exit ?_
  show Cwp _ _ _ _
  refine cwp_seq ?_
  refine cwp_seq ?_
  apply one_region
  case hc =>
    apply ChainL.of (some 60) rfl rfl
    case h => exact step_move rfl
    apply ChainL.of (some 61) rfl rfl
    case h => exact w_call d1 [] [0, 1, 2] [] Try.func10 rfl (by decide +kernel) rfl rfl .nil (by decide) (map3 rfl (strs_ren _ _) (bools_ren _ _)) rfl rfl (all3 rfl (strs_lt _ _) (bools_lt _ _)) rfl (all3 rfl (strs_lt _ _) (bools_lt _ _)) rfl rfl rfl rfl (zip3 rfl (os_strs _ _) (os_bools _ _))
    apply ChainL.of (some 62) rfl rfl
    case h => exact w_un rfl rfl rfl
    exact .nil
  show Cwp _ _ _ _
  refine cond_f (by first | rfl | kernel_rfl) ?_
  refine cwp_skip ?_
  show Cwp _ _ _ _
  refine cwp_seq ?_
  apply one_region
  case hc =>
    apply ChainL.of (some 63) rfl rfl
    case h => exact step_move rfl
    apply ChainL.of (some 64) rfl rfl
    case h => exact w_call d2 [] [0, 1, 2] [] Try.func11 rfl (by decide +kernel) rfl rfl .nil (by decide) (map3 rfl (strs_ren _ _) (bools_ren _ _)) rfl rfl (all3 rfl (strs_lt _ _) (bools_lt _ _)) rfl (all3 rfl (strs_lt _ _) (bools_lt _ _)) rfl rfl rfl rfl (zip3 rfl (os_strs _ _) (os_bools _ _))
    exact .nil
  show Cwp _ _ _ _
  refine cwp_seq ?_
  apply one_region
  case hc =>
    apply ChainL.of (some 66) rfl rfl
    case h => exact step_move rfl
    apply ChainL.of (some 67) rfl rfl
    case h => exact step_move rfl
    apply ChainL.of (some 68) rfl rfl
    case h => exact w_call d3 [] [0, 1, 2] [] Try.func12 rfl (by decide +kernel) rfl rfl .nil (by decide) (map3 rfl (strs_ren _ _) (bools_ren _ _)) rfl rfl (all3 rfl (strs_lt _ _) (bools_lt _ _)) rfl (all3 rfl (strs_lt _ _) (bools_lt _ _)) rfl rfl rfl rfl (zip3 rfl (os_strs _ _) (os_bools _ _))
    apply ChainL.of (some 65) rfl rfl
    case h => exact step_move rfl
    apply ChainL.of (some 69) rfl rfl
    case h => exact step_extract rfl rfl rfl
    apply ChainL.of (some 70) rfl rfl
    case h => exact step_extract rfl rfl rfl
    apply ChainL.of (some 13) rfl rfl
    case h => exact step_assign rfl
    apply ChainL.of (some 14) rfl rfl
    case h => exact step_assign rfl
    exact .nil
  show Cwp _ _ _ _
  refine cwp_seq ?_
  apply one_region
  case hc =>
    apply ChainL.of (some 71) rfl rfl
    case h => exact step_move rfl
    apply ChainL.of (some 72) rfl rfl
    case h => (first | exact w_bin rfl rfl rfl (eql_t (by omega)) | exact w_bin rfl rfl rfl (eql_f (by omega)) | exact w_bin rfl rfl rfl rfl)
    apply ChainL.of (some 73) rfl rfl
    case h => exact step_move rfl
    first
    | apply ChainL.off (some 74) 2 73 true rfl rfl rfl rfl
    | apply ChainL.on (some 74) 2 73 true rfl rfl rfl rfl
      case h => exact step_move rfl
    first
    | apply ChainL.off (some 75) 2 73 true rfl rfl rfl rfl
    | apply ChainL.on (some 75) 2 73 true rfl rfl rfl rfl
      case h => exact step_move rfl
    first
    | apply ChainL.off (some 76) 2 73 true rfl rfl rfl rfl
    | apply ChainL.on (some 76) 2 73 true rfl rfl rfl rfl
      case h => exact w_len_str (T := 9) (by kernel_rfl) rfl rfl rfl
    first
    | apply ChainL.off (some 77) 2 73 true rfl rfl rfl rfl
    | apply ChainL.on (some 77) 2 73 true rfl rfl rfl rfl
      case h => exact w_cut_str (lo := none) (hi := some (.tmp 76)) (T := 9) (by kernel_rfl) rfl rfl 0 t.size rfl ⟨.i64, rfl⟩ (Nat.zero_le _) (by rw [full_size t ht6]; exact ht6) (full_cut t)
    first
    | apply ChainL.off (some 78) 2 73 true rfl rfl rfl rfl
    | apply ChainL.on (some 78) 2 73 true rfl rfl rfl rfl
      case h => exact step_move rfl
    first
    | apply ChainL.off (some 79) 2 73 true rfl rfl rfl rfl
    | apply ChainL.on (some 79) 2 73 true rfl rfl rfl rfl
      case h => exact w_bin rfl rfl rfl (eq_self t)
    apply ChainL.of (some 80) rfl rfl
    case h => exact step_pick rfl rfl
    apply ChainL.of (some 81) rfl rfl
    case h => exact step_move rfl
    first
    | apply ChainL.off (some 82) 10 81 true rfl rfl rfl rfl
    | apply ChainL.on (some 82) 10 81 true rfl rfl rfl rfl
      case h => exact step_move rfl
    first
    | apply ChainL.off (some 83) 10 81 true rfl rfl rfl rfl
    | apply ChainL.on (some 83) 10 81 true rfl rfl rfl rfl
      case h => exact w_call d4 [] [0, 1, 2] [] Try.func13 rfl (by decide +kernel) rfl rfl .nil (by decide) (map3 rfl (strs_ren _ _) (bools_ren _ _)) rfl rfl (all3 rfl (strs_lt _ _) (bools_lt _ _)) rfl (all3 rfl (strs_lt _ _) (bools_lt _ _)) rfl rfl rfl rfl (zip3 rfl (os_strs _ _) (os_bools _ _))
    first
    | apply ChainL.off (some 84) 10 81 true rfl rfl rfl rfl
    | apply ChainL.on (some 84) 10 81 true rfl rfl rfl rfl
      case h => (first | exact w_bin rfl rfl rfl (eql_t (by omega)) | exact w_bin rfl rfl rfl (eql_f (by omega)) | exact w_bin rfl rfl rfl rfl)
    apply ChainL.of (some 85) rfl rfl
    case h => exact step_pick rfl rfl
    apply ChainL.of (some 6) rfl rfl
    case h => exact step_assign rfl
    exact .nil
  show Cwp _ _ _ _
  refine cwp_ret ?_
  exact ⟨.inl rfl, resH_one rfl rfl, fun i x h => by simp at h⟩
theorem keeps_6_1 (at_ c : Int) (s : ByteArray) (F : List Int) (hF : 0 < F.length) (hB : F.length * 8 ≤ 140737488355328) (q : Nat) (hq : q < 8) (h7 : abin .and (.int .i64 at_) (.int .i64 7) = some (.int .i64 (q : Int))) (h3 : abin .and (.int .i64 c) (.int .i64 3) = some (.int .i64 1)) (hs : s.size ≤ 140737488351232) :
    HCall Try.prog 3 [] [.v (.int .i64 at_), .v (.string s), .agg [.v (.int .i64 c), .lst 1 (F.map fun s => [.v (.int .i64 s)])]] [] (.v (.bool true)) := by
  obtain ⟨h, hh⟩ : ∃ h, min s.size 256 = h := ⟨_, rfl⟩
  obtain ⟨t, ht⟩ : ∃ t, s.extract 0 h = t := ⟨_, rfl⟩
  have hle : h ≤ s.size := by omega
  have hts : t.size = h := by rw [← ht, ByteArray.size_extract]; omega
  have ht6 : t.size ≤ 256 := by omega
  have hmin : (if (256 : Int) < (s.size : Int) then (256 : Int) else (s.size : Int)) = ((h : Nat) : Int) := by split <;> omega
  have zl : zD.length = 9 := rfl
  have tl : zT.length = 9 := rfl
  have zq : zD[q]? = some ⟨#[]⟩ := by simp only [zD, List.getElem?_replicate]; rw [if_pos (by omega)]
  have tq : zT[q]? = some false := by simp only [zT, List.getElem?_replicate]; rw [if_pos (by omega)]
  have c6 := new9_6 (2 + 1) F hF hB
  have c8 := write0_5 0 (2 + 1) 0 (by decide) (by decide) (by decide) zD zT F q (by omega) (by omega) t ht6 zl
  have c9 := flush_6 (0 + 1) (2 + 1) 0 (by decide) (by decide) (by decide) zD zT F q (by omega) t _ _ zq tq
  obtain ⟨D, hD⟩ : ∃ D, zD.set q (full t) = D := ⟨_, rfl⟩
  obtain ⟨T, hT⟩ : ∃ T, zT.set q false = T := ⟨_, rfl⟩
  rw [hD, hT] at c9
  have Dl : D.length = 9 := by rw [← hD, List.length_set]; rfl
  have Tl : T.length = 9 := by rw [← hT, List.length_set]; rfl
  have Dq : D[q]? = some (full t) := by rw [← hD, List.getElem?_set_self (by rw [zl]; omega)]
  have Tq : T[q]? = some false := by rw [← hT, List.getElem?_set_self (by rw [tl]; omega)]
  have w0 := write0_5 (0 + 1 + 1) (2 + 1) 0 (by decide) (by decide) (by decide) D T F 8 (by decide) (by decide) oth (by decide +kernel) Dl
  have w1 := wfail_6_1 (0 + 1 + 1 + 1) (2 + 1) 0 (by decide) (by decide) (by decide) (by decide) (by decide) (by decide) D T F Dl Tl
  have d1 := dead_is (.v (.slice none 0 0)) (.lst 2 []) (0 + 1 + 1 + 1 + 1) (0 + 1 + 1 + 1 + 1) (0 + 1) (strs (itD F D 2)) (bools (itT F T 2))
  have d2 := up_is (.v (.slice none 0 0)) (.lst 2 []) (0 + 1 + 1 + 1 + 1) (0 + 1 + 1 + 1 + 1) (0 + 1) (strs (itD F D 2)) (bools (itT F T 2))
  have d3 := read_end 0 (0 + 1 + 1 + 1 + 1) (0 + 1) (by decide) (by decide) (by decide) (by decide) (itD F D 2) (itT F T 2) (by rw [itD_len, Dl]) q (by omega) (full t) (by rw [full_size t ht6]; decide) (by rw [itD_at _ _ _ (by omega), Dq]) (by rw [itT_at _ _ _ (by omega), Tq])
  have d4 := fails_is (.v (.slice none 0 0)) (.lst 2 []) (0 + 1) (0 + 1 + 1 + 1 + 1 + 1) (0 + 1) false (strs (itD F D 2)) (bools (itT F T 2))
  refine HCall.of Try.func3 rfl (by decide +kernel) (Nat.le_of_ble_eq_true rfl) ?_
  refine cwp_seq ?_
  apply one_region
  case hc =>
    apply ChainL.of (some 5) rfl rfl
    case h => exact w_box rfl 105 rfl rfl rfl
    apply ChainL.of (some 6) rfl rfl
    case h => exact step_assign rfl
    exact .nil
  show Cwp _ _ _ _
  refine cwp_seq ?_
  apply one_region
  case hc =>
    apply ChainL.of (some 15) rfl rfl
    case h => exact step_move rfl
    apply ChainL.of (some 16) rfl rfl
    case h => exact w_bin rfl rfl rfl h7
    apply ChainL.of (some 7) rfl rfl
    case h => exact step_assign rfl
    exact .nil
  show Cwp _ _ _ _
  refine cwp_seq ?_
  apply one_region
  case hc =>
    apply ChainL.of (some 17) rfl rfl
    case h => exact step_move rfl
    apply ChainL.of (some 18) rfl rfl
    case h => exact step_move rfl
    apply ChainL.of (some 19) rfl rfl
    case h => exact w_len_str (T := 9) (by kernel_rfl) rfl rfl rfl
    apply ChainL.of (some 20) rfl rfl
    case h => exact w_min rfl rfl rfl hmin
    apply ChainL.of (some 21) rfl rfl
    case h => exact w_cut_str (lo := none) (hi := some (.tmp 20)) (T := 9) (by kernel_rfl) rfl rfl 0 h rfl ⟨.i64, rfl⟩ (Nat.zero_le _) hle ht
    apply ChainL.of (some 8) rfl rfl
    case h => exact step_assign rfl
    exact .nil
  show Cwp _ _ _ _
  refine cwp_seq ?_
  apply one_region
  case hc =>
    apply ChainL.of (some 22) rfl rfl
    case h => (first | exact w_fieldAddr tab rfl rfl rfl rfl (by decide) rfl rfl | exact w_fieldAddr_elt tab rfl rfl rfl rfl (by decide) rfl rfl)
    apply ChainL.of (some 23) rfl rfl
    case h => (first | exact w_load tab rfl rfl rfl rfl rfl rfl rfl | exact w_load tab rfl rfl rfl rfl rfl (by assumption) rfl | exact w_load_elt tab rfl rfl rfl rfl rfl | exact w_loads tab rfl rfl rfl rfl rfl rfl rfl rfl | exact w_load_tab tab rfl rfl rfl rfl (.head _) (by kernel_rfl) | exact w_loads_elt tab rfl rfl rfl rfl rfl rfl)
    apply ChainL.of (some 24) rfl rfl
    case h => exact w_bin rfl rfl rfl h3
    apply ChainL.of (some 9) rfl rfl
    case h => exact step_assign rfl
    exact .nil
  show Cwp _ _ _ _
  refine cwp_seq ?_
  apply one_region
  case hc =>
    apply ChainL.of (some 26) rfl rfl
    case h => exact step_move rfl
    apply ChainL.of (some 27) rfl rfl
    case h => (first | exact w_bin rfl rfl rfl (add_i64 rfl (by omega) (by omega)) | exact w_bin rfl rfl rfl rfl)
    apply ChainL.of (some 28) rfl rfl
    case h => (first | exact w_fieldAddr tab rfl rfl rfl rfl (by decide) rfl rfl | exact w_fieldAddr_elt tab rfl rfl rfl rfl (by decide) rfl rfl)
    apply ChainL.of (some 29) rfl rfl
    case h => (first | exact w_load tab rfl rfl rfl rfl rfl rfl rfl | exact w_load tab rfl rfl rfl rfl rfl (by assumption) rfl | exact w_load_elt tab rfl rfl rfl rfl rfl | exact w_loads tab rfl rfl rfl rfl rfl rfl rfl rfl | exact w_load_tab tab rfl rfl rfl rfl (.head _) (by kernel_rfl) | exact w_loads_elt tab rfl rfl rfl rfl rfl rfl)
    apply ChainL.of (some 30) rfl rfl
    case h => exact w_build tab rfl rfl (by decide) rfl rfl
    apply ChainL.of (some 31) rfl rfl
    case h => exact w_slice1 tab rfl rfl rfl rfl 50 (by decide) (by decide) rfl rfl rfl
    apply ChainL.of (some 32) rfl rfl
    case h => exact w_call c6 [] [50] [1, 2, 0, 3, 4] Try.func6 rfl (by decide +kernel) rfl rfl .nil (by decide) (map1 (cutl_ren _ _ _)) rfl rfl (all1 (cutl_lt _ _ _)) rfl (all6 (cutl_lt _ _ _) (strs_lt _ _) (bools_lt _ _) rfl rfl (ints_lt _ _)) rfl rfl rfl rfl (zip6 (os_cutl _ _ _) (os_strs _ _) (os_bools _ _) rfl rfl (os_ints _ _))
    apply ChainL.of (some 25) rfl rfl
    case h => exact step_move rfl
    apply ChainL.of (some 33) rfl rfl
    case h => exact step_extract rfl rfl rfl
    apply ChainL.of (some 34) rfl rfl
    case h => exact step_extract rfl rfl rfl
    apply ChainL.of (some 10) rfl rfl
    case h => exact step_assign rfl
    apply ChainL.of (some 11) rfl rfl
    case h => exact step_assign rfl
    exact .nil
  show Cwp _ _ _ _
  refine cwp_seq ?_
  refine cwp_seq ?_
  apply one_region
  case hc =>
    apply ChainL.of (some 35) rfl rfl
    case h => exact w_call awake_t [] [] [] Try.func7 rfl (by decide +kernel) rfl rfl .nil (by decide) rfl rfl rfl rfl rfl rfl rfl rfl rfl rfl rfl
    apply ChainL.of (some 36) rfl rfl
    case h => exact w_un rfl rfl rfl
    apply ChainL.of (some 37) rfl rfl
    case h => exact step_move rfl
    first
    | apply ChainL.off (some 38) 2 37 false rfl rfl rfl rfl
    | apply ChainL.on (some 38) 2 37 false rfl rfl rfl rfl
      case h => exact step_move rfl
    first
    | apply ChainL.off (some 39) 2 37 false rfl rfl rfl rfl
    | apply ChainL.on (some 39) 2 37 false rfl rfl rfl rfl
      case h => (first | exact w_bin rfl rfl rfl (neq_t (by omega)) | exact w_bin rfl rfl rfl (neq_f (by omega)) | exact w_bin rfl rfl rfl rfl)
    apply ChainL.of (some 40) rfl rfl
    case h => exact step_pick rfl rfl
    apply ChainL.of (some 41) rfl rfl
    case h => exact step_move rfl
    first
    | apply ChainL.off (some 42) 6 41 false rfl rfl rfl rfl
    | apply ChainL.on (some 42) 6 41 false rfl rfl rfl rfl
      case h => exact step_move rfl
    first
    | apply ChainL.off (some 43) 6 41 false rfl rfl rfl rfl
    | apply ChainL.on (some 43) 6 41 false rfl rfl rfl rfl
      case h => exact step_move rfl
    first
    | apply ChainL.off (some 44) 6 41 false rfl rfl rfl rfl
    | apply ChainL.on (some 44) 6 41 false rfl rfl rfl rfl
      case h => exact step_move rfl
    first
    | apply ChainL.off (some 45) 6 41 false rfl rfl rfl rfl
    | apply ChainL.on (some 45) 6 41 false rfl rfl rfl rfl
      case h => (first | exact w_call c8 [] [0, 1, 2, 3, 4] [5] Try.func8 rfl (by decide +kernel) rfl rfl .nil (by decide) (map5 rfl (strs_ren _ _) (bools_ren _ _) rfl (ints_ren _ _)) rfl rfl (all5 rfl (strs_lt _ _) (bools_lt _ _) rfl (ints_lt _ _)) rfl (all6 rfl (strs_lt _ _) (bools_lt _ _) rfl (ints_lt _ _) rfl) rfl rfl rfl rfl (zip6 rfl (os_strs _ _) (os_bools _ _) rfl (os_ints _ _) rfl) | exact w_call w0 [] [0, 1, 2, 3, 4] [6] Try.func8 rfl (by decide +kernel) rfl rfl .nil (by decide) (map5 rfl (strs_ren _ _) (bools_ren _ _) rfl (ints_ren _ _)) rfl rfl (all5 rfl (strs_lt _ _) (bools_lt _ _) rfl (ints_lt _ _)) rfl (all6 rfl (strs_lt _ _) (bools_lt _ _) rfl (ints_lt _ _) rfl) rfl rfl rfl rfl (zip6 rfl (os_strs _ _) (os_bools _ _) rfl (os_ints _ _) rfl) | exact w_call w1 [] [0, 1, 2, 6, 3, 4] [] Try.func8 rfl (by decide +kernel) rfl rfl .nil (by decide) (map6 rfl (strs_ren _ _) (bools_ren _ _) rfl rfl (ints_ren _ _)) rfl rfl (all6 rfl (strs_lt _ _) (bools_lt _ _) rfl rfl (ints_lt _ _)) rfl (all6 rfl (strs_lt _ _) (bools_lt _ _) rfl rfl (ints_lt _ _)) rfl rfl rfl rfl (zip6 rfl (os_strs _ _) (os_bools _ _) rfl rfl (os_ints _ _)))
    first
    | apply ChainL.off (some 46) 6 41 false rfl rfl rfl rfl
    | apply ChainL.on (some 46) 6 41 false rfl rfl rfl rfl
      case h => (first | exact w_bin rfl rfl rfl (neq_t (by omega)) | exact w_bin rfl rfl rfl (neq_f (by omega)) | exact w_bin rfl rfl rfl rfl)
    apply ChainL.of (some 47) rfl rfl
    case h => exact step_pick rfl rfl
    apply ChainL.of (some 48) rfl rfl
    case h => exact step_move rfl
    first
    | apply ChainL.off (some 49) 13 48 false rfl rfl rfl rfl
    | apply ChainL.on (some 49) 13 48 false rfl rfl rfl rfl
      case h => exact step_move rfl
    first
    | apply ChainL.off (some 50) 13 48 false rfl rfl rfl rfl
    | apply ChainL.on (some 50) 13 48 false rfl rfl rfl rfl
      case h => exact w_call c9 [] [0, 1, 2, 5, 3, 4] [] Try.func9 rfl (by decide +kernel) rfl rfl .nil (by decide) (map6 rfl (strs_ren _ _) (bools_ren _ _) rfl rfl (ints_ren _ _)) rfl rfl (all6 rfl (strs_lt _ _) (bools_lt _ _) rfl rfl (ints_lt _ _)) rfl (all6 rfl (strs_lt _ _) (bools_lt _ _) rfl rfl (ints_lt _ _)) rfl rfl rfl rfl (zip6 rfl (os_strs _ _) (os_bools _ _) rfl rfl (os_ints _ _))
    first
    | apply ChainL.off (some 51) 13 48 false rfl rfl rfl rfl
    | apply ChainL.on (some 51) 13 48 false rfl rfl rfl rfl
      case h => (first | exact w_bin rfl rfl rfl (neq_t (by omega)) | exact w_bin rfl rfl rfl (neq_f (by omega)) | exact w_bin rfl rfl rfl rfl)
    apply ChainL.of (some 52) rfl rfl
    case h => exact step_pick rfl rfl
    exact .nil
  show Cwp _ _ _ _
  refine cond_f (by first | rfl | kernel_rfl) ?_
  refine cwp_skip ?_
  show Cwp _ _ _ _
  refine cwp_seq ?_
  refine cwp_seq ?_
  apply one_region
  case hc =>
    apply ChainL.of (some 12) rfl rfl
    case h => exact step_assign rfl
    exact .nil
  show Cwp _ _ _ _
  refine cwp_block ?_
  refine cwp_loopN 3 ?_
  refine loop_round ?_
  refine cwp_seq ?_
  refine cwp_seq ?_
  apply one_region
  case hc =>
    apply ChainL.of (some 53) rfl rfl
    case h => exact step_move rfl
    apply ChainL.of (some 54) rfl rfl
    case h => exact step_move rfl
    apply ChainL.of (some 55) rfl rfl
    case h => (first | exact w_bin rfl rfl rfl (leq_t (by omega)) | exact w_bin rfl rfl rfl (leq_f (by omega)) | exact w_bin rfl rfl rfl rfl)
    exact .nil
  show Cwp _ _ _ _
  refine cond_t (by first | rfl | kernel_rfl) ?_
  refine cwp_skip ?_
  show Cwp _ _ _ _
  refine cwp_seq ?_
  refine cwp_block ?_
  apply one_region
  case hc =>
    apply ChainL.of (some 58) rfl rfl
    case h => exact step_move rfl
    apply ChainL.of (some 59) rfl rfl
    case h => (first | exact w_call c8 [] [0, 1, 2, 3, 4] [5] Try.func8 rfl (by decide +kernel) rfl rfl .nil (by decide) (map5 rfl (strs_ren _ _) (bools_ren _ _) rfl (ints_ren _ _)) rfl rfl (all5 rfl (strs_lt _ _) (bools_lt _ _) rfl (ints_lt _ _)) rfl (all6 rfl (strs_lt _ _) (bools_lt _ _) rfl (ints_lt _ _) rfl) rfl rfl rfl rfl (zip6 rfl (os_strs _ _) (os_bools _ _) rfl (os_ints _ _) rfl) | exact w_call w0 [] [0, 1, 2, 3, 4] [6] Try.func8 rfl (by decide +kernel) rfl rfl .nil (by decide) (map5 rfl (strs_ren _ _) (bools_ren _ _) rfl (ints_ren _ _)) rfl rfl (all5 rfl (strs_lt _ _) (bools_lt _ _) rfl (ints_lt _ _)) rfl (all6 rfl (strs_lt _ _) (bools_lt _ _) rfl (ints_lt _ _) rfl) rfl rfl rfl rfl (zip6 rfl (os_strs _ _) (os_bools _ _) rfl (os_ints _ _) rfl) | exact w_call w1 [] [0, 1, 2, 6, 3, 4] [] Try.func8 rfl (by decide +kernel) rfl rfl .nil (by decide) (map6 rfl (strs_ren _ _) (bools_ren _ _) rfl rfl (ints_ren _ _)) rfl rfl (all6 rfl (strs_lt _ _) (bools_lt _ _) rfl rfl (ints_lt _ _)) rfl (all6 rfl (strs_lt _ _) (bools_lt _ _) rfl rfl (ints_lt _ _)) rfl rfl rfl rfl (zip6 rfl (os_strs _ _) (os_bools _ _) rfl rfl (os_ints _ _)))
    exact .nil
  show Cwp _ _ _ _
  apply one_region
  case hc =>
    apply ChainL.of (some 56) rfl rfl
    case h => exact step_move rfl
    apply ChainL.of (some 57) rfl rfl
    case h => (first | exact w_bin rfl rfl rfl (add_i64 rfl (by omega) (by omega)) | exact w_bin rfl rfl rfl rfl)
    apply ChainL.of (some 12) rfl rfl
    case h => exact step_assign rfl
    exact .nil
  show LoopN _ _ _ _ _
  refine loop_round ?_
  refine cwp_seq ?_
  refine cwp_seq ?_
  apply one_region
  case hc =>
    apply ChainL.of (some 53) rfl rfl
    case h => exact step_move rfl
    apply ChainL.of (some 54) rfl rfl
    case h => exact step_move rfl
    apply ChainL.of (some 55) rfl rfl
    case h => (first | exact w_bin rfl rfl rfl (leq_t (by omega)) | exact w_bin rfl rfl rfl (leq_f (by omega)) | exact w_bin rfl rfl rfl rfl)
    exact .nil
  show Cwp _ _ _ _
  refine cond_t (by first | rfl | kernel_rfl) ?_
  refine cwp_skip ?_
  show Cwp _ _ _ _
  refine cwp_seq ?_
  refine cwp_block ?_
  apply one_region
  case hc =>
    apply ChainL.of (some 58) rfl rfl
    case h => exact step_move rfl
    apply ChainL.of (some 59) rfl rfl
    case h => (first | exact w_call c8 [] [0, 1, 2, 3, 4] [5] Try.func8 rfl (by decide +kernel) rfl rfl .nil (by decide) (map5 rfl (strs_ren _ _) (bools_ren _ _) rfl (ints_ren _ _)) rfl rfl (all5 rfl (strs_lt _ _) (bools_lt _ _) rfl (ints_lt _ _)) rfl (all6 rfl (strs_lt _ _) (bools_lt _ _) rfl (ints_lt _ _) rfl) rfl rfl rfl rfl (zip6 rfl (os_strs _ _) (os_bools _ _) rfl (os_ints _ _) rfl) | exact w_call w0 [] [0, 1, 2, 3, 4] [6] Try.func8 rfl (by decide +kernel) rfl rfl .nil (by decide) (map5 rfl (strs_ren _ _) (bools_ren _ _) rfl (ints_ren _ _)) rfl rfl (all5 rfl (strs_lt _ _) (bools_lt _ _) rfl (ints_lt _ _)) rfl (all6 rfl (strs_lt _ _) (bools_lt _ _) rfl (ints_lt _ _) rfl) rfl rfl rfl rfl (zip6 rfl (os_strs _ _) (os_bools _ _) rfl (os_ints _ _) rfl) | exact w_call w1 [] [0, 1, 2, 6, 3, 4] [] Try.func8 rfl (by decide +kernel) rfl rfl .nil (by decide) (map6 rfl (strs_ren _ _) (bools_ren _ _) rfl rfl (ints_ren _ _)) rfl rfl (all6 rfl (strs_lt _ _) (bools_lt _ _) rfl rfl (ints_lt _ _)) rfl (all6 rfl (strs_lt _ _) (bools_lt _ _) rfl rfl (ints_lt _ _)) rfl rfl rfl rfl (zip6 rfl (os_strs _ _) (os_bools _ _) rfl rfl (os_ints _ _)))
    exact .nil
  show Cwp _ _ _ _
  apply one_region
  case hc =>
    apply ChainL.of (some 56) rfl rfl
    case h => exact step_move rfl
    apply ChainL.of (some 57) rfl rfl
    case h => (first | exact w_bin rfl rfl rfl (add_i64 rfl (by omega) (by omega)) | exact w_bin rfl rfl rfl rfl)
    apply ChainL.of (some 12) rfl rfl
    case h => exact step_assign rfl
    exact .nil
  show LoopN _ _ _ _ _
  refine loop_round ?_
  refine cwp_seq ?_
  refine cwp_seq ?_
  apply one_region
  case hc =>
    apply ChainL.of (some 53) rfl rfl
    case h => exact step_move rfl
    apply ChainL.of (some 54) rfl rfl
    case h => exact step_move rfl
    apply ChainL.of (some 55) rfl rfl
    case h => (first | exact w_bin rfl rfl rfl (leq_t (by omega)) | exact w_bin rfl rfl rfl (leq_f (by omega)) | exact w_bin rfl rfl rfl rfl)
    exact .nil
  show Cwp _ _ _ _
  refine cond_f (by first | rfl | kernel_rfl) ?_
  refine cwp_exit ?_
  show Cwp _ _ _ _
  refine cwp_seq ?_
  refine cwp_seq ?_
  apply one_region
  case hc =>
    apply ChainL.of (some 60) rfl rfl
    case h => exact step_move rfl
    apply ChainL.of (some 61) rfl rfl
    case h => exact w_call d1 [] [0, 1, 2] [] Try.func10 rfl (by decide +kernel) rfl rfl .nil (by decide) (map3 rfl (strs_ren _ _) (bools_ren _ _)) rfl rfl (all3 rfl (strs_lt _ _) (bools_lt _ _)) rfl (all3 rfl (strs_lt _ _) (bools_lt _ _)) rfl rfl rfl rfl (zip3 rfl (os_strs _ _) (os_bools _ _))
    apply ChainL.of (some 62) rfl rfl
    case h => exact w_un rfl rfl rfl
    exact .nil
  show Cwp _ _ _ _
  refine cond_f (by first | rfl | kernel_rfl) ?_
  refine cwp_skip ?_
  show Cwp _ _ _ _
  refine cwp_seq ?_
  apply one_region
  case hc =>
    apply ChainL.of (some 63) rfl rfl
    case h => exact step_move rfl
    apply ChainL.of (some 64) rfl rfl
    case h => exact w_call d2 [] [0, 1, 2] [] Try.func11 rfl (by decide +kernel) rfl rfl .nil (by decide) (map3 rfl (strs_ren _ _) (bools_ren _ _)) rfl rfl (all3 rfl (strs_lt _ _) (bools_lt _ _)) rfl (all3 rfl (strs_lt _ _) (bools_lt _ _)) rfl rfl rfl rfl (zip3 rfl (os_strs _ _) (os_bools _ _))
    exact .nil
  show Cwp _ _ _ _
  refine cwp_seq ?_
  apply one_region
  case hc =>
    apply ChainL.of (some 66) rfl rfl
    case h => exact step_move rfl
    apply ChainL.of (some 67) rfl rfl
    case h => exact step_move rfl
    apply ChainL.of (some 68) rfl rfl
    case h => exact w_call d3 [] [0, 1, 2] [] Try.func12 rfl (by decide +kernel) rfl rfl .nil (by decide) (map3 rfl (strs_ren _ _) (bools_ren _ _)) rfl rfl (all3 rfl (strs_lt _ _) (bools_lt _ _)) rfl (all3 rfl (strs_lt _ _) (bools_lt _ _)) rfl rfl rfl rfl (zip3 rfl (os_strs _ _) (os_bools _ _))
    apply ChainL.of (some 65) rfl rfl
    case h => exact step_move rfl
    apply ChainL.of (some 69) rfl rfl
    case h => exact step_extract rfl rfl rfl
    apply ChainL.of (some 70) rfl rfl
    case h => exact step_extract rfl rfl rfl
    apply ChainL.of (some 13) rfl rfl
    case h => exact step_assign rfl
    apply ChainL.of (some 14) rfl rfl
    case h => exact step_assign rfl
    exact .nil
  show Cwp _ _ _ _
  refine cwp_seq ?_
  apply one_region
  case hc =>
    apply ChainL.of (some 71) rfl rfl
    case h => exact step_move rfl
    apply ChainL.of (some 72) rfl rfl
    case h => (first | exact w_bin rfl rfl rfl (eql_t (by omega)) | exact w_bin rfl rfl rfl (eql_f (by omega)) | exact w_bin rfl rfl rfl rfl)
    apply ChainL.of (some 73) rfl rfl
    case h => exact step_move rfl
    first
    | apply ChainL.off (some 74) 2 73 true rfl rfl rfl rfl
    | apply ChainL.on (some 74) 2 73 true rfl rfl rfl rfl
      case h => exact step_move rfl
    first
    | apply ChainL.off (some 75) 2 73 true rfl rfl rfl rfl
    | apply ChainL.on (some 75) 2 73 true rfl rfl rfl rfl
      case h => exact step_move rfl
    first
    | apply ChainL.off (some 76) 2 73 true rfl rfl rfl rfl
    | apply ChainL.on (some 76) 2 73 true rfl rfl rfl rfl
      case h => exact w_len_str (T := 9) (by kernel_rfl) rfl rfl rfl
    first
    | apply ChainL.off (some 77) 2 73 true rfl rfl rfl rfl
    | apply ChainL.on (some 77) 2 73 true rfl rfl rfl rfl
      case h => exact w_cut_str (lo := none) (hi := some (.tmp 76)) (T := 9) (by kernel_rfl) rfl rfl 0 t.size rfl ⟨.i64, rfl⟩ (Nat.zero_le _) (by rw [full_size t ht6]; exact ht6) (full_cut t)
    first
    | apply ChainL.off (some 78) 2 73 true rfl rfl rfl rfl
    | apply ChainL.on (some 78) 2 73 true rfl rfl rfl rfl
      case h => exact step_move rfl
    first
    | apply ChainL.off (some 79) 2 73 true rfl rfl rfl rfl
    | apply ChainL.on (some 79) 2 73 true rfl rfl rfl rfl
      case h => exact w_bin rfl rfl rfl (eq_self t)
    apply ChainL.of (some 80) rfl rfl
    case h => exact step_pick rfl rfl
    apply ChainL.of (some 81) rfl rfl
    case h => exact step_move rfl
    first
    | apply ChainL.off (some 82) 10 81 true rfl rfl rfl rfl
    | apply ChainL.on (some 82) 10 81 true rfl rfl rfl rfl
      case h => exact step_move rfl
    first
    | apply ChainL.off (some 83) 10 81 true rfl rfl rfl rfl
    | apply ChainL.on (some 83) 10 81 true rfl rfl rfl rfl
      case h => exact w_call d4 [] [0, 1, 2] [] Try.func13 rfl (by decide +kernel) rfl rfl .nil (by decide) (map3 rfl (strs_ren _ _) (bools_ren _ _)) rfl rfl (all3 rfl (strs_lt _ _) (bools_lt _ _)) rfl (all3 rfl (strs_lt _ _) (bools_lt _ _)) rfl rfl rfl rfl (zip3 rfl (os_strs _ _) (os_bools _ _))
    first
    | apply ChainL.off (some 84) 10 81 true rfl rfl rfl rfl
    | apply ChainL.on (some 84) 10 81 true rfl rfl rfl rfl
      case h => (first | exact w_bin rfl rfl rfl (eql_t (by omega)) | exact w_bin rfl rfl rfl (eql_f (by omega)) | exact w_bin rfl rfl rfl rfl)
    apply ChainL.of (some 85) rfl rfl
    case h => exact step_pick rfl rfl
    apply ChainL.of (some 6) rfl rfl
    case h => exact step_assign rfl
    exact .nil
  show Cwp _ _ _ _
  refine cwp_ret ?_
  exact ⟨.inl rfl, resH_one rfl rfl, fun i x h => by simp at h⟩
theorem keeps_6_2 (at_ c : Int) (s : ByteArray) (F : List Int) (hF : 0 < F.length) (hB : F.length * 8 ≤ 140737488355328) (q : Nat) (hq : q < 8) (h7 : abin .and (.int .i64 at_) (.int .i64 7) = some (.int .i64 (q : Int))) (h3 : abin .and (.int .i64 c) (.int .i64 3) = some (.int .i64 2)) (hs : s.size ≤ 140737488351232) :
    HCall Try.prog 3 [] [.v (.int .i64 at_), .v (.string s), .agg [.v (.int .i64 c), .lst 1 (F.map fun s => [.v (.int .i64 s)])]] [] (.v (.bool true)) := by
  obtain ⟨h, hh⟩ : ∃ h, min s.size 256 = h := ⟨_, rfl⟩
  obtain ⟨t, ht⟩ : ∃ t, s.extract 0 h = t := ⟨_, rfl⟩
  have hle : h ≤ s.size := by omega
  have hts : t.size = h := by rw [← ht, ByteArray.size_extract]; omega
  have ht6 : t.size ≤ 256 := by omega
  have hmin : (if (256 : Int) < (s.size : Int) then (256 : Int) else (s.size : Int)) = ((h : Nat) : Int) := by split <;> omega
  have zl : zD.length = 9 := rfl
  have tl : zT.length = 9 := rfl
  have zq : zD[q]? = some ⟨#[]⟩ := by simp only [zD, List.getElem?_replicate]; rw [if_pos (by omega)]
  have tq : zT[q]? = some false := by simp only [zT, List.getElem?_replicate]; rw [if_pos (by omega)]
  have c6 := new9_6 (2 + 2) F hF hB
  have c8 := write0_5 0 (2 + 2) 0 (by decide) (by decide) (by decide) zD zT F q (by omega) (by omega) t ht6 zl
  have c9 := flush_6 (0 + 1) (2 + 2) 0 (by decide) (by decide) (by decide) zD zT F q (by omega) t _ _ zq tq
  obtain ⟨D, hD⟩ : ∃ D, zD.set q (full t) = D := ⟨_, rfl⟩
  obtain ⟨T, hT⟩ : ∃ T, zT.set q false = T := ⟨_, rfl⟩
  rw [hD, hT] at c9
  have Dl : D.length = 9 := by rw [← hD, List.length_set]; rfl
  have Tl : T.length = 9 := by rw [← hT, List.length_set]; rfl
  have Dq : D[q]? = some (full t) := by rw [← hD, List.getElem?_set_self (by rw [zl]; omega)]
  have Tq : T[q]? = some false := by rw [← hT, List.getElem?_set_self (by rw [tl]; omega)]
  have w0 := write0_5 (0 + 1 + 1) (2 + 2) 0 (by decide) (by decide) (by decide) D T F 8 (by decide) (by decide) oth (by decide +kernel) Dl
  have w1 := wok_6_1 (0 + 1 + 1 + 1) (2 + 2) 0 (by decide) (by decide) (by decide) D T F Dl
  have w2 := wfail_6_2 (0 + 1 + 1 + 1 + 1) (2 + 2) 0 (by decide) (by decide) (by decide) (by decide) (by decide) (by decide) D T F Dl Tl
  have d1 := dead_is (.v (.slice none 0 0)) (.lst 2 []) (0 + 1 + 1 + 1 + 1 + 1) (0 + 1 + 1 + 1 + 1 + 1) (0 + 1) (strs (itD F D 3)) (bools (itT F T 3))
  have d2 := up_is (.v (.slice none 0 0)) (.lst 2 []) (0 + 1 + 1 + 1 + 1 + 1) (0 + 1 + 1 + 1 + 1 + 1) (0 + 1) (strs (itD F D 3)) (bools (itT F T 3))
  have d3 := read_end 0 (0 + 1 + 1 + 1 + 1 + 1) (0 + 1) (by decide) (by decide) (by decide) (by decide) (itD F D 3) (itT F T 3) (by rw [itD_len, Dl]) q (by omega) (full t) (by rw [full_size t ht6]; decide) (by rw [itD_at _ _ _ (by omega), Dq]) (by rw [itT_at _ _ _ (by omega), Tq])
  have d4 := fails_is (.v (.slice none 0 0)) (.lst 2 []) (0 + 1) (0 + 1 + 1 + 1 + 1 + 1 + 1) (0 + 1) false (strs (itD F D 3)) (bools (itT F T 3))
  refine HCall.of Try.func3 rfl (by decide +kernel) (Nat.le_of_ble_eq_true rfl) ?_
  refine cwp_seq ?_
  apply one_region
  case hc =>
    apply ChainL.of (some 5) rfl rfl
    case h => exact w_box rfl 106 rfl rfl rfl
    apply ChainL.of (some 6) rfl rfl
    case h => exact step_assign rfl
    exact .nil
  show Cwp _ _ _ _
  refine cwp_seq ?_
  apply one_region
  case hc =>
    apply ChainL.of (some 15) rfl rfl
    case h => exact step_move rfl
    apply ChainL.of (some 16) rfl rfl
    case h => exact w_bin rfl rfl rfl h7
    apply ChainL.of (some 7) rfl rfl
    case h => exact step_assign rfl
    exact .nil
  show Cwp _ _ _ _
  refine cwp_seq ?_
  apply one_region
  case hc =>
    apply ChainL.of (some 17) rfl rfl
    case h => exact step_move rfl
    apply ChainL.of (some 18) rfl rfl
    case h => exact step_move rfl
    apply ChainL.of (some 19) rfl rfl
    case h => exact w_len_str (T := 9) (by kernel_rfl) rfl rfl rfl
    apply ChainL.of (some 20) rfl rfl
    case h => exact w_min rfl rfl rfl hmin
    apply ChainL.of (some 21) rfl rfl
    case h => exact w_cut_str (lo := none) (hi := some (.tmp 20)) (T := 9) (by kernel_rfl) rfl rfl 0 h rfl ⟨.i64, rfl⟩ (Nat.zero_le _) hle ht
    apply ChainL.of (some 8) rfl rfl
    case h => exact step_assign rfl
    exact .nil
  show Cwp _ _ _ _
  refine cwp_seq ?_
  apply one_region
  case hc =>
    apply ChainL.of (some 22) rfl rfl
    case h => (first | exact w_fieldAddr tab rfl rfl rfl rfl (by decide) rfl rfl | exact w_fieldAddr_elt tab rfl rfl rfl rfl (by decide) rfl rfl)
    apply ChainL.of (some 23) rfl rfl
    case h => (first | exact w_load tab rfl rfl rfl rfl rfl rfl rfl | exact w_load tab rfl rfl rfl rfl rfl (by assumption) rfl | exact w_load_elt tab rfl rfl rfl rfl rfl | exact w_loads tab rfl rfl rfl rfl rfl rfl rfl rfl | exact w_load_tab tab rfl rfl rfl rfl (.head _) (by kernel_rfl) | exact w_loads_elt tab rfl rfl rfl rfl rfl rfl)
    apply ChainL.of (some 24) rfl rfl
    case h => exact w_bin rfl rfl rfl h3
    apply ChainL.of (some 9) rfl rfl
    case h => exact step_assign rfl
    exact .nil
  show Cwp _ _ _ _
  refine cwp_seq ?_
  apply one_region
  case hc =>
    apply ChainL.of (some 26) rfl rfl
    case h => exact step_move rfl
    apply ChainL.of (some 27) rfl rfl
    case h => (first | exact w_bin rfl rfl rfl (add_i64 rfl (by omega) (by omega)) | exact w_bin rfl rfl rfl rfl)
    apply ChainL.of (some 28) rfl rfl
    case h => (first | exact w_fieldAddr tab rfl rfl rfl rfl (by decide) rfl rfl | exact w_fieldAddr_elt tab rfl rfl rfl rfl (by decide) rfl rfl)
    apply ChainL.of (some 29) rfl rfl
    case h => (first | exact w_load tab rfl rfl rfl rfl rfl rfl rfl | exact w_load tab rfl rfl rfl rfl rfl (by assumption) rfl | exact w_load_elt tab rfl rfl rfl rfl rfl | exact w_loads tab rfl rfl rfl rfl rfl rfl rfl rfl | exact w_load_tab tab rfl rfl rfl rfl (.head _) (by kernel_rfl) | exact w_loads_elt tab rfl rfl rfl rfl rfl rfl)
    apply ChainL.of (some 30) rfl rfl
    case h => exact w_build tab rfl rfl (by decide) rfl rfl
    apply ChainL.of (some 31) rfl rfl
    case h => exact w_slice1 tab rfl rfl rfl rfl 50 (by decide) (by decide) rfl rfl rfl
    apply ChainL.of (some 32) rfl rfl
    case h => exact w_call c6 [] [50] [1, 2, 0, 3, 4] Try.func6 rfl (by decide +kernel) rfl rfl .nil (by decide) (map1 (cutl_ren _ _ _)) rfl rfl (all1 (cutl_lt _ _ _)) rfl (all6 (cutl_lt _ _ _) (strs_lt _ _) (bools_lt _ _) rfl rfl (ints_lt _ _)) rfl rfl rfl rfl (zip6 (os_cutl _ _ _) (os_strs _ _) (os_bools _ _) rfl rfl (os_ints _ _))
    apply ChainL.of (some 25) rfl rfl
    case h => exact step_move rfl
    apply ChainL.of (some 33) rfl rfl
    case h => exact step_extract rfl rfl rfl
    apply ChainL.of (some 34) rfl rfl
    case h => exact step_extract rfl rfl rfl
    apply ChainL.of (some 10) rfl rfl
    case h => exact step_assign rfl
    apply ChainL.of (some 11) rfl rfl
    case h => exact step_assign rfl
    exact .nil
  show Cwp _ _ _ _
  refine cwp_seq ?_
  refine cwp_seq ?_
  apply one_region
  case hc =>
    apply ChainL.of (some 35) rfl rfl
    case h => exact w_call awake_t [] [] [] Try.func7 rfl (by decide +kernel) rfl rfl .nil (by decide) rfl rfl rfl rfl rfl rfl rfl rfl rfl rfl rfl
    apply ChainL.of (some 36) rfl rfl
    case h => exact w_un rfl rfl rfl
    apply ChainL.of (some 37) rfl rfl
    case h => exact step_move rfl
    first
    | apply ChainL.off (some 38) 2 37 false rfl rfl rfl rfl
    | apply ChainL.on (some 38) 2 37 false rfl rfl rfl rfl
      case h => exact step_move rfl
    first
    | apply ChainL.off (some 39) 2 37 false rfl rfl rfl rfl
    | apply ChainL.on (some 39) 2 37 false rfl rfl rfl rfl
      case h => (first | exact w_bin rfl rfl rfl (neq_t (by omega)) | exact w_bin rfl rfl rfl (neq_f (by omega)) | exact w_bin rfl rfl rfl rfl)
    apply ChainL.of (some 40) rfl rfl
    case h => exact step_pick rfl rfl
    apply ChainL.of (some 41) rfl rfl
    case h => exact step_move rfl
    first
    | apply ChainL.off (some 42) 6 41 false rfl rfl rfl rfl
    | apply ChainL.on (some 42) 6 41 false rfl rfl rfl rfl
      case h => exact step_move rfl
    first
    | apply ChainL.off (some 43) 6 41 false rfl rfl rfl rfl
    | apply ChainL.on (some 43) 6 41 false rfl rfl rfl rfl
      case h => exact step_move rfl
    first
    | apply ChainL.off (some 44) 6 41 false rfl rfl rfl rfl
    | apply ChainL.on (some 44) 6 41 false rfl rfl rfl rfl
      case h => exact step_move rfl
    first
    | apply ChainL.off (some 45) 6 41 false rfl rfl rfl rfl
    | apply ChainL.on (some 45) 6 41 false rfl rfl rfl rfl
      case h => (first | exact w_call c8 [] [0, 1, 2, 3, 4] [5] Try.func8 rfl (by decide +kernel) rfl rfl .nil (by decide) (map5 rfl (strs_ren _ _) (bools_ren _ _) rfl (ints_ren _ _)) rfl rfl (all5 rfl (strs_lt _ _) (bools_lt _ _) rfl (ints_lt _ _)) rfl (all6 rfl (strs_lt _ _) (bools_lt _ _) rfl (ints_lt _ _) rfl) rfl rfl rfl rfl (zip6 rfl (os_strs _ _) (os_bools _ _) rfl (os_ints _ _) rfl) | exact w_call w0 [] [0, 1, 2, 3, 4] [6] Try.func8 rfl (by decide +kernel) rfl rfl .nil (by decide) (map5 rfl (strs_ren _ _) (bools_ren _ _) rfl (ints_ren _ _)) rfl rfl (all5 rfl (strs_lt _ _) (bools_lt _ _) rfl (ints_lt _ _)) rfl (all6 rfl (strs_lt _ _) (bools_lt _ _) rfl (ints_lt _ _) rfl) rfl rfl rfl rfl (zip6 rfl (os_strs _ _) (os_bools _ _) rfl (os_ints _ _) rfl) | exact w_call w1 [] [0, 1, 2, 6, 3, 4] [7] Try.func8 rfl (by decide +kernel) rfl rfl .nil (by decide) (map6 rfl (strs_ren _ _) (bools_ren _ _) rfl rfl (ints_ren _ _)) rfl rfl (all6 rfl (strs_lt _ _) (bools_lt _ _) rfl rfl (ints_lt _ _)) rfl (all7 rfl (strs_lt _ _) (bools_lt _ _) rfl rfl (ints_lt _ _) rfl) rfl rfl rfl rfl (zip7 rfl (os_strs _ _) (os_bools _ _) rfl rfl (os_ints _ _) rfl) | exact w_call w2 [] [0, 1, 2, 7, 3, 4] [] Try.func8 rfl (by decide +kernel) rfl rfl .nil (by decide) (map6 rfl (strs_ren _ _) (bools_ren _ _) rfl rfl (ints_ren _ _)) rfl rfl (all6 rfl (strs_lt _ _) (bools_lt _ _) rfl rfl (ints_lt _ _)) rfl (all6 rfl (strs_lt _ _) (bools_lt _ _) rfl rfl (ints_lt _ _)) rfl rfl rfl rfl (zip6 rfl (os_strs _ _) (os_bools _ _) rfl rfl (os_ints _ _)))
    first
    | apply ChainL.off (some 46) 6 41 false rfl rfl rfl rfl
    | apply ChainL.on (some 46) 6 41 false rfl rfl rfl rfl
      case h => (first | exact w_bin rfl rfl rfl (neq_t (by omega)) | exact w_bin rfl rfl rfl (neq_f (by omega)) | exact w_bin rfl rfl rfl rfl)
    apply ChainL.of (some 47) rfl rfl
    case h => exact step_pick rfl rfl
    apply ChainL.of (some 48) rfl rfl
    case h => exact step_move rfl
    first
    | apply ChainL.off (some 49) 13 48 false rfl rfl rfl rfl
    | apply ChainL.on (some 49) 13 48 false rfl rfl rfl rfl
      case h => exact step_move rfl
    first
    | apply ChainL.off (some 50) 13 48 false rfl rfl rfl rfl
    | apply ChainL.on (some 50) 13 48 false rfl rfl rfl rfl
      case h => exact w_call c9 [] [0, 1, 2, 5, 3, 4] [] Try.func9 rfl (by decide +kernel) rfl rfl .nil (by decide) (map6 rfl (strs_ren _ _) (bools_ren _ _) rfl rfl (ints_ren _ _)) rfl rfl (all6 rfl (strs_lt _ _) (bools_lt _ _) rfl rfl (ints_lt _ _)) rfl (all6 rfl (strs_lt _ _) (bools_lt _ _) rfl rfl (ints_lt _ _)) rfl rfl rfl rfl (zip6 rfl (os_strs _ _) (os_bools _ _) rfl rfl (os_ints _ _))
    first
    | apply ChainL.off (some 51) 13 48 false rfl rfl rfl rfl
    | apply ChainL.on (some 51) 13 48 false rfl rfl rfl rfl
      case h => (first | exact w_bin rfl rfl rfl (neq_t (by omega)) | exact w_bin rfl rfl rfl (neq_f (by omega)) | exact w_bin rfl rfl rfl rfl)
    apply ChainL.of (some 52) rfl rfl
    case h => exact step_pick rfl rfl
    exact .nil
  show Cwp _ _ _ _
  refine cond_f (by first | rfl | kernel_rfl) ?_
  refine cwp_skip ?_
  show Cwp _ _ _ _
  refine cwp_seq ?_
  refine cwp_seq ?_
  apply one_region
  case hc =>
    apply ChainL.of (some 12) rfl rfl
    case h => exact step_assign rfl
    exact .nil
  show Cwp _ _ _ _
  refine cwp_block ?_
  refine cwp_loopN 4 ?_
  refine loop_round ?_
  refine cwp_seq ?_
  refine cwp_seq ?_
  apply one_region
  case hc =>
    apply ChainL.of (some 53) rfl rfl
    case h => exact step_move rfl
    apply ChainL.of (some 54) rfl rfl
    case h => exact step_move rfl
    apply ChainL.of (some 55) rfl rfl
    case h => (first | exact w_bin rfl rfl rfl (leq_t (by omega)) | exact w_bin rfl rfl rfl (leq_f (by omega)) | exact w_bin rfl rfl rfl rfl)
    exact .nil
  show Cwp _ _ _ _
  refine cond_t (by first | rfl | kernel_rfl) ?_
  refine cwp_skip ?_
  show Cwp _ _ _ _
  refine cwp_seq ?_
  refine cwp_block ?_
  apply one_region
  case hc =>
    apply ChainL.of (some 58) rfl rfl
    case h => exact step_move rfl
    apply ChainL.of (some 59) rfl rfl
    case h => (first | exact w_call c8 [] [0, 1, 2, 3, 4] [5] Try.func8 rfl (by decide +kernel) rfl rfl .nil (by decide) (map5 rfl (strs_ren _ _) (bools_ren _ _) rfl (ints_ren _ _)) rfl rfl (all5 rfl (strs_lt _ _) (bools_lt _ _) rfl (ints_lt _ _)) rfl (all6 rfl (strs_lt _ _) (bools_lt _ _) rfl (ints_lt _ _) rfl) rfl rfl rfl rfl (zip6 rfl (os_strs _ _) (os_bools _ _) rfl (os_ints _ _) rfl) | exact w_call w0 [] [0, 1, 2, 3, 4] [6] Try.func8 rfl (by decide +kernel) rfl rfl .nil (by decide) (map5 rfl (strs_ren _ _) (bools_ren _ _) rfl (ints_ren _ _)) rfl rfl (all5 rfl (strs_lt _ _) (bools_lt _ _) rfl (ints_lt _ _)) rfl (all6 rfl (strs_lt _ _) (bools_lt _ _) rfl (ints_lt _ _) rfl) rfl rfl rfl rfl (zip6 rfl (os_strs _ _) (os_bools _ _) rfl (os_ints _ _) rfl) | exact w_call w1 [] [0, 1, 2, 6, 3, 4] [7] Try.func8 rfl (by decide +kernel) rfl rfl .nil (by decide) (map6 rfl (strs_ren _ _) (bools_ren _ _) rfl rfl (ints_ren _ _)) rfl rfl (all6 rfl (strs_lt _ _) (bools_lt _ _) rfl rfl (ints_lt _ _)) rfl (all7 rfl (strs_lt _ _) (bools_lt _ _) rfl rfl (ints_lt _ _) rfl) rfl rfl rfl rfl (zip7 rfl (os_strs _ _) (os_bools _ _) rfl rfl (os_ints _ _) rfl) | exact w_call w2 [] [0, 1, 2, 7, 3, 4] [] Try.func8 rfl (by decide +kernel) rfl rfl .nil (by decide) (map6 rfl (strs_ren _ _) (bools_ren _ _) rfl rfl (ints_ren _ _)) rfl rfl (all6 rfl (strs_lt _ _) (bools_lt _ _) rfl rfl (ints_lt _ _)) rfl (all6 rfl (strs_lt _ _) (bools_lt _ _) rfl rfl (ints_lt _ _)) rfl rfl rfl rfl (zip6 rfl (os_strs _ _) (os_bools _ _) rfl rfl (os_ints _ _)))
    exact .nil
  show Cwp _ _ _ _
  apply one_region
  case hc =>
    apply ChainL.of (some 56) rfl rfl
    case h => exact step_move rfl
    apply ChainL.of (some 57) rfl rfl
    case h => (first | exact w_bin rfl rfl rfl (add_i64 rfl (by omega) (by omega)) | exact w_bin rfl rfl rfl rfl)
    apply ChainL.of (some 12) rfl rfl
    case h => exact step_assign rfl
    exact .nil
  show LoopN _ _ _ _ _
  refine loop_round ?_
  refine cwp_seq ?_
  refine cwp_seq ?_
  apply one_region
  case hc =>
    apply ChainL.of (some 53) rfl rfl
    case h => exact step_move rfl
    apply ChainL.of (some 54) rfl rfl
    case h => exact step_move rfl
    apply ChainL.of (some 55) rfl rfl
    case h => (first | exact w_bin rfl rfl rfl (leq_t (by omega)) | exact w_bin rfl rfl rfl (leq_f (by omega)) | exact w_bin rfl rfl rfl rfl)
    exact .nil
  show Cwp _ _ _ _
  refine cond_t (by first | rfl | kernel_rfl) ?_
  refine cwp_skip ?_
  show Cwp _ _ _ _
  refine cwp_seq ?_
  refine cwp_block ?_
  apply one_region
  case hc =>
    apply ChainL.of (some 58) rfl rfl
    case h => exact step_move rfl
    apply ChainL.of (some 59) rfl rfl
    case h => (first | exact w_call c8 [] [0, 1, 2, 3, 4] [5] Try.func8 rfl (by decide +kernel) rfl rfl .nil (by decide) (map5 rfl (strs_ren _ _) (bools_ren _ _) rfl (ints_ren _ _)) rfl rfl (all5 rfl (strs_lt _ _) (bools_lt _ _) rfl (ints_lt _ _)) rfl (all6 rfl (strs_lt _ _) (bools_lt _ _) rfl (ints_lt _ _) rfl) rfl rfl rfl rfl (zip6 rfl (os_strs _ _) (os_bools _ _) rfl (os_ints _ _) rfl) | exact w_call w0 [] [0, 1, 2, 3, 4] [6] Try.func8 rfl (by decide +kernel) rfl rfl .nil (by decide) (map5 rfl (strs_ren _ _) (bools_ren _ _) rfl (ints_ren _ _)) rfl rfl (all5 rfl (strs_lt _ _) (bools_lt _ _) rfl (ints_lt _ _)) rfl (all6 rfl (strs_lt _ _) (bools_lt _ _) rfl (ints_lt _ _) rfl) rfl rfl rfl rfl (zip6 rfl (os_strs _ _) (os_bools _ _) rfl (os_ints _ _) rfl) | exact w_call w1 [] [0, 1, 2, 6, 3, 4] [7] Try.func8 rfl (by decide +kernel) rfl rfl .nil (by decide) (map6 rfl (strs_ren _ _) (bools_ren _ _) rfl rfl (ints_ren _ _)) rfl rfl (all6 rfl (strs_lt _ _) (bools_lt _ _) rfl rfl (ints_lt _ _)) rfl (all7 rfl (strs_lt _ _) (bools_lt _ _) rfl rfl (ints_lt _ _) rfl) rfl rfl rfl rfl (zip7 rfl (os_strs _ _) (os_bools _ _) rfl rfl (os_ints _ _) rfl) | exact w_call w2 [] [0, 1, 2, 7, 3, 4] [] Try.func8 rfl (by decide +kernel) rfl rfl .nil (by decide) (map6 rfl (strs_ren _ _) (bools_ren _ _) rfl rfl (ints_ren _ _)) rfl rfl (all6 rfl (strs_lt _ _) (bools_lt _ _) rfl rfl (ints_lt _ _)) rfl (all6 rfl (strs_lt _ _) (bools_lt _ _) rfl rfl (ints_lt _ _)) rfl rfl rfl rfl (zip6 rfl (os_strs _ _) (os_bools _ _) rfl rfl (os_ints _ _)))
    exact .nil
  show Cwp _ _ _ _
  apply one_region
  case hc =>
    apply ChainL.of (some 56) rfl rfl
    case h => exact step_move rfl
    apply ChainL.of (some 57) rfl rfl
    case h => (first | exact w_bin rfl rfl rfl (add_i64 rfl (by omega) (by omega)) | exact w_bin rfl rfl rfl rfl)
    apply ChainL.of (some 12) rfl rfl
    case h => exact step_assign rfl
    exact .nil
  show LoopN _ _ _ _ _
  refine loop_round ?_
  refine cwp_seq ?_
  refine cwp_seq ?_
  apply one_region
  case hc =>
    apply ChainL.of (some 53) rfl rfl
    case h => exact step_move rfl
    apply ChainL.of (some 54) rfl rfl
    case h => exact step_move rfl
    apply ChainL.of (some 55) rfl rfl
    case h => (first | exact w_bin rfl rfl rfl (leq_t (by omega)) | exact w_bin rfl rfl rfl (leq_f (by omega)) | exact w_bin rfl rfl rfl rfl)
    exact .nil
  show Cwp _ _ _ _
  refine cond_t (by first | rfl | kernel_rfl) ?_
  refine cwp_skip ?_
  show Cwp _ _ _ _
  refine cwp_seq ?_
  refine cwp_block ?_
  apply one_region
  case hc =>
    apply ChainL.of (some 58) rfl rfl
    case h => exact step_move rfl
    apply ChainL.of (some 59) rfl rfl
    case h => (first | exact w_call c8 [] [0, 1, 2, 3, 4] [5] Try.func8 rfl (by decide +kernel) rfl rfl .nil (by decide) (map5 rfl (strs_ren _ _) (bools_ren _ _) rfl (ints_ren _ _)) rfl rfl (all5 rfl (strs_lt _ _) (bools_lt _ _) rfl (ints_lt _ _)) rfl (all6 rfl (strs_lt _ _) (bools_lt _ _) rfl (ints_lt _ _) rfl) rfl rfl rfl rfl (zip6 rfl (os_strs _ _) (os_bools _ _) rfl (os_ints _ _) rfl) | exact w_call w0 [] [0, 1, 2, 3, 4] [6] Try.func8 rfl (by decide +kernel) rfl rfl .nil (by decide) (map5 rfl (strs_ren _ _) (bools_ren _ _) rfl (ints_ren _ _)) rfl rfl (all5 rfl (strs_lt _ _) (bools_lt _ _) rfl (ints_lt _ _)) rfl (all6 rfl (strs_lt _ _) (bools_lt _ _) rfl (ints_lt _ _) rfl) rfl rfl rfl rfl (zip6 rfl (os_strs _ _) (os_bools _ _) rfl (os_ints _ _) rfl) | exact w_call w1 [] [0, 1, 2, 6, 3, 4] [7] Try.func8 rfl (by decide +kernel) rfl rfl .nil (by decide) (map6 rfl (strs_ren _ _) (bools_ren _ _) rfl rfl (ints_ren _ _)) rfl rfl (all6 rfl (strs_lt _ _) (bools_lt _ _) rfl rfl (ints_lt _ _)) rfl (all7 rfl (strs_lt _ _) (bools_lt _ _) rfl rfl (ints_lt _ _) rfl) rfl rfl rfl rfl (zip7 rfl (os_strs _ _) (os_bools _ _) rfl rfl (os_ints _ _) rfl) | exact w_call w2 [] [0, 1, 2, 7, 3, 4] [] Try.func8 rfl (by decide +kernel) rfl rfl .nil (by decide) (map6 rfl (strs_ren _ _) (bools_ren _ _) rfl rfl (ints_ren _ _)) rfl rfl (all6 rfl (strs_lt _ _) (bools_lt _ _) rfl rfl (ints_lt _ _)) rfl (all6 rfl (strs_lt _ _) (bools_lt _ _) rfl rfl (ints_lt _ _)) rfl rfl rfl rfl (zip6 rfl (os_strs _ _) (os_bools _ _) rfl rfl (os_ints _ _)))
    exact .nil
  show Cwp _ _ _ _
  apply one_region
  case hc =>
    apply ChainL.of (some 56) rfl rfl
    case h => exact step_move rfl
    apply ChainL.of (some 57) rfl rfl
    case h => (first | exact w_bin rfl rfl rfl (add_i64 rfl (by omega) (by omega)) | exact w_bin rfl rfl rfl rfl)
    apply ChainL.of (some 12) rfl rfl
    case h => exact step_assign rfl
    exact .nil
  show LoopN _ _ _ _ _
  refine loop_round ?_
  refine cwp_seq ?_
  refine cwp_seq ?_
  apply one_region
  case hc =>
    apply ChainL.of (some 53) rfl rfl
    case h => exact step_move rfl
    apply ChainL.of (some 54) rfl rfl
    case h => exact step_move rfl
    apply ChainL.of (some 55) rfl rfl
    case h => (first | exact w_bin rfl rfl rfl (leq_t (by omega)) | exact w_bin rfl rfl rfl (leq_f (by omega)) | exact w_bin rfl rfl rfl rfl)
    exact .nil
  show Cwp _ _ _ _
  refine cond_f (by first | rfl | kernel_rfl) ?_
  refine cwp_exit ?_
  show Cwp _ _ _ _
  refine cwp_seq ?_
  refine cwp_seq ?_
  apply one_region
  case hc =>
    apply ChainL.of (some 60) rfl rfl
    case h => exact step_move rfl
    apply ChainL.of (some 61) rfl rfl
    case h => exact w_call d1 [] [0, 1, 2] [] Try.func10 rfl (by decide +kernel) rfl rfl .nil (by decide) (map3 rfl (strs_ren _ _) (bools_ren _ _)) rfl rfl (all3 rfl (strs_lt _ _) (bools_lt _ _)) rfl (all3 rfl (strs_lt _ _) (bools_lt _ _)) rfl rfl rfl rfl (zip3 rfl (os_strs _ _) (os_bools _ _))
    apply ChainL.of (some 62) rfl rfl
    case h => exact w_un rfl rfl rfl
    exact .nil
  show Cwp _ _ _ _
  refine cond_f (by first | rfl | kernel_rfl) ?_
  refine cwp_skip ?_
  show Cwp _ _ _ _
  refine cwp_seq ?_
  apply one_region
  case hc =>
    apply ChainL.of (some 63) rfl rfl
    case h => exact step_move rfl
    apply ChainL.of (some 64) rfl rfl
    case h => exact w_call d2 [] [0, 1, 2] [] Try.func11 rfl (by decide +kernel) rfl rfl .nil (by decide) (map3 rfl (strs_ren _ _) (bools_ren _ _)) rfl rfl (all3 rfl (strs_lt _ _) (bools_lt _ _)) rfl (all3 rfl (strs_lt _ _) (bools_lt _ _)) rfl rfl rfl rfl (zip3 rfl (os_strs _ _) (os_bools _ _))
    exact .nil
  show Cwp _ _ _ _
  refine cwp_seq ?_
  apply one_region
  case hc =>
    apply ChainL.of (some 66) rfl rfl
    case h => exact step_move rfl
    apply ChainL.of (some 67) rfl rfl
    case h => exact step_move rfl
    apply ChainL.of (some 68) rfl rfl
    case h => exact w_call d3 [] [0, 1, 2] [] Try.func12 rfl (by decide +kernel) rfl rfl .nil (by decide) (map3 rfl (strs_ren _ _) (bools_ren _ _)) rfl rfl (all3 rfl (strs_lt _ _) (bools_lt _ _)) rfl (all3 rfl (strs_lt _ _) (bools_lt _ _)) rfl rfl rfl rfl (zip3 rfl (os_strs _ _) (os_bools _ _))
    apply ChainL.of (some 65) rfl rfl
    case h => exact step_move rfl
    apply ChainL.of (some 69) rfl rfl
    case h => exact step_extract rfl rfl rfl
    apply ChainL.of (some 70) rfl rfl
    case h => exact step_extract rfl rfl rfl
    apply ChainL.of (some 13) rfl rfl
    case h => exact step_assign rfl
    apply ChainL.of (some 14) rfl rfl
    case h => exact step_assign rfl
    exact .nil
  show Cwp _ _ _ _
  refine cwp_seq ?_
  apply one_region
  case hc =>
    apply ChainL.of (some 71) rfl rfl
    case h => exact step_move rfl
    apply ChainL.of (some 72) rfl rfl
    case h => (first | exact w_bin rfl rfl rfl (eql_t (by omega)) | exact w_bin rfl rfl rfl (eql_f (by omega)) | exact w_bin rfl rfl rfl rfl)
    apply ChainL.of (some 73) rfl rfl
    case h => exact step_move rfl
    first
    | apply ChainL.off (some 74) 2 73 true rfl rfl rfl rfl
    | apply ChainL.on (some 74) 2 73 true rfl rfl rfl rfl
      case h => exact step_move rfl
    first
    | apply ChainL.off (some 75) 2 73 true rfl rfl rfl rfl
    | apply ChainL.on (some 75) 2 73 true rfl rfl rfl rfl
      case h => exact step_move rfl
    first
    | apply ChainL.off (some 76) 2 73 true rfl rfl rfl rfl
    | apply ChainL.on (some 76) 2 73 true rfl rfl rfl rfl
      case h => exact w_len_str (T := 9) (by kernel_rfl) rfl rfl rfl
    first
    | apply ChainL.off (some 77) 2 73 true rfl rfl rfl rfl
    | apply ChainL.on (some 77) 2 73 true rfl rfl rfl rfl
      case h => exact w_cut_str (lo := none) (hi := some (.tmp 76)) (T := 9) (by kernel_rfl) rfl rfl 0 t.size rfl ⟨.i64, rfl⟩ (Nat.zero_le _) (by rw [full_size t ht6]; exact ht6) (full_cut t)
    first
    | apply ChainL.off (some 78) 2 73 true rfl rfl rfl rfl
    | apply ChainL.on (some 78) 2 73 true rfl rfl rfl rfl
      case h => exact step_move rfl
    first
    | apply ChainL.off (some 79) 2 73 true rfl rfl rfl rfl
    | apply ChainL.on (some 79) 2 73 true rfl rfl rfl rfl
      case h => exact w_bin rfl rfl rfl (eq_self t)
    apply ChainL.of (some 80) rfl rfl
    case h => exact step_pick rfl rfl
    apply ChainL.of (some 81) rfl rfl
    case h => exact step_move rfl
    first
    | apply ChainL.off (some 82) 10 81 true rfl rfl rfl rfl
    | apply ChainL.on (some 82) 10 81 true rfl rfl rfl rfl
      case h => exact step_move rfl
    first
    | apply ChainL.off (some 83) 10 81 true rfl rfl rfl rfl
    | apply ChainL.on (some 83) 10 81 true rfl rfl rfl rfl
      case h => exact w_call d4 [] [0, 1, 2] [] Try.func13 rfl (by decide +kernel) rfl rfl .nil (by decide) (map3 rfl (strs_ren _ _) (bools_ren _ _)) rfl rfl (all3 rfl (strs_lt _ _) (bools_lt _ _)) rfl (all3 rfl (strs_lt _ _) (bools_lt _ _)) rfl rfl rfl rfl (zip3 rfl (os_strs _ _) (os_bools _ _))
    first
    | apply ChainL.off (some 84) 10 81 true rfl rfl rfl rfl
    | apply ChainL.on (some 84) 10 81 true rfl rfl rfl rfl
      case h => (first | exact w_bin rfl rfl rfl (eql_t (by omega)) | exact w_bin rfl rfl rfl (eql_f (by omega)) | exact w_bin rfl rfl rfl rfl)
    apply ChainL.of (some 85) rfl rfl
    case h => exact step_pick rfl rfl
    apply ChainL.of (some 6) rfl rfl
    case h => exact step_assign rfl
    exact .nil
  show Cwp _ _ _ _
  refine cwp_ret ?_
  exact ⟨.inl rfl, resH_one rfl rfl, fun i x h => by simp at h⟩
theorem keeps_6_3 (at_ c : Int) (s : ByteArray) (F : List Int) (hF : 0 < F.length) (hB : F.length * 8 ≤ 140737488355328) (q : Nat) (hq : q < 8) (h7 : abin .and (.int .i64 at_) (.int .i64 7) = some (.int .i64 (q : Int))) (h3 : abin .and (.int .i64 c) (.int .i64 3) = some (.int .i64 3)) (hs : s.size ≤ 140737488351232) :
    HCall Try.prog 3 [] [.v (.int .i64 at_), .v (.string s), .agg [.v (.int .i64 c), .lst 1 (F.map fun s => [.v (.int .i64 s)])]] [] (.v (.bool true)) := by
  obtain ⟨h, hh⟩ : ∃ h, min s.size 256 = h := ⟨_, rfl⟩
  obtain ⟨t, ht⟩ : ∃ t, s.extract 0 h = t := ⟨_, rfl⟩
  have hle : h ≤ s.size := by omega
  have hts : t.size = h := by rw [← ht, ByteArray.size_extract]; omega
  have ht6 : t.size ≤ 256 := by omega
  have hmin : (if (256 : Int) < (s.size : Int) then (256 : Int) else (s.size : Int)) = ((h : Nat) : Int) := by split <;> omega
  have zl : zD.length = 9 := rfl
  have tl : zT.length = 9 := rfl
  have zq : zD[q]? = some ⟨#[]⟩ := by simp only [zD, List.getElem?_replicate]; rw [if_pos (by omega)]
  have tq : zT[q]? = some false := by simp only [zT, List.getElem?_replicate]; rw [if_pos (by omega)]
  have c6 := new9_6 (2 + 3) F hF hB
  have c8 := write0_5 0 (2 + 3) 0 (by decide) (by decide) (by decide) zD zT F q (by omega) (by omega) t ht6 zl
  have c9 := flush_6 (0 + 1) (2 + 3) 0 (by decide) (by decide) (by decide) zD zT F q (by omega) t _ _ zq tq
  obtain ⟨D, hD⟩ : ∃ D, zD.set q (full t) = D := ⟨_, rfl⟩
  obtain ⟨T, hT⟩ : ∃ T, zT.set q false = T := ⟨_, rfl⟩
  rw [hD, hT] at c9
  have Dl : D.length = 9 := by rw [← hD, List.length_set]; rfl
  have Tl : T.length = 9 := by rw [← hT, List.length_set]; rfl
  have Dq : D[q]? = some (full t) := by rw [← hD, List.getElem?_set_self (by rw [zl]; omega)]
  have Tq : T[q]? = some false := by rw [← hT, List.getElem?_set_self (by rw [tl]; omega)]
  have w0 := write0_5 (0 + 1 + 1) (2 + 3) 0 (by decide) (by decide) (by decide) D T F 8 (by decide) (by decide) oth (by decide +kernel) Dl
  have w1 := wok_6_1 (0 + 1 + 1 + 1) (2 + 3) 0 (by decide) (by decide) (by decide) D T F Dl
  have w2 := wok_6_2 (0 + 1 + 1 + 1 + 1) (2 + 3) 0 (by decide) (by decide) (by decide) D T F Dl
  have w3 := wfail_6_3 (0 + 1 + 1 + 1 + 1 + 1) (2 + 3) 0 (by decide) (by decide) (by decide) (by decide) (by decide) (by decide) D T F Dl Tl
  have d1 := dead_is (.v (.slice none 0 0)) (.lst 2 []) (0 + 1 + 1 + 1 + 1 + 1 + 1) (0 + 1 + 1 + 1 + 1 + 1 + 1) (0 + 1) (strs (itD F D 4)) (bools (itT F T 4))
  have d2 := up_is (.v (.slice none 0 0)) (.lst 2 []) (0 + 1 + 1 + 1 + 1 + 1 + 1) (0 + 1 + 1 + 1 + 1 + 1 + 1) (0 + 1) (strs (itD F D 4)) (bools (itT F T 4))
  have d3 := read_end 0 (0 + 1 + 1 + 1 + 1 + 1 + 1) (0 + 1) (by decide) (by decide) (by decide) (by decide) (itD F D 4) (itT F T 4) (by rw [itD_len, Dl]) q (by omega) (full t) (by rw [full_size t ht6]; decide) (by rw [itD_at _ _ _ (by omega), Dq]) (by rw [itT_at _ _ _ (by omega), Tq])
  have d4 := fails_is (.v (.slice none 0 0)) (.lst 2 []) (0 + 1) (0 + 1 + 1 + 1 + 1 + 1 + 1 + 1) (0 + 1) false (strs (itD F D 4)) (bools (itT F T 4))
  refine HCall.of Try.func3 rfl (by decide +kernel) (Nat.le_of_ble_eq_true rfl) ?_
  refine cwp_seq ?_
  apply one_region
  case hc =>
    apply ChainL.of (some 5) rfl rfl
    case h => exact w_box rfl 107 rfl rfl rfl
    apply ChainL.of (some 6) rfl rfl
    case h => exact step_assign rfl
    exact .nil
  show Cwp _ _ _ _
  refine cwp_seq ?_
  apply one_region
  case hc =>
    apply ChainL.of (some 15) rfl rfl
    case h => exact step_move rfl
    apply ChainL.of (some 16) rfl rfl
    case h => exact w_bin rfl rfl rfl h7
    apply ChainL.of (some 7) rfl rfl
    case h => exact step_assign rfl
    exact .nil
  show Cwp _ _ _ _
  refine cwp_seq ?_
  apply one_region
  case hc =>
    apply ChainL.of (some 17) rfl rfl
    case h => exact step_move rfl
    apply ChainL.of (some 18) rfl rfl
    case h => exact step_move rfl
    apply ChainL.of (some 19) rfl rfl
    case h => exact w_len_str (T := 9) (by kernel_rfl) rfl rfl rfl
    apply ChainL.of (some 20) rfl rfl
    case h => exact w_min rfl rfl rfl hmin
    apply ChainL.of (some 21) rfl rfl
    case h => exact w_cut_str (lo := none) (hi := some (.tmp 20)) (T := 9) (by kernel_rfl) rfl rfl 0 h rfl ⟨.i64, rfl⟩ (Nat.zero_le _) hle ht
    apply ChainL.of (some 8) rfl rfl
    case h => exact step_assign rfl
    exact .nil
  show Cwp _ _ _ _
  refine cwp_seq ?_
  apply one_region
  case hc =>
    apply ChainL.of (some 22) rfl rfl
    case h => (first | exact w_fieldAddr tab rfl rfl rfl rfl (by decide) rfl rfl | exact w_fieldAddr_elt tab rfl rfl rfl rfl (by decide) rfl rfl)
    apply ChainL.of (some 23) rfl rfl
    case h => (first | exact w_load tab rfl rfl rfl rfl rfl rfl rfl | exact w_load tab rfl rfl rfl rfl rfl (by assumption) rfl | exact w_load_elt tab rfl rfl rfl rfl rfl | exact w_loads tab rfl rfl rfl rfl rfl rfl rfl rfl | exact w_load_tab tab rfl rfl rfl rfl (.head _) (by kernel_rfl) | exact w_loads_elt tab rfl rfl rfl rfl rfl rfl)
    apply ChainL.of (some 24) rfl rfl
    case h => exact w_bin rfl rfl rfl h3
    apply ChainL.of (some 9) rfl rfl
    case h => exact step_assign rfl
    exact .nil
  show Cwp _ _ _ _
  refine cwp_seq ?_
  apply one_region
  case hc =>
    apply ChainL.of (some 26) rfl rfl
    case h => exact step_move rfl
    apply ChainL.of (some 27) rfl rfl
    case h => (first | exact w_bin rfl rfl rfl (add_i64 rfl (by omega) (by omega)) | exact w_bin rfl rfl rfl rfl)
    apply ChainL.of (some 28) rfl rfl
    case h => (first | exact w_fieldAddr tab rfl rfl rfl rfl (by decide) rfl rfl | exact w_fieldAddr_elt tab rfl rfl rfl rfl (by decide) rfl rfl)
    apply ChainL.of (some 29) rfl rfl
    case h => (first | exact w_load tab rfl rfl rfl rfl rfl rfl rfl | exact w_load tab rfl rfl rfl rfl rfl (by assumption) rfl | exact w_load_elt tab rfl rfl rfl rfl rfl | exact w_loads tab rfl rfl rfl rfl rfl rfl rfl rfl | exact w_load_tab tab rfl rfl rfl rfl (.head _) (by kernel_rfl) | exact w_loads_elt tab rfl rfl rfl rfl rfl rfl)
    apply ChainL.of (some 30) rfl rfl
    case h => exact w_build tab rfl rfl (by decide) rfl rfl
    apply ChainL.of (some 31) rfl rfl
    case h => exact w_slice1 tab rfl rfl rfl rfl 50 (by decide) (by decide) rfl rfl rfl
    apply ChainL.of (some 32) rfl rfl
    case h => exact w_call c6 [] [50] [1, 2, 0, 3, 4] Try.func6 rfl (by decide +kernel) rfl rfl .nil (by decide) (map1 (cutl_ren _ _ _)) rfl rfl (all1 (cutl_lt _ _ _)) rfl (all6 (cutl_lt _ _ _) (strs_lt _ _) (bools_lt _ _) rfl rfl (ints_lt _ _)) rfl rfl rfl rfl (zip6 (os_cutl _ _ _) (os_strs _ _) (os_bools _ _) rfl rfl (os_ints _ _))
    apply ChainL.of (some 25) rfl rfl
    case h => exact step_move rfl
    apply ChainL.of (some 33) rfl rfl
    case h => exact step_extract rfl rfl rfl
    apply ChainL.of (some 34) rfl rfl
    case h => exact step_extract rfl rfl rfl
    apply ChainL.of (some 10) rfl rfl
    case h => exact step_assign rfl
    apply ChainL.of (some 11) rfl rfl
    case h => exact step_assign rfl
    exact .nil
  show Cwp _ _ _ _
  refine cwp_seq ?_
  refine cwp_seq ?_
  apply one_region
  case hc =>
    apply ChainL.of (some 35) rfl rfl
    case h => exact w_call awake_t [] [] [] Try.func7 rfl (by decide +kernel) rfl rfl .nil (by decide) rfl rfl rfl rfl rfl rfl rfl rfl rfl rfl rfl
    apply ChainL.of (some 36) rfl rfl
    case h => exact w_un rfl rfl rfl
    apply ChainL.of (some 37) rfl rfl
    case h => exact step_move rfl
    first
    | apply ChainL.off (some 38) 2 37 false rfl rfl rfl rfl
    | apply ChainL.on (some 38) 2 37 false rfl rfl rfl rfl
      case h => exact step_move rfl
    first
    | apply ChainL.off (some 39) 2 37 false rfl rfl rfl rfl
    | apply ChainL.on (some 39) 2 37 false rfl rfl rfl rfl
      case h => (first | exact w_bin rfl rfl rfl (neq_t (by omega)) | exact w_bin rfl rfl rfl (neq_f (by omega)) | exact w_bin rfl rfl rfl rfl)
    apply ChainL.of (some 40) rfl rfl
    case h => exact step_pick rfl rfl
    apply ChainL.of (some 41) rfl rfl
    case h => exact step_move rfl
    first
    | apply ChainL.off (some 42) 6 41 false rfl rfl rfl rfl
    | apply ChainL.on (some 42) 6 41 false rfl rfl rfl rfl
      case h => exact step_move rfl
    first
    | apply ChainL.off (some 43) 6 41 false rfl rfl rfl rfl
    | apply ChainL.on (some 43) 6 41 false rfl rfl rfl rfl
      case h => exact step_move rfl
    first
    | apply ChainL.off (some 44) 6 41 false rfl rfl rfl rfl
    | apply ChainL.on (some 44) 6 41 false rfl rfl rfl rfl
      case h => exact step_move rfl
    first
    | apply ChainL.off (some 45) 6 41 false rfl rfl rfl rfl
    | apply ChainL.on (some 45) 6 41 false rfl rfl rfl rfl
      case h => (first | exact w_call c8 [] [0, 1, 2, 3, 4] [5] Try.func8 rfl (by decide +kernel) rfl rfl .nil (by decide) (map5 rfl (strs_ren _ _) (bools_ren _ _) rfl (ints_ren _ _)) rfl rfl (all5 rfl (strs_lt _ _) (bools_lt _ _) rfl (ints_lt _ _)) rfl (all6 rfl (strs_lt _ _) (bools_lt _ _) rfl (ints_lt _ _) rfl) rfl rfl rfl rfl (zip6 rfl (os_strs _ _) (os_bools _ _) rfl (os_ints _ _) rfl) | exact w_call w0 [] [0, 1, 2, 3, 4] [6] Try.func8 rfl (by decide +kernel) rfl rfl .nil (by decide) (map5 rfl (strs_ren _ _) (bools_ren _ _) rfl (ints_ren _ _)) rfl rfl (all5 rfl (strs_lt _ _) (bools_lt _ _) rfl (ints_lt _ _)) rfl (all6 rfl (strs_lt _ _) (bools_lt _ _) rfl (ints_lt _ _) rfl) rfl rfl rfl rfl (zip6 rfl (os_strs _ _) (os_bools _ _) rfl (os_ints _ _) rfl) | exact w_call w1 [] [0, 1, 2, 6, 3, 4] [7] Try.func8 rfl (by decide +kernel) rfl rfl .nil (by decide) (map6 rfl (strs_ren _ _) (bools_ren _ _) rfl rfl (ints_ren _ _)) rfl rfl (all6 rfl (strs_lt _ _) (bools_lt _ _) rfl rfl (ints_lt _ _)) rfl (all7 rfl (strs_lt _ _) (bools_lt _ _) rfl rfl (ints_lt _ _) rfl) rfl rfl rfl rfl (zip7 rfl (os_strs _ _) (os_bools _ _) rfl rfl (os_ints _ _) rfl) | exact w_call w2 [] [0, 1, 2, 7, 3, 4] [8] Try.func8 rfl (by decide +kernel) rfl rfl .nil (by decide) (map6 rfl (strs_ren _ _) (bools_ren _ _) rfl rfl (ints_ren _ _)) rfl rfl (all6 rfl (strs_lt _ _) (bools_lt _ _) rfl rfl (ints_lt _ _)) rfl (all7 rfl (strs_lt _ _) (bools_lt _ _) rfl rfl (ints_lt _ _) rfl) rfl rfl rfl rfl (zip7 rfl (os_strs _ _) (os_bools _ _) rfl rfl (os_ints _ _) rfl) | exact w_call w3 [] [0, 1, 2, 8, 3, 4] [] Try.func8 rfl (by decide +kernel) rfl rfl .nil (by decide) (map6 rfl (strs_ren _ _) (bools_ren _ _) rfl rfl (ints_ren _ _)) rfl rfl (all6 rfl (strs_lt _ _) (bools_lt _ _) rfl rfl (ints_lt _ _)) rfl (all6 rfl (strs_lt _ _) (bools_lt _ _) rfl rfl (ints_lt _ _)) rfl rfl rfl rfl (zip6 rfl (os_strs _ _) (os_bools _ _) rfl rfl (os_ints _ _)))
    first
    | apply ChainL.off (some 46) 6 41 false rfl rfl rfl rfl
    | apply ChainL.on (some 46) 6 41 false rfl rfl rfl rfl
      case h => (first | exact w_bin rfl rfl rfl (neq_t (by omega)) | exact w_bin rfl rfl rfl (neq_f (by omega)) | exact w_bin rfl rfl rfl rfl)
    apply ChainL.of (some 47) rfl rfl
    case h => exact step_pick rfl rfl
    apply ChainL.of (some 48) rfl rfl
    case h => exact step_move rfl
    first
    | apply ChainL.off (some 49) 13 48 false rfl rfl rfl rfl
    | apply ChainL.on (some 49) 13 48 false rfl rfl rfl rfl
      case h => exact step_move rfl
    first
    | apply ChainL.off (some 50) 13 48 false rfl rfl rfl rfl
    | apply ChainL.on (some 50) 13 48 false rfl rfl rfl rfl
      case h => exact w_call c9 [] [0, 1, 2, 5, 3, 4] [] Try.func9 rfl (by decide +kernel) rfl rfl .nil (by decide) (map6 rfl (strs_ren _ _) (bools_ren _ _) rfl rfl (ints_ren _ _)) rfl rfl (all6 rfl (strs_lt _ _) (bools_lt _ _) rfl rfl (ints_lt _ _)) rfl (all6 rfl (strs_lt _ _) (bools_lt _ _) rfl rfl (ints_lt _ _)) rfl rfl rfl rfl (zip6 rfl (os_strs _ _) (os_bools _ _) rfl rfl (os_ints _ _))
    first
    | apply ChainL.off (some 51) 13 48 false rfl rfl rfl rfl
    | apply ChainL.on (some 51) 13 48 false rfl rfl rfl rfl
      case h => (first | exact w_bin rfl rfl rfl (neq_t (by omega)) | exact w_bin rfl rfl rfl (neq_f (by omega)) | exact w_bin rfl rfl rfl rfl)
    apply ChainL.of (some 52) rfl rfl
    case h => exact step_pick rfl rfl
    exact .nil
  show Cwp _ _ _ _
  refine cond_f (by first | rfl | kernel_rfl) ?_
  refine cwp_skip ?_
  show Cwp _ _ _ _
  refine cwp_seq ?_
  refine cwp_seq ?_
  apply one_region
  case hc =>
    apply ChainL.of (some 12) rfl rfl
    case h => exact step_assign rfl
    exact .nil
  show Cwp _ _ _ _
  refine cwp_block ?_
  refine cwp_loopN 5 ?_
  refine loop_round ?_
  refine cwp_seq ?_
  refine cwp_seq ?_
  apply one_region
  case hc =>
    apply ChainL.of (some 53) rfl rfl
    case h => exact step_move rfl
    apply ChainL.of (some 54) rfl rfl
    case h => exact step_move rfl
    apply ChainL.of (some 55) rfl rfl
    case h => (first | exact w_bin rfl rfl rfl (leq_t (by omega)) | exact w_bin rfl rfl rfl (leq_f (by omega)) | exact w_bin rfl rfl rfl rfl)
    exact .nil
  show Cwp _ _ _ _
  refine cond_t (by first | rfl | kernel_rfl) ?_
  refine cwp_skip ?_
  show Cwp _ _ _ _
  refine cwp_seq ?_
  refine cwp_block ?_
  apply one_region
  case hc =>
    apply ChainL.of (some 58) rfl rfl
    case h => exact step_move rfl
    apply ChainL.of (some 59) rfl rfl
    case h => (first | exact w_call c8 [] [0, 1, 2, 3, 4] [5] Try.func8 rfl (by decide +kernel) rfl rfl .nil (by decide) (map5 rfl (strs_ren _ _) (bools_ren _ _) rfl (ints_ren _ _)) rfl rfl (all5 rfl (strs_lt _ _) (bools_lt _ _) rfl (ints_lt _ _)) rfl (all6 rfl (strs_lt _ _) (bools_lt _ _) rfl (ints_lt _ _) rfl) rfl rfl rfl rfl (zip6 rfl (os_strs _ _) (os_bools _ _) rfl (os_ints _ _) rfl) | exact w_call w0 [] [0, 1, 2, 3, 4] [6] Try.func8 rfl (by decide +kernel) rfl rfl .nil (by decide) (map5 rfl (strs_ren _ _) (bools_ren _ _) rfl (ints_ren _ _)) rfl rfl (all5 rfl (strs_lt _ _) (bools_lt _ _) rfl (ints_lt _ _)) rfl (all6 rfl (strs_lt _ _) (bools_lt _ _) rfl (ints_lt _ _) rfl) rfl rfl rfl rfl (zip6 rfl (os_strs _ _) (os_bools _ _) rfl (os_ints _ _) rfl) | exact w_call w1 [] [0, 1, 2, 6, 3, 4] [7] Try.func8 rfl (by decide +kernel) rfl rfl .nil (by decide) (map6 rfl (strs_ren _ _) (bools_ren _ _) rfl rfl (ints_ren _ _)) rfl rfl (all6 rfl (strs_lt _ _) (bools_lt _ _) rfl rfl (ints_lt _ _)) rfl (all7 rfl (strs_lt _ _) (bools_lt _ _) rfl rfl (ints_lt _ _) rfl) rfl rfl rfl rfl (zip7 rfl (os_strs _ _) (os_bools _ _) rfl rfl (os_ints _ _) rfl) | exact w_call w2 [] [0, 1, 2, 7, 3, 4] [8] Try.func8 rfl (by decide +kernel) rfl rfl .nil (by decide) (map6 rfl (strs_ren _ _) (bools_ren _ _) rfl rfl (ints_ren _ _)) rfl rfl (all6 rfl (strs_lt _ _) (bools_lt _ _) rfl rfl (ints_lt _ _)) rfl (all7 rfl (strs_lt _ _) (bools_lt _ _) rfl rfl (ints_lt _ _) rfl) rfl rfl rfl rfl (zip7 rfl (os_strs _ _) (os_bools _ _) rfl rfl (os_ints _ _) rfl) | exact w_call w3 [] [0, 1, 2, 8, 3, 4] [] Try.func8 rfl (by decide +kernel) rfl rfl .nil (by decide) (map6 rfl (strs_ren _ _) (bools_ren _ _) rfl rfl (ints_ren _ _)) rfl rfl (all6 rfl (strs_lt _ _) (bools_lt _ _) rfl rfl (ints_lt _ _)) rfl (all6 rfl (strs_lt _ _) (bools_lt _ _) rfl rfl (ints_lt _ _)) rfl rfl rfl rfl (zip6 rfl (os_strs _ _) (os_bools _ _) rfl rfl (os_ints _ _)))
    exact .nil
  show Cwp _ _ _ _
  apply one_region
  case hc =>
    apply ChainL.of (some 56) rfl rfl
    case h => exact step_move rfl
    apply ChainL.of (some 57) rfl rfl
    case h => (first | exact w_bin rfl rfl rfl (add_i64 rfl (by omega) (by omega)) | exact w_bin rfl rfl rfl rfl)
    apply ChainL.of (some 12) rfl rfl
    case h => exact step_assign rfl
    exact .nil
  show LoopN _ _ _ _ _
  refine loop_round ?_
  refine cwp_seq ?_
  refine cwp_seq ?_
  apply one_region
  case hc =>
    apply ChainL.of (some 53) rfl rfl
    case h => exact step_move rfl
    apply ChainL.of (some 54) rfl rfl
    case h => exact step_move rfl
    apply ChainL.of (some 55) rfl rfl
    case h => (first | exact w_bin rfl rfl rfl (leq_t (by omega)) | exact w_bin rfl rfl rfl (leq_f (by omega)) | exact w_bin rfl rfl rfl rfl)
    exact .nil
  show Cwp _ _ _ _
  refine cond_t (by first | rfl | kernel_rfl) ?_
  refine cwp_skip ?_
  show Cwp _ _ _ _
  refine cwp_seq ?_
  refine cwp_block ?_
  apply one_region
  case hc =>
    apply ChainL.of (some 58) rfl rfl
    case h => exact step_move rfl
    apply ChainL.of (some 59) rfl rfl
    case h => (first | exact w_call c8 [] [0, 1, 2, 3, 4] [5] Try.func8 rfl (by decide +kernel) rfl rfl .nil (by decide) (map5 rfl (strs_ren _ _) (bools_ren _ _) rfl (ints_ren _ _)) rfl rfl (all5 rfl (strs_lt _ _) (bools_lt _ _) rfl (ints_lt _ _)) rfl (all6 rfl (strs_lt _ _) (bools_lt _ _) rfl (ints_lt _ _) rfl) rfl rfl rfl rfl (zip6 rfl (os_strs _ _) (os_bools _ _) rfl (os_ints _ _) rfl) | exact w_call w0 [] [0, 1, 2, 3, 4] [6] Try.func8 rfl (by decide +kernel) rfl rfl .nil (by decide) (map5 rfl (strs_ren _ _) (bools_ren _ _) rfl (ints_ren _ _)) rfl rfl (all5 rfl (strs_lt _ _) (bools_lt _ _) rfl (ints_lt _ _)) rfl (all6 rfl (strs_lt _ _) (bools_lt _ _) rfl (ints_lt _ _) rfl) rfl rfl rfl rfl (zip6 rfl (os_strs _ _) (os_bools _ _) rfl (os_ints _ _) rfl) | exact w_call w1 [] [0, 1, 2, 6, 3, 4] [7] Try.func8 rfl (by decide +kernel) rfl rfl .nil (by decide) (map6 rfl (strs_ren _ _) (bools_ren _ _) rfl rfl (ints_ren _ _)) rfl rfl (all6 rfl (strs_lt _ _) (bools_lt _ _) rfl rfl (ints_lt _ _)) rfl (all7 rfl (strs_lt _ _) (bools_lt _ _) rfl rfl (ints_lt _ _) rfl) rfl rfl rfl rfl (zip7 rfl (os_strs _ _) (os_bools _ _) rfl rfl (os_ints _ _) rfl) | exact w_call w2 [] [0, 1, 2, 7, 3, 4] [8] Try.func8 rfl (by decide +kernel) rfl rfl .nil (by decide) (map6 rfl (strs_ren _ _) (bools_ren _ _) rfl rfl (ints_ren _ _)) rfl rfl (all6 rfl (strs_lt _ _) (bools_lt _ _) rfl rfl (ints_lt _ _)) rfl (all7 rfl (strs_lt _ _) (bools_lt _ _) rfl rfl (ints_lt _ _) rfl) rfl rfl rfl rfl (zip7 rfl (os_strs _ _) (os_bools _ _) rfl rfl (os_ints _ _) rfl) | exact w_call w3 [] [0, 1, 2, 8, 3, 4] [] Try.func8 rfl (by decide +kernel) rfl rfl .nil (by decide) (map6 rfl (strs_ren _ _) (bools_ren _ _) rfl rfl (ints_ren _ _)) rfl rfl (all6 rfl (strs_lt _ _) (bools_lt _ _) rfl rfl (ints_lt _ _)) rfl (all6 rfl (strs_lt _ _) (bools_lt _ _) rfl rfl (ints_lt _ _)) rfl rfl rfl rfl (zip6 rfl (os_strs _ _) (os_bools _ _) rfl rfl (os_ints _ _)))
    exact .nil
  show Cwp _ _ _ _
  apply one_region
  case hc =>
    apply ChainL.of (some 56) rfl rfl
    case h => exact step_move rfl
    apply ChainL.of (some 57) rfl rfl
    case h => (first | exact w_bin rfl rfl rfl (add_i64 rfl (by omega) (by omega)) | exact w_bin rfl rfl rfl rfl)
    apply ChainL.of (some 12) rfl rfl
    case h => exact step_assign rfl
    exact .nil
  show LoopN _ _ _ _ _
  refine loop_round ?_
  refine cwp_seq ?_
  refine cwp_seq ?_
  apply one_region
  case hc =>
    apply ChainL.of (some 53) rfl rfl
    case h => exact step_move rfl
    apply ChainL.of (some 54) rfl rfl
    case h => exact step_move rfl
    apply ChainL.of (some 55) rfl rfl
    case h => (first | exact w_bin rfl rfl rfl (leq_t (by omega)) | exact w_bin rfl rfl rfl (leq_f (by omega)) | exact w_bin rfl rfl rfl rfl)
    exact .nil
  show Cwp _ _ _ _
  refine cond_t (by first | rfl | kernel_rfl) ?_
  refine cwp_skip ?_
  show Cwp _ _ _ _
  refine cwp_seq ?_
  refine cwp_block ?_
  apply one_region
  case hc =>
    apply ChainL.of (some 58) rfl rfl
    case h => exact step_move rfl
    apply ChainL.of (some 59) rfl rfl
    case h => (first | exact w_call c8 [] [0, 1, 2, 3, 4] [5] Try.func8 rfl (by decide +kernel) rfl rfl .nil (by decide) (map5 rfl (strs_ren _ _) (bools_ren _ _) rfl (ints_ren _ _)) rfl rfl (all5 rfl (strs_lt _ _) (bools_lt _ _) rfl (ints_lt _ _)) rfl (all6 rfl (strs_lt _ _) (bools_lt _ _) rfl (ints_lt _ _) rfl) rfl rfl rfl rfl (zip6 rfl (os_strs _ _) (os_bools _ _) rfl (os_ints _ _) rfl) | exact w_call w0 [] [0, 1, 2, 3, 4] [6] Try.func8 rfl (by decide +kernel) rfl rfl .nil (by decide) (map5 rfl (strs_ren _ _) (bools_ren _ _) rfl (ints_ren _ _)) rfl rfl (all5 rfl (strs_lt _ _) (bools_lt _ _) rfl (ints_lt _ _)) rfl (all6 rfl (strs_lt _ _) (bools_lt _ _) rfl (ints_lt _ _) rfl) rfl rfl rfl rfl (zip6 rfl (os_strs _ _) (os_bools _ _) rfl (os_ints _ _) rfl) | exact w_call w1 [] [0, 1, 2, 6, 3, 4] [7] Try.func8 rfl (by decide +kernel) rfl rfl .nil (by decide) (map6 rfl (strs_ren _ _) (bools_ren _ _) rfl rfl (ints_ren _ _)) rfl rfl (all6 rfl (strs_lt _ _) (bools_lt _ _) rfl rfl (ints_lt _ _)) rfl (all7 rfl (strs_lt _ _) (bools_lt _ _) rfl rfl (ints_lt _ _) rfl) rfl rfl rfl rfl (zip7 rfl (os_strs _ _) (os_bools _ _) rfl rfl (os_ints _ _) rfl) | exact w_call w2 [] [0, 1, 2, 7, 3, 4] [8] Try.func8 rfl (by decide +kernel) rfl rfl .nil (by decide) (map6 rfl (strs_ren _ _) (bools_ren _ _) rfl rfl (ints_ren _ _)) rfl rfl (all6 rfl (strs_lt _ _) (bools_lt _ _) rfl rfl (ints_lt _ _)) rfl (all7 rfl (strs_lt _ _) (bools_lt _ _) rfl rfl (ints_lt _ _) rfl) rfl rfl rfl rfl (zip7 rfl (os_strs _ _) (os_bools _ _) rfl rfl (os_ints _ _) rfl) | exact w_call w3 [] [0, 1, 2, 8, 3, 4] [] Try.func8 rfl (by decide +kernel) rfl rfl .nil (by decide) (map6 rfl (strs_ren _ _) (bools_ren _ _) rfl rfl (ints_ren _ _)) rfl rfl (all6 rfl (strs_lt _ _) (bools_lt _ _) rfl rfl (ints_lt _ _)) rfl (all6 rfl (strs_lt _ _) (bools_lt _ _) rfl rfl (ints_lt _ _)) rfl rfl rfl rfl (zip6 rfl (os_strs _ _) (os_bools _ _) rfl rfl (os_ints _ _)))
    exact .nil
  show Cwp _ _ _ _
  apply one_region
  case hc =>
    apply ChainL.of (some 56) rfl rfl
    case h => exact step_move rfl
    apply ChainL.of (some 57) rfl rfl
    case h => (first | exact w_bin rfl rfl rfl (add_i64 rfl (by omega) (by omega)) | exact w_bin rfl rfl rfl rfl)
    apply ChainL.of (some 12) rfl rfl
    case h => exact step_assign rfl
    exact .nil
  show LoopN _ _ _ _ _
  refine loop_round ?_
  refine cwp_seq ?_
  refine cwp_seq ?_
  apply one_region
  case hc =>
    apply ChainL.of (some 53) rfl rfl
    case h => exact step_move rfl
    apply ChainL.of (some 54) rfl rfl
    case h => exact step_move rfl
    apply ChainL.of (some 55) rfl rfl
    case h => (first | exact w_bin rfl rfl rfl (leq_t (by omega)) | exact w_bin rfl rfl rfl (leq_f (by omega)) | exact w_bin rfl rfl rfl rfl)
    exact .nil
  show Cwp _ _ _ _
  refine cond_t (by first | rfl | kernel_rfl) ?_
  refine cwp_skip ?_
  show Cwp _ _ _ _
  refine cwp_seq ?_
  refine cwp_block ?_
  apply one_region
  case hc =>
    apply ChainL.of (some 58) rfl rfl
    case h => exact step_move rfl
    apply ChainL.of (some 59) rfl rfl
    case h => (first | exact w_call c8 [] [0, 1, 2, 3, 4] [5] Try.func8 rfl (by decide +kernel) rfl rfl .nil (by decide) (map5 rfl (strs_ren _ _) (bools_ren _ _) rfl (ints_ren _ _)) rfl rfl (all5 rfl (strs_lt _ _) (bools_lt _ _) rfl (ints_lt _ _)) rfl (all6 rfl (strs_lt _ _) (bools_lt _ _) rfl (ints_lt _ _) rfl) rfl rfl rfl rfl (zip6 rfl (os_strs _ _) (os_bools _ _) rfl (os_ints _ _) rfl) | exact w_call w0 [] [0, 1, 2, 3, 4] [6] Try.func8 rfl (by decide +kernel) rfl rfl .nil (by decide) (map5 rfl (strs_ren _ _) (bools_ren _ _) rfl (ints_ren _ _)) rfl rfl (all5 rfl (strs_lt _ _) (bools_lt _ _) rfl (ints_lt _ _)) rfl (all6 rfl (strs_lt _ _) (bools_lt _ _) rfl (ints_lt _ _) rfl) rfl rfl rfl rfl (zip6 rfl (os_strs _ _) (os_bools _ _) rfl (os_ints _ _) rfl) | exact w_call w1 [] [0, 1, 2, 6, 3, 4] [7] Try.func8 rfl (by decide +kernel) rfl rfl .nil (by decide) (map6 rfl (strs_ren _ _) (bools_ren _ _) rfl rfl (ints_ren _ _)) rfl rfl (all6 rfl (strs_lt _ _) (bools_lt _ _) rfl rfl (ints_lt _ _)) rfl (all7 rfl (strs_lt _ _) (bools_lt _ _) rfl rfl (ints_lt _ _) rfl) rfl rfl rfl rfl (zip7 rfl (os_strs _ _) (os_bools _ _) rfl rfl (os_ints _ _) rfl) | exact w_call w2 [] [0, 1, 2, 7, 3, 4] [8] Try.func8 rfl (by decide +kernel) rfl rfl .nil (by decide) (map6 rfl (strs_ren _ _) (bools_ren _ _) rfl rfl (ints_ren _ _)) rfl rfl (all6 rfl (strs_lt _ _) (bools_lt _ _) rfl rfl (ints_lt _ _)) rfl (all7 rfl (strs_lt _ _) (bools_lt _ _) rfl rfl (ints_lt _ _) rfl) rfl rfl rfl rfl (zip7 rfl (os_strs _ _) (os_bools _ _) rfl rfl (os_ints _ _) rfl) | exact w_call w3 [] [0, 1, 2, 8, 3, 4] [] Try.func8 rfl (by decide +kernel) rfl rfl .nil (by decide) (map6 rfl (strs_ren _ _) (bools_ren _ _) rfl rfl (ints_ren _ _)) rfl rfl (all6 rfl (strs_lt _ _) (bools_lt _ _) rfl rfl (ints_lt _ _)) rfl (all6 rfl (strs_lt _ _) (bools_lt _ _) rfl rfl (ints_lt _ _)) rfl rfl rfl rfl (zip6 rfl (os_strs _ _) (os_bools _ _) rfl rfl (os_ints _ _)))
    exact .nil
  show Cwp _ _ _ _
  apply one_region
  case hc =>
    apply ChainL.of (some 56) rfl rfl
    case h => exact step_move rfl
    apply ChainL.of (some 57) rfl rfl
    case h => (first | exact w_bin rfl rfl rfl (add_i64 rfl (by omega) (by omega)) | exact w_bin rfl rfl rfl rfl)
    apply ChainL.of (some 12) rfl rfl
    case h => exact step_assign rfl
    exact .nil
  show LoopN _ _ _ _ _
  refine loop_round ?_
  refine cwp_seq ?_
  refine cwp_seq ?_
  apply one_region
  case hc =>
    apply ChainL.of (some 53) rfl rfl
    case h => exact step_move rfl
    apply ChainL.of (some 54) rfl rfl
    case h => exact step_move rfl
    apply ChainL.of (some 55) rfl rfl
    case h => (first | exact w_bin rfl rfl rfl (leq_t (by omega)) | exact w_bin rfl rfl rfl (leq_f (by omega)) | exact w_bin rfl rfl rfl rfl)
    exact .nil
  show Cwp _ _ _ _
  refine cond_f (by first | rfl | kernel_rfl) ?_
  refine cwp_exit ?_
  show Cwp _ _ _ _
  refine cwp_seq ?_
  refine cwp_seq ?_
  apply one_region
  case hc =>
    apply ChainL.of (some 60) rfl rfl
    case h => exact step_move rfl
    apply ChainL.of (some 61) rfl rfl
    case h => exact w_call d1 [] [0, 1, 2] [] Try.func10 rfl (by decide +kernel) rfl rfl .nil (by decide) (map3 rfl (strs_ren _ _) (bools_ren _ _)) rfl rfl (all3 rfl (strs_lt _ _) (bools_lt _ _)) rfl (all3 rfl (strs_lt _ _) (bools_lt _ _)) rfl rfl rfl rfl (zip3 rfl (os_strs _ _) (os_bools _ _))
    apply ChainL.of (some 62) rfl rfl
    case h => exact w_un rfl rfl rfl
    exact .nil
  show Cwp _ _ _ _
  refine cond_f (by first | rfl | kernel_rfl) ?_
  refine cwp_skip ?_
  show Cwp _ _ _ _
  refine cwp_seq ?_
  apply one_region
  case hc =>
    apply ChainL.of (some 63) rfl rfl
    case h => exact step_move rfl
    apply ChainL.of (some 64) rfl rfl
    case h => exact w_call d2 [] [0, 1, 2] [] Try.func11 rfl (by decide +kernel) rfl rfl .nil (by decide) (map3 rfl (strs_ren _ _) (bools_ren _ _)) rfl rfl (all3 rfl (strs_lt _ _) (bools_lt _ _)) rfl (all3 rfl (strs_lt _ _) (bools_lt _ _)) rfl rfl rfl rfl (zip3 rfl (os_strs _ _) (os_bools _ _))
    exact .nil
  show Cwp _ _ _ _
  refine cwp_seq ?_
  apply one_region
  case hc =>
    apply ChainL.of (some 66) rfl rfl
    case h => exact step_move rfl
    apply ChainL.of (some 67) rfl rfl
    case h => exact step_move rfl
    apply ChainL.of (some 68) rfl rfl
    case h => exact w_call d3 [] [0, 1, 2] [] Try.func12 rfl (by decide +kernel) rfl rfl .nil (by decide) (map3 rfl (strs_ren _ _) (bools_ren _ _)) rfl rfl (all3 rfl (strs_lt _ _) (bools_lt _ _)) rfl (all3 rfl (strs_lt _ _) (bools_lt _ _)) rfl rfl rfl rfl (zip3 rfl (os_strs _ _) (os_bools _ _))
    apply ChainL.of (some 65) rfl rfl
    case h => exact step_move rfl
    apply ChainL.of (some 69) rfl rfl
    case h => exact step_extract rfl rfl rfl
    apply ChainL.of (some 70) rfl rfl
    case h => exact step_extract rfl rfl rfl
    apply ChainL.of (some 13) rfl rfl
    case h => exact step_assign rfl
    apply ChainL.of (some 14) rfl rfl
    case h => exact step_assign rfl
    exact .nil
  show Cwp _ _ _ _
  refine cwp_seq ?_
  apply one_region
  case hc =>
    apply ChainL.of (some 71) rfl rfl
    case h => exact step_move rfl
    apply ChainL.of (some 72) rfl rfl
    case h => (first | exact w_bin rfl rfl rfl (eql_t (by omega)) | exact w_bin rfl rfl rfl (eql_f (by omega)) | exact w_bin rfl rfl rfl rfl)
    apply ChainL.of (some 73) rfl rfl
    case h => exact step_move rfl
    first
    | apply ChainL.off (some 74) 2 73 true rfl rfl rfl rfl
    | apply ChainL.on (some 74) 2 73 true rfl rfl rfl rfl
      case h => exact step_move rfl
    first
    | apply ChainL.off (some 75) 2 73 true rfl rfl rfl rfl
    | apply ChainL.on (some 75) 2 73 true rfl rfl rfl rfl
      case h => exact step_move rfl
    first
    | apply ChainL.off (some 76) 2 73 true rfl rfl rfl rfl
    | apply ChainL.on (some 76) 2 73 true rfl rfl rfl rfl
      case h => exact w_len_str (T := 9) (by kernel_rfl) rfl rfl rfl
    first
    | apply ChainL.off (some 77) 2 73 true rfl rfl rfl rfl
    | apply ChainL.on (some 77) 2 73 true rfl rfl rfl rfl
      case h => exact w_cut_str (lo := none) (hi := some (.tmp 76)) (T := 9) (by kernel_rfl) rfl rfl 0 t.size rfl ⟨.i64, rfl⟩ (Nat.zero_le _) (by rw [full_size t ht6]; exact ht6) (full_cut t)
    first
    | apply ChainL.off (some 78) 2 73 true rfl rfl rfl rfl
    | apply ChainL.on (some 78) 2 73 true rfl rfl rfl rfl
      case h => exact step_move rfl
    first
    | apply ChainL.off (some 79) 2 73 true rfl rfl rfl rfl
    | apply ChainL.on (some 79) 2 73 true rfl rfl rfl rfl
      case h => exact w_bin rfl rfl rfl (eq_self t)
    apply ChainL.of (some 80) rfl rfl
    case h => exact step_pick rfl rfl
    apply ChainL.of (some 81) rfl rfl
    case h => exact step_move rfl
    first
    | apply ChainL.off (some 82) 10 81 true rfl rfl rfl rfl
    | apply ChainL.on (some 82) 10 81 true rfl rfl rfl rfl
      case h => exact step_move rfl
    first
    | apply ChainL.off (some 83) 10 81 true rfl rfl rfl rfl
    | apply ChainL.on (some 83) 10 81 true rfl rfl rfl rfl
      case h => exact w_call d4 [] [0, 1, 2] [] Try.func13 rfl (by decide +kernel) rfl rfl .nil (by decide) (map3 rfl (strs_ren _ _) (bools_ren _ _)) rfl rfl (all3 rfl (strs_lt _ _) (bools_lt _ _)) rfl (all3 rfl (strs_lt _ _) (bools_lt _ _)) rfl rfl rfl rfl (zip3 rfl (os_strs _ _) (os_bools _ _))
    first
    | apply ChainL.off (some 84) 10 81 true rfl rfl rfl rfl
    | apply ChainL.on (some 84) 10 81 true rfl rfl rfl rfl
      case h => (first | exact w_bin rfl rfl rfl (eql_t (by omega)) | exact w_bin rfl rfl rfl (eql_f (by omega)) | exact w_bin rfl rfl rfl rfl)
    apply ChainL.of (some 85) rfl rfl
    case h => exact step_pick rfl rfl
    apply ChainL.of (some 6) rfl rfl
    case h => exact step_assign rfl
    exact .nil
  show Cwp _ _ _ _
  refine cwp_ret ?_
  exact ⟨.inl rfl, resH_one rfl rfl, fun i x h => by simp at h⟩
end Go.Proofs.Ytcbbpidnocgoiaa.Dk


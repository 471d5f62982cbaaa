/- Places: a copy is its own. -/
import Derived.Test.YtcbbpidnocgoiaaDoorSpG
namespace Go.Proofs.YtcbbpidnocgoiaaDoor.Sp
open Go Go.RowKit Go.Proofs.YtcbbpidnocgoiaaDoor.Eng
set_option linter.unusedVariables false
set_option linter.unusedSimpArgs false
set_option maxRecDepth 20000
theorem bits_at : ∀ r : Fin 64, bit (orv 0 (r.val : Int)) (r.val : Int) = true ∧ anv (orv 0 (r.val : Int)) (r.val : Int) = 0 ∧ bit 0 (r.val : Int) = false := by decide +kernel
theorem bit_mod (x i : Int) : bit x i = bit x (i % 64) := by unfold bit; rw [Int.emod_emod_of_dvd i (Int.dvd_refl 64)]
theorem orv_mod (x i : Int) : orv x i = orv x (i % 64) := by unfold orv; rw [Int.emod_emod_of_dvd i (Int.dvd_refl 64)]
theorem anv_mod (x i : Int) : anv x i = anv x (i % 64) := by unfold anv; rw [Int.emod_emod_of_dvd i (Int.dvd_refl 64)]
theorem bits_all (i : Int) : bit (orv 0 i) i = true ∧ anv (orv 0 i) i = 0 ∧ bit 0 i = false := by
  have h := bits_at ⟨(i % 64).toNat, by omega⟩
  have e : (((i % 64).toNat : Nat) : Int) = i % 64 := by omega
  simp only [e] at h
  rw [orv_mod 0 i, bit_mod _ i, anv_mod _ i, bit_mod 0 i]
  exact h
def lw (m : Int) : Int := IntKind.wrap .i64 (((BitVec.ofInt 64 m &&& BitVec.ofInt 64 127)).toNat : Nat)
theorem lw_le (n : Int) : 0 ≤ lw n ∧ lw n ≤ 127 := by
  have h : ((BitVec.ofInt 64 n &&& BitVec.ofInt 64 127)).toNat ≤ 127 := by
    rw [BitVec.toNat_and]
    exact Nat.le_trans Nat.and_le_right (by decide)
  unfold lw
  rw [wrap_i64 (by omega) (by omega)]
  omega
theorem and_lw (n : Int) : abin .and (.int .i64 n) (.int .i64 127) = some (.int .i64 (lw n)) := rfl
theorem rem_any {a b c : Int} (hb : b ≠ 0) (hc : a.tmod b = c) : abin .rem (.int .i64 a) (.int .i64 b) = some (.int .i64 c) := by
  subst hc
  simp only [abin, if_true]
  rw [if_neg hb]
theorem tmod_lt (a n : Int) (h : 0 < n) : -n < a.tmod n ∧ a.tmod n < n := by
  have h1 := Int.tmod_lt_of_pos a h
  have h2 := Int.lt_tmod_of_pos a h
  exact ⟨h2, h1⟩
theorem row_at (ws : List Int) (q : Nat) (e : Int) (h : ws[q]? = some e) : (wd ws).rows[0 + q]? = some [.v (.int .u64 e)] := by
  simp [wd, h]
theorem zs_set (n : Int) (q : Nat) (v : Int) : ((zs n).set q v).set q 0 = zs n := by
  apply List.ext_getElem?
  intro k
  simp only [zs, List.set_set, List.getElem?_set, List.getElem?_replicate, List.length_replicate]
  by_cases e : q = k
  · subst e; simp
  · simp [e]
theorem sp_hco4 (n : Int) (k : Nat) (ws : List Int) : [sp n k, wd ws].map (Ob.ren (nameH [0, 1, 2, 3])) = [⟨2, [[.v (.int .i64 n), .own 1 0 k]], false⟩, wd ws] := by
  show [_, Ob.ren _ (wd ws)] = _
  rw [wd_ren]
  rfl
theorem copy_hok (n : Int) (k : Nat) (ws : List Int) : (([.ob (sp n k), .ob (wd ws), .ob (wd ws), .ob ⟨2, [[.v (.int .i64 n), .own 2 0 k]], false⟩] : List OS).all (OS.okH 4)) = true := by
  show (true && (ltR 4 (wd ws).rows && (ltR 4 (wd ws).rows && (true && true)))) = true
  rw [wd_lt]
  rfl
theorem copy_zip (n : Int) (k : Nat) (ws : List Int) : frz [] ++ zipH (nameH [0, 1, 2, 3]) [0, 1, 2, 3] [.ob (sp n k), .ob (wd ws), .ob (wd ws), .ob ⟨2, [[.v (.int .i64 n), .own 2 0 k]], false⟩] =
    [(0, .ob (sp n k)), (1, .ob (wd ws)), (2, .ob (wd ws)), (3, .ob ⟨2, [[.v (.int .i64 n), .own 2 0 k]], false⟩)] := by
  show [(0, OS.ob _), (1, OS.ob (Ob.ren _ (wd ws))), (2, OS.ob (Ob.ren _ (wd ws))), (3, OS.ob _)] = _
  rw [wd_ren]
  rfl
theorem copies_t (m a b : Int) : HCall Tryd.prog 4 [] [.v (.int .i64 m), .v (.int .i64 a), .v (.int .i64 b)] [] (.v (.bool true)) := by
  have hl := lw_le m
  obtain ⟨n, hn⟩ : ∃ n, lw m + 1 = n := ⟨_, rfl⟩
  obtain ⟨X0, hX0⟩ : ∃ X, a.tmod n = X := ⟨_, rfl⟩
  obtain ⟨Y0, hY0⟩ : ∃ X, b.tmod n = X := ⟨_, rfl⟩
  have bX0 := tmod_lt a n (by omega)
  have bY0 := tmod_lt b n (by omega)
  rw [hX0] at bX0
  rw [hY0] at bY0
  obtain ⟨X, hX⟩ : ∃ X, (X0 + n) % n = X := ⟨_, rfl⟩
  obtain ⟨Y, hY⟩ : ∃ X, (Y0 + n) % n = X := ⟨_, rfl⟩
  have x0 : 0 ≤ X := by rw [← hX]; exact Int.emod_nonneg _ (by omega)
  have x1 : X < n := by rw [← hX]; exact Int.emod_lt_of_pos _ (by omega)
  have y0 : 0 ≤ Y := by rw [← hY]; exact Int.emod_nonneg _ (by omega)
  have y1 : Y < n := by rw [← hY]; exact Int.emod_lt_of_pos _ (by omega)
  have h9 : n ≤ 100000000 := by omega
  have hqx : X / 64 < (kk n : Nat) := by show X / 64 < (((n + 64 - 1) / 64).toNat : Int); omega
  have hqy : Y / 64 < (kk n : Nat) := by show Y / 64 < (((n + 64 - 1) / 64).toNat : Int); omega
  have nqx : (X / 64).toNat < kk n := by omega
  have nqy : (Y / 64).toNat < kk n := by omega
  have zl : (zs n).length = kk n := List.length_replicate
  have z0 : ∀ q, q < kk n → (zs n)[q]? = some 0 := fun q hq => by simp [zs, hq]
  obtain ⟨b1, b2, b3⟩ := bits_all X
  obtain ⟨b4, b5, b6⟩ := bits_all Y
  have c1 := new_g n (by omega) h9
  have c2 := use_g n (kk n) (zs n) X 0 x0 x1 h9 hqx (row_at _ _ _ (z0 _ nqx)) b3
  generalize hv : orv 0 X = v at *
  generalize hw1 : (zs n).set (X / 64).toNat v = w1 at *
  have l1 : w1.length = kk n := by rw [← hw1, List.length_set, zl]
  have c3 := copy_g n w1 (by omega) h9 (by simp [wd, l1])
  have r1 : w1[(X / 64).toNat]? = some v := by rw [← hw1, List.getElem?_set_self (by omega)]
  have c4 := free_g n (kk n) w1 X v x0 x1 h9 hqx (row_at _ _ _ r1) b1
  have e2 : w1.set (X / 64).toNat (anv v X) = zs n := by rw [b2, ← hw1]; exact zs_set n _ v
  rw [e2] at c4
  obtain ⟨e, he⟩ : ∃ e, w1[(Y / 64).toNat]? = some e := ⟨w1[(Y / 64).toNat]'(by omega), List.getElem?_eq_getElem _⟩
  have c6 := use_g n (kk n) (zs n) Y 0 y0 y1 h9 hqy (row_at _ _ _ (z0 _ nqy)) b6
  generalize hu : orv 0 Y = u at *
  generalize hw2 : (zs n).set (Y / 64).toNat u = w2 at *
  have r2 : w2[(Y / 64).toNat]? = some u := by rw [← hw2, List.getElem?_set_self (by omega)]
  have c7 := used_b n (kk n) w1 X v true x0 x1 h9 hqx (row_at _ _ _ r1) b1
  have c8 := used_b n (kk n) w2 Y u true y0 y1 h9 hqy (row_at _ _ _ r2) b4
  have c9 := many_ob n (kk n) w2
  cases hB : bit e Y with
  | true =>
    have c5 := used_b n (kk n) w1 Y e true y0 y1 h9 hqy (row_at _ _ _ he) hB
    refine HCall.of Tryd.func4 rfl (by decide +kernel) (Nat.le_of_ble_eq_true rfl) ?_
    refine cwp_seq ?_
    apply one_region
    case hc =>
      apply ChainL.of (some 6) rfl rfl
      case h => exact step_assign rfl
      exact .nil
    show Cwp _ _ _ _
    refine cwp_seq ?_
    apply one_region
    case hc =>
      apply ChainL.of (some 13) rfl rfl
      case h => exact step_move rfl
      apply ChainL.of (some 14) rfl rfl
      case h => exact w_bin rfl rfl rfl (and_lw m)
      apply ChainL.of (some 15) rfl rfl
      case h => exact w_bin rfl rfl rfl (add_i64 hn (by omega) (by omega))
      apply ChainL.of (some 7) rfl rfl
      case h => exact step_assign rfl
      exact .nil
    show Cwp _ _ _ _
    refine cwp_seq ?_
    apply one_region
    case hc =>
      apply ChainL.of (some 16) rfl rfl
      case h => exact step_move rfl
      apply ChainL.of (some 17) rfl rfl
      case h => exact w_call c1 [] [] [1, 0] Tryd.func6 rfl (by decide +kernel) rfl rfl .nil (by decide) rfl rfl rfl rfl rfl (new_hok _ _ _) rfl rfl rfl rfl (new_zip _ _ 1 0 _)
      apply ChainL.of (some 8) rfl rfl
      case h => exact step_assign rfl
      exact .nil
    show Cwp _ _ _ _
    refine cwp_seq ?_
    apply one_region_draw [0, 0, 3, 0, 15, 0, 63, 0, 0, 384, 0, 1920, 0, 8064, 127, 32767] rfl
    case hc =>
      apply ChainL.of (some 18) rfl rfl
      case h => exact step_move rfl
      apply ChainL.of (some 19) rfl rfl
      case h => exact step_move rfl
      apply ChainL.of (some 20) rfl rfl
      case h => exact w_bin rfl rfl rfl (rem_any (by omega) hX0)
      apply ChainL.of (some 21) rfl rfl
      case h => exact step_move rfl
      apply ChainL.of (some 22) rfl rfl
      case h => (first | exact w_bin rfl rfl rfl (add_i64 rfl (by omega) (by omega)) | exact w_bin rfl rfl rfl rfl)
      apply ChainL.of (some 23) rfl rfl
      case h => exact step_move rfl
      apply ChainL.of (some 24) rfl rfl
      case h => exact w_bin rfl rfl rfl (rem_i64 (by omega) (by omega) hX)
      apply ChainL.of (some 25) rfl rfl
      case h => exact step_move rfl
      apply ChainL.of (some 26) rfl rfl
      case h => exact step_move rfl
      apply ChainL.of (some 27) rfl rfl
      case h => exact w_bin rfl rfl rfl (rem_any (by omega) hY0)
      apply ChainL.of (some 28) rfl rfl
      case h => exact step_move rfl
      apply ChainL.of (some 29) rfl rfl
      case h => (first | exact w_bin rfl rfl rfl (add_i64 rfl (by omega) (by omega)) | exact w_bin rfl rfl rfl rfl)
      apply ChainL.of (some 30) rfl rfl
      case h => exact step_move rfl
      apply ChainL.of (some 31) rfl rfl
      case h => exact w_bin rfl rfl rfl (rem_i64 (by omega) (by omega) hY)
      apply ChainL.of (some 9) rfl rfl
      case h => exact step_assign rfl
      apply ChainL.of (some 10) rfl rfl
      case h => exact step_assign rfl
      exact .nil
    case hB => decide +kernel
    case hI => kernel_rfl
    show Cwp _ _ _ _
    refine cwp_seq ?_
    apply one_region
    case hc =>
      apply ChainL.of (some 32) rfl rfl
      case h => exact step_move rfl
      apply ChainL.of (some 33) rfl rfl
      case h => exact step_move rfl
      apply ChainL.of (some 34) rfl rfl
      case h => (first | exact w_call c2 [] [0, 1] [] Tryd.func9 rfl (by decide +kernel) rfl rfl .nil (by decide) (sp_hco _ _ 0 1 _) rfl rfl (sp_hlt _ _ _) rfl (sp_hok _ _ _) rfl rfl rfl rfl (sp_zip _ _ 0 1 _) | exact w_call c6 [] [3, 2] [] Tryd.func9 rfl (by decide +kernel) rfl rfl .nil (by decide) (sp_hco _ _ 3 2 _) rfl rfl (sp_hlt _ _ _) rfl (sp_hok _ _ _) rfl rfl rfl rfl (sp_zip _ _ 3 2 _))
      exact .nil
    show Cwp _ _ _ _
    refine cwp_seq ?_
    apply one_region
    case hc =>
      apply ChainL.of (some 35) rfl rfl
      case h => exact step_move rfl
      apply ChainL.of (some 36) rfl rfl
      case h => exact w_call c3 [] [0, 1] [2, 3] Tryd.func15 rfl (by decide +kernel) rfl rfl .nil (by decide) (sp_hco4 _ _ _) rfl rfl (sp_hlt _ _ _) rfl (copy_hok _ _ _) rfl rfl rfl rfl (copy_zip _ _ _)
      apply ChainL.of (some 11) rfl rfl
      case h => exact step_assign rfl
      exact .nil
    show Cwp _ _ _ _
    refine cwp_seq ?_
    apply one_region
    case hc =>
      apply ChainL.of (some 37) rfl rfl
      case h => exact step_move rfl
      apply ChainL.of (some 38) rfl rfl
      case h => exact step_move rfl
      apply ChainL.of (some 39) rfl rfl
      case h => exact w_call c4 [] [3, 2] [] Tryd.func10 rfl (by decide +kernel) rfl rfl .nil (by decide) (sp_hco _ _ 3 2 _) rfl rfl (sp_hlt _ _ _) rfl (sp_hok _ _ _) rfl rfl rfl rfl (sp_zip _ _ 3 2 _)
      exact .nil
    show Cwp _ _ _ _
    refine cwp_seq ?_
    apply one_region
    case hc =>
      apply ChainL.of (some 40) rfl rfl
      case h => exact step_move rfl
      apply ChainL.of (some 41) rfl rfl
      case h => exact step_move rfl
      apply ChainL.of (some 42) rfl rfl
      case h => (first | exact w_call c7 [] [0, 1] [] Tryd.func11 rfl (by decide +kernel) rfl rfl .nil (by decide) (sp_hco _ _ 0 1 _) rfl rfl (sp_hlt _ _ _) rfl (sp_hok _ _ _) rfl rfl rfl rfl (sp_zip _ _ 0 1 _) | exact w_call c5 [] [0, 1] [] Tryd.func11 rfl (by decide +kernel) rfl rfl .nil (by decide) (sp_hco _ _ 0 1 _) rfl rfl (sp_hlt _ _ _) rfl (sp_hok _ _ _) rfl rfl rfl rfl (sp_zip _ _ 0 1 _) | exact w_call c8 [] [3, 2] [] Tryd.func11 rfl (by decide +kernel) rfl rfl .nil (by decide) (sp_hco _ _ 3 2 _) rfl rfl (sp_hlt _ _ _) rfl (sp_hok _ _ _) rfl rfl rfl rfl (sp_zip _ _ 3 2 _))
      apply ChainL.of (some 12) rfl rfl
      case h => exact step_assign rfl
      exact .nil
    show Cwp _ _ _ _
    refine cwp_seq ?_
    apply one_region
    case hc =>
      apply ChainL.of (some 43) rfl rfl
      case h => exact step_move rfl
      apply ChainL.of (some 44) rfl rfl
      case h => exact step_move rfl
      apply ChainL.of (some 45) rfl rfl
      case h => (first | exact w_call c2 [] [0, 1] [] Tryd.func9 rfl (by decide +kernel) rfl rfl .nil (by decide) (sp_hco _ _ 0 1 _) rfl rfl (sp_hlt _ _ _) rfl (sp_hok _ _ _) rfl rfl rfl rfl (sp_zip _ _ 0 1 _) | exact w_call c6 [] [3, 2] [] Tryd.func9 rfl (by decide +kernel) rfl rfl .nil (by decide) (sp_hco _ _ 3 2 _) rfl rfl (sp_hlt _ _ _) rfl (sp_hok _ _ _) rfl rfl rfl rfl (sp_zip _ _ 3 2 _))
      exact .nil
    show Cwp _ _ _ _
    refine cwp_seq ?_
    apply one_region
    case hc =>
      apply ChainL.of (some 46) rfl rfl
      case h => exact w_call awake_t [] [] [] Tryd.func7 rfl (by decide +kernel) rfl rfl .nil (by decide) rfl rfl rfl rfl rfl rfl rfl rfl rfl rfl rfl
      apply ChainL.of (some 47) rfl rfl
      case h => exact step_move rfl
      first
      | apply ChainL.off (some 48) 1 47 true rfl rfl rfl rfl
      | apply ChainL.on (some 48) 1 47 true rfl rfl rfl rfl
        case h => exact step_move rfl
      first
      | apply ChainL.off (some 49) 1 47 true rfl rfl rfl rfl
      | apply ChainL.on (some 49) 1 47 true rfl rfl rfl rfl
        case h => exact step_move rfl
      first
      | apply ChainL.off (some 50) 1 47 true rfl rfl rfl rfl
      | apply ChainL.on (some 50) 1 47 true rfl rfl rfl rfl
        case h => (first | exact w_call c7 [] [0, 1] [] Tryd.func11 rfl (by decide +kernel) rfl rfl .nil (by decide) (sp_hco _ _ 0 1 _) rfl rfl (sp_hlt _ _ _) rfl (sp_hok _ _ _) rfl rfl rfl rfl (sp_zip _ _ 0 1 _) | exact w_call c5 [] [0, 1] [] Tryd.func11 rfl (by decide +kernel) rfl rfl .nil (by decide) (sp_hco _ _ 0 1 _) rfl rfl (sp_hlt _ _ _) rfl (sp_hok _ _ _) rfl rfl rfl rfl (sp_zip _ _ 0 1 _) | exact w_call c8 [] [3, 2] [] Tryd.func11 rfl (by decide +kernel) rfl rfl .nil (by decide) (sp_hco _ _ 3 2 _) rfl rfl (sp_hlt _ _ _) rfl (sp_hok _ _ _) rfl rfl rfl rfl (sp_zip _ _ 3 2 _))
      apply ChainL.of (some 51) rfl rfl
      case h => exact step_pick rfl rfl
      apply ChainL.of (some 52) rfl rfl
      case h => exact step_move rfl
      first
      | apply ChainL.off (some 53) 6 52 true rfl rfl rfl rfl
      | apply ChainL.on (some 53) 6 52 true rfl rfl rfl rfl
        case h => exact step_move rfl
      first
      | apply ChainL.off (some 54) 6 52 true rfl rfl rfl rfl
      | apply ChainL.on (some 54) 6 52 true rfl rfl rfl rfl
        case h => exact step_move rfl
      first
      | apply ChainL.off (some 55) 6 52 true rfl rfl rfl rfl
      | apply ChainL.on (some 55) 6 52 true rfl rfl rfl rfl
        case h => (first | exact w_call c7 [] [0, 1] [] Tryd.func11 rfl (by decide +kernel) rfl rfl .nil (by decide) (sp_hco _ _ 0 1 _) rfl rfl (sp_hlt _ _ _) rfl (sp_hok _ _ _) rfl rfl rfl rfl (sp_zip _ _ 0 1 _) | exact w_call c5 [] [0, 1] [] Tryd.func11 rfl (by decide +kernel) rfl rfl .nil (by decide) (sp_hco _ _ 0 1 _) rfl rfl (sp_hlt _ _ _) rfl (sp_hok _ _ _) rfl rfl rfl rfl (sp_zip _ _ 0 1 _) | exact w_call c8 [] [3, 2] [] Tryd.func11 rfl (by decide +kernel) rfl rfl .nil (by decide) (sp_hco _ _ 3 2 _) rfl rfl (sp_hlt _ _ _) rfl (sp_hok _ _ _) rfl rfl rfl rfl (sp_zip _ _ 3 2 _))
      first
      | apply ChainL.off (some 56) 6 52 true rfl rfl rfl rfl
      | apply ChainL.on (some 56) 6 52 true rfl rfl rfl rfl
        case h => exact step_move rfl
      first
      | apply ChainL.off (some 57) 6 52 true rfl rfl rfl rfl
      | apply ChainL.on (some 57) 6 52 true rfl rfl rfl rfl
        case h => exact w_bool tab (b := true) rfl rfl rfl rfl rfl
      apply ChainL.of (some 58) rfl rfl
      case h => exact step_pick rfl rfl
      apply ChainL.of (some 59) rfl rfl
      case h => exact step_move rfl
      first
      | apply ChainL.off (some 60) 13 59 true rfl rfl rfl rfl
      | apply ChainL.on (some 60) 13 59 true rfl rfl rfl rfl
        case h => exact step_move rfl
      first
      | apply ChainL.off (some 61) 13 59 true rfl rfl rfl rfl
      | apply ChainL.on (some 61) 13 59 true rfl rfl rfl rfl
        case h => exact step_move rfl
      first
      | apply ChainL.off (some 62) 13 59 true rfl rfl rfl rfl
      | apply ChainL.on (some 62) 13 59 true rfl rfl rfl rfl
        case h => (first | exact w_call c7 [] [0, 1] [] Tryd.func11 rfl (by decide +kernel) rfl rfl .nil (by decide) (sp_hco _ _ 0 1 _) rfl rfl (sp_hlt _ _ _) rfl (sp_hok _ _ _) rfl rfl rfl rfl (sp_zip _ _ 0 1 _) | exact w_call c5 [] [0, 1] [] Tryd.func11 rfl (by decide +kernel) rfl rfl .nil (by decide) (sp_hco _ _ 0 1 _) rfl rfl (sp_hlt _ _ _) rfl (sp_hok _ _ _) rfl rfl rfl rfl (sp_zip _ _ 0 1 _) | exact w_call c8 [] [3, 2] [] Tryd.func11 rfl (by decide +kernel) rfl rfl .nil (by decide) (sp_hco _ _ 3 2 _) rfl rfl (sp_hlt _ _ _) rfl (sp_hok _ _ _) rfl rfl rfl rfl (sp_zip _ _ 3 2 _))
      apply ChainL.of (some 63) rfl rfl
      case h => exact step_pick rfl rfl
      apply ChainL.of (some 64) rfl rfl
      case h => exact step_move rfl
      first
      | apply ChainL.off (some 65) 18 64 true rfl rfl rfl rfl
      | apply ChainL.on (some 65) 18 64 true rfl rfl rfl rfl
        case h => exact step_move rfl
      first
      | apply ChainL.off (some 66) 18 64 true rfl rfl rfl rfl
      | apply ChainL.on (some 66) 18 64 true rfl rfl rfl rfl
        case h => exact w_call c9 [] [3, 2] [] Tryd.func8 rfl (by decide +kernel) rfl rfl .nil (by decide) (sp_hco _ _ 3 2 _) rfl rfl (sp_hlt _ _ _) rfl (sp_hok _ _ _) rfl rfl rfl rfl (sp_zip _ _ 3 2 _)
      first
      | apply ChainL.off (some 67) 18 64 true rfl rfl rfl rfl
      | apply ChainL.on (some 67) 18 64 true rfl rfl rfl rfl
        case h => exact step_move rfl
      first
      | apply ChainL.off (some 68) 18 64 true rfl rfl rfl rfl
      | apply ChainL.on (some 68) 18 64 true rfl rfl rfl rfl
        case h => (first | exact w_bin rfl rfl rfl (eql_t (by omega)) | exact w_bin rfl rfl rfl (eql_f (by omega)) | exact w_bin rfl rfl rfl rfl)
      apply ChainL.of (some 69) rfl rfl
      case h => exact step_pick rfl rfl
      apply ChainL.of (some 6) rfl rfl
      case h => exact step_assign rfl
      exact .nil
    show Cwp _ _ _ _
    refine cwp_ret ?_
    exact ⟨.inl rfl, resH_one rfl rfl, fun i x h => by simp at h⟩
  | false =>
    have c5 := used_b n (kk n) w1 Y e false y0 y1 h9 hqy (row_at _ _ _ he) hB
    refine HCall.of Tryd.func4 rfl (by decide +kernel) (Nat.le_of_ble_eq_true rfl) ?_
    refine cwp_seq ?_
    apply one_region
    case hc =>
      apply ChainL.of (some 6) rfl rfl
      case h => exact step_assign rfl
      exact .nil
    show Cwp _ _ _ _
    refine cwp_seq ?_
    apply one_region
    case hc =>
      apply ChainL.of (some 13) rfl rfl
      case h => exact step_move rfl
      apply ChainL.of (some 14) rfl rfl
      case h => exact w_bin rfl rfl rfl (and_lw m)
      apply ChainL.of (some 15) rfl rfl
      case h => exact w_bin rfl rfl rfl (add_i64 hn (by omega) (by omega))
      apply ChainL.of (some 7) rfl rfl
      case h => exact step_assign rfl
      exact .nil
    show Cwp _ _ _ _
    refine cwp_seq ?_
    apply one_region
    case hc =>
      apply ChainL.of (some 16) rfl rfl
      case h => exact step_move rfl
      apply ChainL.of (some 17) rfl rfl
      case h => exact w_call c1 [] [] [1, 0] Tryd.func6 rfl (by decide +kernel) rfl rfl .nil (by decide) rfl rfl rfl rfl rfl (new_hok _ _ _) rfl rfl rfl rfl (new_zip _ _ 1 0 _)
      apply ChainL.of (some 8) rfl rfl
      case h => exact step_assign rfl
      exact .nil
    show Cwp _ _ _ _
    refine cwp_seq ?_
    apply one_region_draw [0, 0, 3, 0, 15, 0, 63, 0, 0, 384, 0, 1920, 0, 8064, 127, 32767] rfl
    case hc =>
      apply ChainL.of (some 18) rfl rfl
      case h => exact step_move rfl
      apply ChainL.of (some 19) rfl rfl
      case h => exact step_move rfl
      apply ChainL.of (some 20) rfl rfl
      case h => exact w_bin rfl rfl rfl (rem_any (by omega) hX0)
      apply ChainL.of (some 21) rfl rfl
      case h => exact step_move rfl
      apply ChainL.of (some 22) rfl rfl
      case h => (first | exact w_bin rfl rfl rfl (add_i64 rfl (by omega) (by omega)) | exact w_bin rfl rfl rfl rfl)
      apply ChainL.of (some 23) rfl rfl
      case h => exact step_move rfl
      apply ChainL.of (some 24) rfl rfl
      case h => exact w_bin rfl rfl rfl (rem_i64 (by omega) (by omega) hX)
      apply ChainL.of (some 25) rfl rfl
      case h => exact step_move rfl
      apply ChainL.of (some 26) rfl rfl
      case h => exact step_move rfl
      apply ChainL.of (some 27) rfl rfl
      case h => exact w_bin rfl rfl rfl (rem_any (by omega) hY0)
      apply ChainL.of (some 28) rfl rfl
      case h => exact step_move rfl
      apply ChainL.of (some 29) rfl rfl
      case h => (first | exact w_bin rfl rfl rfl (add_i64 rfl (by omega) (by omega)) | exact w_bin rfl rfl rfl rfl)
      apply ChainL.of (some 30) rfl rfl
      case h => exact step_move rfl
      apply ChainL.of (some 31) rfl rfl
      case h => exact w_bin rfl rfl rfl (rem_i64 (by omega) (by omega) hY)
      apply ChainL.of (some 9) rfl rfl
      case h => exact step_assign rfl
      apply ChainL.of (some 10) rfl rfl
      case h => exact step_assign rfl
      exact .nil
    case hB => decide +kernel
    case hI => kernel_rfl
    show Cwp _ _ _ _
    refine cwp_seq ?_
    apply one_region
    case hc =>
      apply ChainL.of (some 32) rfl rfl
      case h => exact step_move rfl
      apply ChainL.of (some 33) rfl rfl
      case h => exact step_move rfl
      apply ChainL.of (some 34) rfl rfl
      case h => (first | exact w_call c2 [] [0, 1] [] Tryd.func9 rfl (by decide +kernel) rfl rfl .nil (by decide) (sp_hco _ _ 0 1 _) rfl rfl (sp_hlt _ _ _) rfl (sp_hok _ _ _) rfl rfl rfl rfl (sp_zip _ _ 0 1 _) | exact w_call c6 [] [3, 2] [] Tryd.func9 rfl (by decide +kernel) rfl rfl .nil (by decide) (sp_hco _ _ 3 2 _) rfl rfl (sp_hlt _ _ _) rfl (sp_hok _ _ _) rfl rfl rfl rfl (sp_zip _ _ 3 2 _))
      exact .nil
    show Cwp _ _ _ _
    refine cwp_seq ?_
    apply one_region
    case hc =>
      apply ChainL.of (some 35) rfl rfl
      case h => exact step_move rfl
      apply ChainL.of (some 36) rfl rfl
      case h => exact w_call c3 [] [0, 1] [2, 3] Tryd.func15 rfl (by decide +kernel) rfl rfl .nil (by decide) (sp_hco4 _ _ _) rfl rfl (sp_hlt _ _ _) rfl (copy_hok _ _ _) rfl rfl rfl rfl (copy_zip _ _ _)
      apply ChainL.of (some 11) rfl rfl
      case h => exact step_assign rfl
      exact .nil
    show Cwp _ _ _ _
    refine cwp_seq ?_
    apply one_region
    case hc =>
      apply ChainL.of (some 37) rfl rfl
      case h => exact step_move rfl
      apply ChainL.of (some 38) rfl rfl
      case h => exact step_move rfl
      apply ChainL.of (some 39) rfl rfl
      case h => exact w_call c4 [] [3, 2] [] Tryd.func10 rfl (by decide +kernel) rfl rfl .nil (by decide) (sp_hco _ _ 3 2 _) rfl rfl (sp_hlt _ _ _) rfl (sp_hok _ _ _) rfl rfl rfl rfl (sp_zip _ _ 3 2 _)
      exact .nil
    show Cwp _ _ _ _
    refine cwp_seq ?_
    apply one_region
    case hc =>
      apply ChainL.of (some 40) rfl rfl
      case h => exact step_move rfl
      apply ChainL.of (some 41) rfl rfl
      case h => exact step_move rfl
      apply ChainL.of (some 42) rfl rfl
      case h => (first | exact w_call c7 [] [0, 1] [] Tryd.func11 rfl (by decide +kernel) rfl rfl .nil (by decide) (sp_hco _ _ 0 1 _) rfl rfl (sp_hlt _ _ _) rfl (sp_hok _ _ _) rfl rfl rfl rfl (sp_zip _ _ 0 1 _) | exact w_call c5 [] [0, 1] [] Tryd.func11 rfl (by decide +kernel) rfl rfl .nil (by decide) (sp_hco _ _ 0 1 _) rfl rfl (sp_hlt _ _ _) rfl (sp_hok _ _ _) rfl rfl rfl rfl (sp_zip _ _ 0 1 _) | exact w_call c8 [] [3, 2] [] Tryd.func11 rfl (by decide +kernel) rfl rfl .nil (by decide) (sp_hco _ _ 3 2 _) rfl rfl (sp_hlt _ _ _) rfl (sp_hok _ _ _) rfl rfl rfl rfl (sp_zip _ _ 3 2 _))
      apply ChainL.of (some 12) rfl rfl
      case h => exact step_assign rfl
      exact .nil
    show Cwp _ _ _ _
    refine cwp_seq ?_
    apply one_region
    case hc =>
      apply ChainL.of (some 43) rfl rfl
      case h => exact step_move rfl
      apply ChainL.of (some 44) rfl rfl
      case h => exact step_move rfl
      apply ChainL.of (some 45) rfl rfl
      case h => (first | exact w_call c2 [] [0, 1] [] Tryd.func9 rfl (by decide +kernel) rfl rfl .nil (by decide) (sp_hco _ _ 0 1 _) rfl rfl (sp_hlt _ _ _) rfl (sp_hok _ _ _) rfl rfl rfl rfl (sp_zip _ _ 0 1 _) | exact w_call c6 [] [3, 2] [] Tryd.func9 rfl (by decide +kernel) rfl rfl .nil (by decide) (sp_hco _ _ 3 2 _) rfl rfl (sp_hlt _ _ _) rfl (sp_hok _ _ _) rfl rfl rfl rfl (sp_zip _ _ 3 2 _))
      exact .nil
    show Cwp _ _ _ _
    refine cwp_seq ?_
    apply one_region
    case hc =>
      apply ChainL.of (some 46) rfl rfl
      case h => exact w_call awake_t [] [] [] Tryd.func7 rfl (by decide +kernel) rfl rfl .nil (by decide) rfl rfl rfl rfl rfl rfl rfl rfl rfl rfl rfl
      apply ChainL.of (some 47) rfl rfl
      case h => exact step_move rfl
      first
      | apply ChainL.off (some 48) 1 47 true rfl rfl rfl rfl
      | apply ChainL.on (some 48) 1 47 true rfl rfl rfl rfl
        case h => exact step_move rfl
      first
      | apply ChainL.off (some 49) 1 47 true rfl rfl rfl rfl
      | apply ChainL.on (some 49) 1 47 true rfl rfl rfl rfl
        case h => exact step_move rfl
      first
      | apply ChainL.off (some 50) 1 47 true rfl rfl rfl rfl
      | apply ChainL.on (some 50) 1 47 true rfl rfl rfl rfl
        case h => (first | exact w_call c7 [] [0, 1] [] Tryd.func11 rfl (by decide +kernel) rfl rfl .nil (by decide) (sp_hco _ _ 0 1 _) rfl rfl (sp_hlt _ _ _) rfl (sp_hok _ _ _) rfl rfl rfl rfl (sp_zip _ _ 0 1 _) | exact w_call c5 [] [0, 1] [] Tryd.func11 rfl (by decide +kernel) rfl rfl .nil (by decide) (sp_hco _ _ 0 1 _) rfl rfl (sp_hlt _ _ _) rfl (sp_hok _ _ _) rfl rfl rfl rfl (sp_zip _ _ 0 1 _) | exact w_call c8 [] [3, 2] [] Tryd.func11 rfl (by decide +kernel) rfl rfl .nil (by decide) (sp_hco _ _ 3 2 _) rfl rfl (sp_hlt _ _ _) rfl (sp_hok _ _ _) rfl rfl rfl rfl (sp_zip _ _ 3 2 _))
      apply ChainL.of (some 51) rfl rfl
      case h => exact step_pick rfl rfl
      apply ChainL.of (some 52) rfl rfl
      case h => exact step_move rfl
      first
      | apply ChainL.off (some 53) 6 52 true rfl rfl rfl rfl
      | apply ChainL.on (some 53) 6 52 true rfl rfl rfl rfl
        case h => exact step_move rfl
      first
      | apply ChainL.off (some 54) 6 52 true rfl rfl rfl rfl
      | apply ChainL.on (some 54) 6 52 true rfl rfl rfl rfl
        case h => exact step_move rfl
      first
      | apply ChainL.off (some 55) 6 52 true rfl rfl rfl rfl
      | apply ChainL.on (some 55) 6 52 true rfl rfl rfl rfl
        case h => (first | exact w_call c7 [] [0, 1] [] Tryd.func11 rfl (by decide +kernel) rfl rfl .nil (by decide) (sp_hco _ _ 0 1 _) rfl rfl (sp_hlt _ _ _) rfl (sp_hok _ _ _) rfl rfl rfl rfl (sp_zip _ _ 0 1 _) | exact w_call c5 [] [0, 1] [] Tryd.func11 rfl (by decide +kernel) rfl rfl .nil (by decide) (sp_hco _ _ 0 1 _) rfl rfl (sp_hlt _ _ _) rfl (sp_hok _ _ _) rfl rfl rfl rfl (sp_zip _ _ 0 1 _) | exact w_call c8 [] [3, 2] [] Tryd.func11 rfl (by decide +kernel) rfl rfl .nil (by decide) (sp_hco _ _ 3 2 _) rfl rfl (sp_hlt _ _ _) rfl (sp_hok _ _ _) rfl rfl rfl rfl (sp_zip _ _ 3 2 _))
      first
      | apply ChainL.off (some 56) 6 52 true rfl rfl rfl rfl
      | apply ChainL.on (some 56) 6 52 true rfl rfl rfl rfl
        case h => exact step_move rfl
      first
      | apply ChainL.off (some 57) 6 52 true rfl rfl rfl rfl
      | apply ChainL.on (some 57) 6 52 true rfl rfl rfl rfl
        case h => exact w_bool tab (b := true) rfl rfl rfl rfl rfl
      apply ChainL.of (some 58) rfl rfl
      case h => exact step_pick rfl rfl
      apply ChainL.of (some 59) rfl rfl
      case h => exact step_move rfl
      first
      | apply ChainL.off (some 60) 13 59 true rfl rfl rfl rfl
      | apply ChainL.on (some 60) 13 59 true rfl rfl rfl rfl
        case h => exact step_move rfl
      first
      | apply ChainL.off (some 61) 13 59 true rfl rfl rfl rfl
      | apply ChainL.on (some 61) 13 59 true rfl rfl rfl rfl
        case h => exact step_move rfl
      first
      | apply ChainL.off (some 62) 13 59 true rfl rfl rfl rfl
      | apply ChainL.on (some 62) 13 59 true rfl rfl rfl rfl
        case h => (first | exact w_call c7 [] [0, 1] [] Tryd.func11 rfl (by decide +kernel) rfl rfl .nil (by decide) (sp_hco _ _ 0 1 _) rfl rfl (sp_hlt _ _ _) rfl (sp_hok _ _ _) rfl rfl rfl rfl (sp_zip _ _ 0 1 _) | exact w_call c5 [] [0, 1] [] Tryd.func11 rfl (by decide +kernel) rfl rfl .nil (by decide) (sp_hco _ _ 0 1 _) rfl rfl (sp_hlt _ _ _) rfl (sp_hok _ _ _) rfl rfl rfl rfl (sp_zip _ _ 0 1 _) | exact w_call c8 [] [3, 2] [] Tryd.func11 rfl (by decide +kernel) rfl rfl .nil (by decide) (sp_hco _ _ 3 2 _) rfl rfl (sp_hlt _ _ _) rfl (sp_hok _ _ _) rfl rfl rfl rfl (sp_zip _ _ 3 2 _))
      apply ChainL.of (some 63) rfl rfl
      case h => exact step_pick rfl rfl
      apply ChainL.of (some 64) rfl rfl
      case h => exact step_move rfl
      first
      | apply ChainL.off (some 65) 18 64 true rfl rfl rfl rfl
      | apply ChainL.on (some 65) 18 64 true rfl rfl rfl rfl
        case h => exact step_move rfl
      first
      | apply ChainL.off (some 66) 18 64 true rfl rfl rfl rfl
      | apply ChainL.on (some 66) 18 64 true rfl rfl rfl rfl
        case h => exact w_call c9 [] [3, 2] [] Tryd.func8 rfl (by decide +kernel) rfl rfl .nil (by decide) (sp_hco _ _ 3 2 _) rfl rfl (sp_hlt _ _ _) rfl (sp_hok _ _ _) rfl rfl rfl rfl (sp_zip _ _ 3 2 _)
      first
      | apply ChainL.off (some 67) 18 64 true rfl rfl rfl rfl
      | apply ChainL.on (some 67) 18 64 true rfl rfl rfl rfl
        case h => exact step_move rfl
      first
      | apply ChainL.off (some 68) 18 64 true rfl rfl rfl rfl
      | apply ChainL.on (some 68) 18 64 true rfl rfl rfl rfl
        case h => (first | exact w_bin rfl rfl rfl (eql_t (by omega)) | exact w_bin rfl rfl rfl (eql_f (by omega)) | exact w_bin rfl rfl rfl rfl)
      apply ChainL.of (some 69) rfl rfl
      case h => exact step_pick rfl rfl
      apply ChainL.of (some 6) rfl rfl
      case h => exact step_assign rfl
      exact .nil
    show Cwp _ _ _ _
    refine cwp_ret ?_
    exact ⟨.inl rfl, resH_one rfl rfl, fun i x h => by simp at h⟩
end Go.Proofs.YtcbbpidnocgoiaaDoor.Sp


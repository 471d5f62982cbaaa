/- Places: the lowest bit. -/
import Derived.Test.YtcbbpidnocgoiaaDoorSpT
import Derived.Test.YtcbbpidnocgoiaaDoorPuWord
namespace Go.Proofs.YtcbbpidnocgoiaaDoor.Sp
open Go Go.RowKit Go.Proofs.YtcbbpidnocgoiaaDoor.Eng Go.Proofs.YtcbbpidnocgoiaaDoor.Pu
set_option linter.unusedVariables false
set_option linter.unusedSimpArgs false
set_option maxRecDepth 20000
def kk (t : Nat) : Nat := (2 ^ t * 285870213051353865 % 18446744073709551616) / 288230376151711744
def ent (q t : Nat) : Bool := match tab0.toList[q]? with
  | some (.int .u8 x) => x == (t : Int)
  | _ => false
theorem ent_ok {q t : Nat} (h : ent q t = true) : tab0[q]? = some (.int .u8 (t : Int)) := by
  unfold ent at h
  rw [← Array.getElem?_toList]
  split at h
  · rename_i x hx
    rw [hx, eq_of_beq h]
  · cases h
theorem kcB_all : ∀ t : Fin 64, ent (kk t.val) t.val = true := by decide +kernel
theorem kc_ok (t : Fin 64) : tab0[kk t.val]? = some (.int .u8 (t.val : Int)) := ent_ok (kcB_all t)
theorem kk_lt : ∀ t : Fin 64, kk t.val < 64 := by decide +kernel
theorem mul_t (t : Fin 64) : IntKind.wrap .u64 (((2 ^ t.val : Nat) : Int) * 285870213051353865) = ((2 ^ t.val * 285870213051353865 % 18446744073709551616 : Nat) : Int) := by
  generalize 2 ^ t.val = z
  show ((z : Int) * 285870213051353865) % 2 ^ 64 = _
  omega
theorem neg_u {y : Nat} (h0 : 0 < y) (h1 : y < 18446744073709551616) : aun .neg (.int .u64 (y : Int)) = some (.int .u64 ((18446744073709551616 - y : Nat) : Int)) := by
  show some (Value.int .u64 (IntKind.wrap .u64 (0 - (y : Int)))) = _
  have : IntKind.wrap .u64 (0 - (y : Int)) = ((18446744073709551616 - y : Nat) : Int) := by
    show (0 - (y : Int)) % 2 ^ 64 = _
    omega
  rw [this]
theorem and_u {y t : Nat} (ht : t = tz 64 y) (h0 : 0 < y) (h1 : y < 18446744073709551616) : abin .and (.int .u64 (y : Int)) (.int .u64 ((18446744073709551616 - y : Nat) : Int)) = some (.int .u64 ((2 ^ t : Nat) : Int)) := by
  show some (Value.int .u64 (IntKind.wrap .u64 _)) = _
  have := and_k (a := y) (b := 18446744073709551616 - y) h1 (by omega)
  rw [ht]
  rw [this]
  have h2 := and_neg y h0 (by rw [lt64]; exact h1)
  rw [lt64] at h2
  rw [h2]
theorem mul_u {t : Nat} (h : t < 64) : abin .mul (.int .u64 ((2 ^ t : Nat) : Int)) (.int .u64 285870213051353865) = some (.int .u64 ((2 ^ t * 285870213051353865 % 18446744073709551616 : Nat) : Int)) := by
  show some (Value.int .u64 (IntKind.wrap .u64 _)) = _
  rw [mul_t ⟨t, h⟩]
theorem shr_u {t : Nat} (h : t < 64) : abin .shr (.int .u64 ((2 ^ t * 285870213051353865 % 18446744073709551616 : Nat) : Int)) (.int .u64 58) = some (.int .u64 ((kk t : Nat) : Int)) := by
  show (if (58 : Int) < 0 then none else some (Value.int .u64 _)) = _
  rw [if_neg (by decide), shr_k _ 58 (by decide) (by decide)]
  rfl
theorem tz_all {y t : Nat} (h0 : 0 < y) (h1 : y < 18446744073709551616) (ht : t = tz 64 y) (hl : t < 64) : HCall Tryd.prog 17 [] [.v (.int .u64 (y : Int))] [] (.v (.int .i64 (t : Int))) := by
  refine HCall.of Tryd.func17 rfl (by decide +kernel) (Nat.le_of_ble_eq_true rfl) ?_
  apply seq_region
  case hc =>
    apply ChainL.of (some 2) rfl rfl
    case h => exact step_assign rfl
    exact .nil
  refine cwp_seq ?_
  refine cwp_seq ?_
  apply one_region
  case hc =>
    apply ChainL.of (some 3) rfl rfl
    case h => exact step_move rfl
    apply ChainL.of (some 4) rfl rfl
    case h => (first | exact w_bin rfl rfl rfl (eql_t (by omega)) | exact w_bin rfl rfl rfl (eql_f (by omega)) | exact w_bin rfl rfl rfl rfl)
    exact .nil
  show Cwp _ _ _ _
  refine cond_f rfl ?_
  refine cwp_skip ?_
  show Cwp _ _ _ _
  apply seq_region
  case hc =>
    apply ChainL.of (some 5) rfl rfl
    case h => exact step_move rfl
    apply ChainL.of (some 6) rfl rfl
    case h => exact step_move rfl
    apply ChainL.of (some 7) rfl rfl
    case h => exact w_un (v := .int .u64 ((18446744073709551616 - y : Nat) : Int)) rfl rfl (neg_u h0 h1)
    apply ChainL.of (some 8) rfl rfl
    case h => exact w_bin (v := .int .u64 ((2 ^ t : Nat) : Int)) rfl rfl rfl (and_u ht h0 h1)
    apply ChainL.of (some 9) rfl rfl
    case h => exact w_bin (v := .int .u64 ((2 ^ t * 285870213051353865 % 18446744073709551616 : Nat) : Int)) rfl rfl rfl (mul_u hl)
    apply ChainL.of (some 10) rfl rfl
    case h => exact w_bin (v := .int .u64 ((kk t : Nat) : Int)) rfl rfl rfl (shr_u hl)
    apply ChainL.of (some 11) rfl rfl
    case h => exact w_index_tab (T := 41) (n := 64) (e := 5) (i := ((kk t : Nat) : Int)) (q := kk t) (by kernel_rfl) (by kernel_rfl) rfl rfl rfl (Int.natCast_nonneg _) (by have := kk_lt ⟨t, hl⟩; dsimp only at this; omega) (Int.toNat_natCast _)
    apply ChainL.of (some 12) rfl rfl
    case h => exact w_load_tab tab rfl rfl rfl rfl (.head _) (v := .int .u8 (t : Int)) (kc_ok ⟨t, hl⟩)
    apply ChainL.of (some 13) rfl rfl
    case h => exact w_conv tab rfl rfl rfl rfl rfl (wrap_i64 (by omega) (by omega))
    apply ChainL.of (some 2) rfl rfl
    case h => exact step_assign rfl
    exact .nil
  exact cwp_ret ⟨.inl rfl, resH_one rfl (by kernel_rfl), fun i x h => by simp at h⟩
end Go.Proofs.YtcbbpidnocgoiaaDoor.Sp


/- Values, as arithmetic says them. -/
import Derived.Test.YtcbbpidnocgoiaaDoorEng12
namespace Go.Proofs.YtcbbpidnocgoiaaDoor.Eng
open Go Go.RowKit
set_option linter.unusedVariables false
set_option linter.unusedSimpArgs false
section
variable {k : IntKind} {a b c : Int}
theorem lss_t (h : a < b) : abin .lss (.int k a) (.int k b) = some (.bool true) := by simp [abin, h]
theorem lss_f (h : ¬ a < b) : abin .lss (.int k a) (.int k b) = some (.bool false) := by simp [abin]; omega
theorem leq_t (h : a ≤ b) : abin .leq (.int k a) (.int k b) = some (.bool true) := by simp [abin, h]
theorem leq_f (h : ¬ a ≤ b) : abin .leq (.int k a) (.int k b) = some (.bool false) := by simp [abin]; omega
theorem gtr_t (h : a > b) : abin .gtr (.int k a) (.int k b) = some (.bool true) := by simp [abin]; omega
theorem gtr_f (h : ¬ a > b) : abin .gtr (.int k a) (.int k b) = some (.bool false) := by simp [abin]; omega
theorem geq_t (h : a ≥ b) : abin .geq (.int k a) (.int k b) = some (.bool true) := by simp [abin]; omega
theorem geq_f (h : ¬ a ≥ b) : abin .geq (.int k a) (.int k b) = some (.bool false) := by simp [abin]; omega
theorem eql_t (h : a = b) : abin .eql (.int k a) (.int k b) = some (.bool true) := by simp [abin, h]
theorem eql_f (h : ¬ a = b) : abin .eql (.int k a) (.int k b) = some (.bool false) := by simp [abin, h]
theorem neq_t (h : ¬ a = b) : abin .neq (.int k a) (.int k b) = some (.bool true) := by simp [abin, h]
theorem neq_f (h : a = b) : abin .neq (.int k a) (.int k b) = some (.bool false) := by simp [abin, h]
theorem wrap_i64 (h1 : -9223372036854775808 ≤ c) (h2 : c ≤ 9223372036854775807) : IntKind.wrap .i64 c = c := by
  simp [IntKind.wrap, IntKind.bits, IntKind.signed]
  omega
theorem wrap_u64 (h1 : 0 ≤ c) (h2 : c ≤ 18446744073709551615) : IntKind.wrap .u64 c = c := by
  simp [IntKind.wrap, IntKind.bits, IntKind.signed]
  omega
theorem add_i64 (h : a + b = c) (h1 : -9223372036854775808 ≤ c) (h2 : c ≤ 9223372036854775807) : abin .add (.int .i64 a) (.int .i64 b) = some (.int .i64 c) := by
  subst h; simp [abin, wrap_i64 h1 h2]
theorem sub_i64 (h : a - b = c) (h1 : -9223372036854775808 ≤ c) (h2 : c ≤ 9223372036854775807) : abin .sub (.int .i64 a) (.int .i64 b) = some (.int .i64 c) := by
  subst h; simp [abin, wrap_i64 h1 h2]
theorem mul_i64 (h : a * b = c) (h1 : -9223372036854775808 ≤ c) (h2 : c ≤ 9223372036854775807) : abin .mul (.int .i64 a) (.int .i64 b) = some (.int .i64 c) := by
  subst h; simp [abin, wrap_i64 h1 h2]
theorem quo_i64 (ha : 0 ≤ a) (hb : 0 < b) (h2 : a ≤ 9223372036854775807) (h : a / b = c) : abin .quo (.int .i64 a) (.int .i64 b) = some (.int .i64 c) := by
  subst h
  have h0 : 0 ≤ a / b := Int.ediv_nonneg ha (by omega)
  have h3 : a / b ≤ a := Int.ediv_le_self b ha
  simp only [abin, if_true]
  rw [if_neg (by omega), Int.tdiv_eq_ediv_of_nonneg ha, wrap_i64 (by omega) (by omega)]
theorem rem_i64 (ha : 0 ≤ a) (hb : 0 < b) (h : a % b = c) : abin .rem (.int .i64 a) (.int .i64 b) = some (.int .i64 c) := by
  subst h
  simp only [abin, if_true]
  rw [if_neg (by omega), Int.tmod_eq_emod_of_nonneg ha]
theorem shl_ok {k' : IntKind} (h : 0 ≤ b) : abin .shl (.int k a) (.int k' b) = some (.int k (k.wrap (a * 2 ^ (min b.toNat k.bits)))) := by
  simp only [abin]
  rw [if_neg (by omega)]
theorem shr_ok {k' : IntKind} (h : 0 ≤ b) : abin .shr (.int k a) (.int k' b) = some (.int k (a.fdiv (2 ^ (min b.toNat k.bits)))) := by
  simp only [abin]
  rw [if_neg (by omega)]
end
end Go.Proofs.YtcbbpidnocgoiaaDoor.Eng

/- Places: counting bits. -/
import Derived.Test.YtcbbpidnocgoiaaDoorSvB
namespace Go.Proofs.YtcbbpidnocgoiaaDoor.Sv
open Go Go.RowKit Go.Proofs.YtcbbpidnocgoiaaDoor.Eng Go.Proofs.YtcbbpidnocgoiaaDoor.Pu
set_option linter.unusedVariables false
set_option linter.unusedSimpArgs false
set_option maxRecDepth 20000
abbrev andI (a b : Int) : Int := IntKind.u64.wrap ((BitVec.ofInt IntKind.u64.bits a &&& BitVec.ofInt IntKind.u64.bits b).toNat : Nat)
abbrev addI (a b : Int) : Int := IntKind.u64.wrap (a + b)
abbrev shrI (a b : Int) : Int := a.fdiv (2 ^ min b.toNat IntKind.u64.bits)
def o1 (x : Int) : Int := addI (andI (shrI x 1) 6148914691236517205) (andI x 6148914691236517205)
def o2 (x : Int) : Int := addI (andI (shrI x 2) 3689348814741910323) (andI x 3689348814741910323)
def o3 (x : Int) : Int := andI (addI (shrI x 4) x) 1085102592571150095
def o4 (r x : Int) : Int := addI x (shrI x r)
def o5 (x : Int) : Int := IntKind.i64.wrap ((BitVec.ofInt IntKind.i64.bits (IntKind.i64.wrap x) &&& BitVec.ofInt IntKind.i64.bits 127).toNat : Nat)
theorem e18 (x : Int) : (evFn X E2 an0 lp0 Tryd.f18 [] [.v (.int .u64 x)] fun o v => some (o, v)) = some ([], .v (.int .i64 (o5 (o4 32 (o4 16 (o4 8 (o3 (o2 (o1 x))))))))) := by kernel_rfl
theorem sh_n (a r : Nat) (h : r < 64) : shrI (a : Int) (r : Int) = ((a / 2 ^ r : Nat) : Int) := by
  have := shr_k a r (by omega) (by omega)
  rwa [Int.toNat_natCast] at this
theorem an_n {a b : Nat} (ha : a < 18446744073709551616) (hb : b < 18446744073709551616) : andI (a : Int) (b : Int) = ((a &&& b : Nat) : Int) := and_k ha hb
theorem ad_n {a b : Nat} (h : a + b < 18446744073709551616) : addI (a : Int) (b : Int) = ((a + b : Nat) : Int) := by
  have : ((a : Int) + (b : Int)) = ((a + b : Nat) : Int) := by simp
  unfold addI
  rw [this]
  exact wrapN h
theorem mk85 : mk 85 8 = 6148914691236517205 := by decide
theorem mk51 : mk 51 8 = 3689348814741910323 := by decide
theorem mk15 : mk 15 8 = 1085102592571150095 := by decide
theorem o1_n (x : Nat) (h : x < 18446744073709551616) : o1 (x : Int) = ((s1 8 x : Nat) : Int) ∧ s1 8 x < 12297829382473034411 := by
  have b1 : x / 2 &&& 6148914691236517205 ≤ 6148914691236517205 := Nat.and_le_right
  have b2 : x &&& 6148914691236517205 ≤ 6148914691236517205 := Nat.and_le_right
  have e1 := sh_n x 1 (by decide)
  have e2 := an_n (a := x / 2 ^ 1) (b := 6148914691236517205) (by omega) (by decide)
  have e3 := an_n (a := x) (b := 6148914691236517205) h (by decide)
  unfold o1 s1
  rw [mk85]
  refine ⟨?_, by omega⟩
  have e1' : shrI (x : Int) 1 = ((x / 2 ^ 1 : Nat) : Int) := e1
  rw [e1']
  have e2' : andI ((x / 2 ^ 1 : Nat) : Int) 6148914691236517205 = ((x / 2 ^ 1 &&& 6148914691236517205 : Nat) : Int) := e2
  have e3' : andI (x : Int) 6148914691236517205 = ((x &&& 6148914691236517205 : Nat) : Int) := e3
  rw [e2', e3', ad_n (by rw [Nat.pow_one]; omega), Nat.pow_one]
theorem o2_n (x : Nat) (h : x < 18446744073709551616) : o2 (x : Int) = ((s2 8 x : Nat) : Int) ∧ s2 8 x < 7378697629483820647 := by
  have b1 : x / 4 &&& 3689348814741910323 ≤ 3689348814741910323 := Nat.and_le_right
  have b2 : x &&& 3689348814741910323 ≤ 3689348814741910323 := Nat.and_le_right
  have e1' : shrI (x : Int) 2 = ((x / 2 ^ 2 : Nat) : Int) := sh_n x 2 (by decide)
  have e2' : andI ((x / 2 ^ 2 : Nat) : Int) 3689348814741910323 = ((x / 2 ^ 2 &&& 3689348814741910323 : Nat) : Int) := an_n (by omega) (by decide)
  have e3' : andI (x : Int) 3689348814741910323 = ((x &&& 3689348814741910323 : Nat) : Int) := an_n h (by decide)
  have hp : (2 : Nat) ^ 2 = 4 := rfl
  unfold o2 s2
  rw [mk51]
  refine ⟨?_, by omega⟩
  rw [e1', e2', e3', ad_n (by rw [hp]; omega), hp]
theorem o3_n (x : Nat) (h : x < 7378697629483820647) : o3 (x : Int) = ((s3 8 x : Nat) : Int) ∧ s3 8 x < 1085102592571150096 := by
  have b1 : x / 16 + x &&& 1085102592571150095 ≤ 1085102592571150095 := Nat.and_le_right
  have e1' : shrI (x : Int) 4 = ((x / 2 ^ 4 : Nat) : Int) := sh_n x 4 (by decide)
  have hp : (2 : Nat) ^ 4 = 16 := rfl
  rw [hp] at e1'
  have e2' : addI ((x / 16 : Nat) : Int) (x : Int) = ((x / 16 + x : Nat) : Int) := ad_n (by omega)
  have e3' : andI ((x / 16 + x : Nat) : Int) 1085102592571150095 = ((x / 16 + x &&& 1085102592571150095 : Nat) : Int) := an_n (by omega) (by decide)
  unfold o3 s3
  rw [mk15]
  refine ⟨?_, by omega⟩
  rw [e1', e2', e3']
theorem o4_n (r x : Nat) (hr : r < 64) (h : x + x / 2 ^ r < 18446744073709551616) : o4 (r : Int) (x : Int) = ((x + x / 2 ^ r : Nat) : Int) := by
  unfold o4
  rw [sh_n x r hr]
  exact ad_n h
theorem o5_n (x : Nat) (h : x < 9223372036854775808) : o5 (x : Int) = ((x % 128 : Nat) : Int) := by
  unfold o5
  have e0 : IntKind.i64.wrap (x : Int) = (x : Int) := wrap_i64 (by omega) (by omega)
  have e1 : (BitVec.ofInt IntKind.i64.bits (x : Int) &&& BitVec.ofInt IntKind.i64.bits 127).toNat = x &&& 127 := by
    show (BitVec.ofInt 64 (x : Int) &&& BitVec.ofInt 64 ((127 : Nat) : Int)).toNat = _
    rw [ofIntN, ofIntN, BitVec.toNat_and, BitVec.toNat_ofNat, BitVec.toNat_ofNat, Nat.mod_eq_of_lt (by rw [lt64]; omega), Nat.mod_eq_of_lt (by rw [lt64]; omega)]
  have e2 : x &&& 127 = x % 128 := Nat.and_two_pow_sub_one_eq_mod x 7
  rw [e0, e1, e2]
  exact wrap_i64 (by omega) (by omega)
theorem ones_all (x : Nat) (h : x < 18446744073709551616) : o5 (o4 32 (o4 16 (o4 8 (o3 (o2 (o1 (x : Int))))))) = ((pc 64 x : Nat) : Int) := by
  obtain ⟨h1, h2⟩ := o1_n x h
  obtain ⟨h3, h4⟩ := o2_n (s1 8 x) (by omega)
  obtain ⟨h5, h6⟩ := o3_n _ h4
  rw [h1, h3, h5, ← ones_pc]
  unfold ones
  dsimp only
  generalize s3 8 (s2 8 (s1 8 x)) = y at *
  have e8 : o4 8 (y : Int) = ((y + y / 256 : Nat) : Int) := o4_n 8 y (by decide) (by omega)
  rw [e8]
  obtain ⟨z, hz⟩ : ∃ z, y + y / 256 = z := ⟨_, rfl⟩
  rw [hz]
  have hzb : z < 1089341274573381151 := by omega
  have e16 : o4 16 (z : Int) = ((z + z / 65536 : Nat) : Int) := o4_n 16 z (by decide) (by omega)
  rw [e16]
  obtain ⟨w, hw⟩ : ∃ w, z + z / 65536 = w := ⟨_, rfl⟩
  rw [hw]
  have hwb : w < 1089357896602106942 := by omega
  have e32 : o4 32 (w : Int) = ((w + w / 4294967296 : Nat) : Int) := o4_n 32 w (by decide) (by omega)
  rw [e32, o5_n _ (by omega)]
def du (objs : List (TO U)) (args : List (TV U)) : Option (Int) := match objs, args with
  | [], [a0] =>
    match a0 with
    | .v (.int .u64 x) =>
      some x
    | _ => none
  | _, _ => none
theorem du_ok {objs : List (TO U)} {args : List (TV U)} {x : Int} (h : du objs args = some x) : objs = [] ∧ args = [.v (.int .u64 x)] := by
  unfold du at h
  repeat' split at h
  all_goals first | (cases h; done) | (cases h; exact ⟨rfl, rfl⟩)
def sOnes : Spc U := .of du (fun x => 0 ≤ x ∧ x < 18446744073709551616) (fun x => []) fun x => .v (.int .i64 (pc 64 x.toNat : Nat))
theorem sOnes_ok : SpecOk Tryd.prog 18 sOnes := by
  refine fn_ok X_ok mixed E2_ok an0 lp0 Tryd.func18 (by kernel_rfl) (by kernel_rfl) (lp0_ok (by kernel_rfl)) fun objs args x hx hp => ?_
  obtain ⟨rfl, rfl⟩ := du_ok hx
  dsimp only at hp ⊢
  obtain ⟨y, rfl⟩ : ∃ y : Nat, x = (y : Int) := ⟨x.toNat, by omega⟩
  rw [e18, ones_all y (by omega), Int.toNat_natCast]
end Go.Proofs.YtcbbpidnocgoiaaDoor.Sv

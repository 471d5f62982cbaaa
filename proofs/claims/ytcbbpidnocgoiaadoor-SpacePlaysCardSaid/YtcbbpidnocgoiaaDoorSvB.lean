/- Places: using and freeing. -/
import Derived.Test.YtcbbpidnocgoiaaDoorSvA
namespace Go.Proofs.YtcbbpidnocgoiaaDoor.Sv
open Go Go.RowKit Go.Proofs.YtcbbpidnocgoiaaDoor.Eng Go.Proofs.YtcbbpidnocgoiaaDoor.Pu
set_option linter.unusedVariables false
set_option linter.unusedSimpArgs false
set_option maxRecDepth 20000
noncomputable def E2 : FuncId → Option (Spc U)
  | 16 => some (specFn X (fun _ => none) an0 lp0 Tryd.f16)
  | 11 => some sUsed
  | _ => none
theorem E2_ok : ∀ f S, E2 f = some S → SpecOk Tryd.prog f S := fun f S h => by
  unfold E2 at h
  split at h
  · cases h; exact specFn_ok X_ok mixed E0_ok an0 lp0 Tryd.func16 (by kernel_rfl) (by kernel_rfl) (lp0_ok (by kernel_rfl))
  · cases h; exact sUsed_ok
  · cases h
theorem e9 (n : Int) (i : Int) (ws : List
  Int) : (evFn X E2 an0 lp0 Tryd.f9 [TO.cells [TV.v (Value.int IntKind.i64 n), TV.full 1] false, TO.row C.u64 ws false]
  [TV.ref 0 0 0, TV.v (Value.int IntKind.i64 i)] fun (o : List (TO X.U)) (v : TV X.U) => some (o, v)) =
  if Pre n ws then
  bif usedB n ws i then
    some ([TO.cells [TV.v (Value.int IntKind.i64 n), TV.full 1] false, TO.row C.u64 ws false], TV.v (Value.bool false))
  else
    if 0 ≤ IntKind.i64.wrap (i.tdiv 64) ∧ IntKind.i64.wrap (i.tdiv 64) < ↑ws.length then
      ws[(IntKind.i64.wrap (i.tdiv 64)).toNat]?.bind fun (y : X.U.T C.u64) =>
        if i.tmod 64 < 0 then none
        else
          if 0 ≤ IntKind.i64.wrap (i.tdiv 64) ∧ IntKind.i64.wrap (i.tdiv 64) < ↑ws.length then
            ws[(IntKind.i64.wrap (i.tdiv 64)).toNat]?.bind fun (z : X.U.T C.u64) =>
              some
                ([TO.cells [TV.v (Value.int IntKind.i64 n), TV.full 1] false,
                    TO.row C.u64
                      (ws.set (IntKind.i64.wrap (i.tdiv 64)).toNat
                        (IntKind.u64.wrap
                          ↑(BitVec.ofInt IntKind.u64.bits y |||
                                BitVec.ofInt IntKind.u64.bits
                                  (IntKind.u64.wrap (1 * 2 ^ min (i.tmod 64).toNat IntKind.u64.bits))).toNat))
                      false],
                  TV.v (Value.bool true))
          else none
    else none
else none := by kernel_rfl
theorem e10 (n : Int) (i : Int) (ws : List
  Int) : (evFn X E2 an0 lp0 Tryd.f10 [TO.cells [TV.v (Value.int IntKind.i64 n), TV.full 1] false, TO.row C.u64 ws false]
  [TV.ref 0 0 0, TV.v (Value.int IntKind.i64 i)] fun (o : List (TO X.U)) (v : TV X.U) => some (o, v)) =
  bif decide (0 ≤ i) then
  bif !decide (i < n) then
    some ([TO.cells [TV.v (Value.int IntKind.i64 n), TV.full 1] false, TO.row C.u64 ws false], TV.v (Value.bool false))
  else
    if Pre n ws then
      bif !usedB n ws i then
        some
          ([TO.cells [TV.v (Value.int IntKind.i64 n), TV.full 1] false, TO.row C.u64 ws false], TV.v (Value.bool false))
      else
        if 0 ≤ IntKind.i64.wrap (i.tdiv 64) ∧ IntKind.i64.wrap (i.tdiv 64) < ↑ws.length then
          ws[(IntKind.i64.wrap (i.tdiv 64)).toNat]?.bind fun (y : X.U.T C.u64) =>
            if i.tmod 64 < 0 then none
            else
              if 0 ≤ IntKind.i64.wrap (i.tdiv 64) ∧ IntKind.i64.wrap (i.tdiv 64) < ↑ws.length then
                ws[(IntKind.i64.wrap (i.tdiv 64)).toNat]?.bind fun (z : X.U.T C.u64) =>
                  some
                    ([TO.cells [TV.v (Value.int IntKind.i64 n), TV.full 1] false,
                        TO.row C.u64
                          (ws.set (IntKind.i64.wrap (i.tdiv 64)).toNat
                            (IntKind.u64.wrap
                              ↑(BitVec.ofInt IntKind.u64.bits y &&&
                                    ~~~BitVec.ofInt IntKind.u64.bits
                                        (IntKind.u64.wrap (1 * 2 ^ min (i.tmod 64).toNat IntKind.u64.bits))).toNat))
                          false],
                      TV.v (Value.bool true))
              else none
        else none
    else none
else
  some
    ([TO.cells [TV.v (Value.int IntKind.i64 n), TV.full 1] false, TO.row C.u64 ws false],
      TV.v (Value.bool false)) := by kernel_rfl
theorem used_f {n : Int} {ws : List Int} {i : Int} (h : usedB n ws i = false) : 0 ≤ i ∧ i < n ∧ bitI ws i = false := by
  unfold usedB inB at h
  simp only [Bool.or_eq_false_iff, Bool.not_eq_false', Bool.and_eq_true, decide_eq_true_eq] at h
  exact ⟨h.1.1, h.1.2, h.2⟩
theorem sUse_ok : SpecOk Tryd.prog 9 sUse := by
  refine fn_ok X_ok mixed E2_ok an0 lp0 Tryd.func9 (by kernel_rfl) (by kernel_rfl) (lp0_ok (by kernel_rfl)) fun objs args x hx hp => ?_
  obtain ⟨n, ws, i⟩ := x
  obtain ⟨rfl, rfl⟩ := dsi_ok hx
  dsimp only at hp ⊢
  rw [e9, if_pos hp]
  cases hu : usedB n ws i with
  | true => simp [obs]
  | false =>
    obtain ⟨h0, h1, h2⟩ := used_f hu
    have hat := at_w hp h0 h1
    obtain ⟨p1, p2, p3⟩ := hp
    have hlt := gw_lt p3 (i / 64).toNat
    simp only [cond_false, toNat_quo h0 (by omega), rem_w i h0, hat, Option.bind_some]
    rw [if_pos (by omega), if_neg (by omega), if_pos (by omega), shl_k _ (by omega) (by omega), or_k hlt (pow_lt _ (by omega))]
    rfl
theorem sFree_ok : SpecOk Tryd.prog 10 sFree := by
  refine fn_ok X_ok mixed E2_ok an0 lp0 Tryd.func10 (by kernel_rfl) (by kernel_rfl) (lp0_ok (by kernel_rfl)) fun objs args x hx hp => ?_
  obtain ⟨n, ws, i⟩ := x
  obtain ⟨rfl, rfl⟩ := dsi_ok hx
  dsimp only at hp ⊢
  rw [e10, if_pos hp]
  by_cases h0 : 0 ≤ i
  · by_cases h1 : i < n
    · have hat := at_w hp h0 h1
      obtain ⟨p1, p2, p3⟩ := hp
      have hlt := gw_lt p3 (i / 64).toNat
      have e1 : inB n i = true := by simp [inB, h0, h1]
      have e2 : usedB n ws i = bitI ws i := by simp [usedB, e1]
      simp only [h0, h1, decide_true, cond_true, cond_false, Bool.not_true, e1, e2, Bool.true_and]
      cases hb : bitI ws i with
      | false => simp [obs]
      | true =>
        simp only [cond_false, Bool.not_true, toNat_quo h0 (by omega), rem_w i h0, hat, Option.bind_some]
        rw [if_pos (by omega), if_neg (by omega), if_pos (by omega), shl_k _ (by omega) (by omega), andn_k hlt (pow_lt _ (by omega))]
        rfl
    · simp [h0, h1, inB, obs]
  · simp [h0, inB, obs]
end Go.Proofs.YtcbbpidnocgoiaaDoor.Sv

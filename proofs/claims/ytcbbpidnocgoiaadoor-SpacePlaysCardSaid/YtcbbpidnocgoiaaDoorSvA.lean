/- Places: what the methods come to. -/
import Derived.Test.YtcbbpidnocgoiaaDoorSvT
import Derived.Test.YtcbbpidnocgoiaaDoorEvK
import Derived.Test.YtcbbpidnocgoiaaDoorPuWord
namespace Go.Proofs.YtcbbpidnocgoiaaDoor.Sv
open Go Go.RowKit Go.Proofs.YtcbbpidnocgoiaaDoor.Eng Go.Proofs.YtcbbpidnocgoiaaDoor.Pu
set_option linter.unusedVariables false
set_option linter.unusedSimpArgs false
set_option maxRecDepth 20000
def an0 : Ann := ⟨fun _ => 0, fun _ => 0, fun _ => [], false⟩
theorem E0_ok : ∀ (f : FuncId) (S : Spc U), (fun _ => none : FuncId → Option (Spc U)) f = some S → SpecOk Tryd.prog f S := fun f S h => by cases h
noncomputable def E1 : FuncId → Option (Spc U)
  | 16 => some (specFn X (fun _ => none) an0 lp0 Tryd.f16)
  | _ => none
theorem E1_ok : ∀ f S, E1 f = some S → SpecOk Tryd.prog f S := fun f S h => by
  unfold E1 at h
  split at h
  · cases h; exact specFn_ok X_ok mixed E0_ok an0 lp0 Tryd.func16 (by kernel_rfl) (by kernel_rfl) (lp0_ok (by kernel_rfl))
  · cases h
/-! ### Words -/
def gw (ws : List Int) (q : Nat) : Nat := (ws.getD q 0).toNat
def okW (ws : List Int) : Bool := ws.all fun w => decide (0 ≤ w) && decide (w < 18446744073709551616)
def Pre (n : Int) (ws : List Int) : Prop := n ≤ 64 * (ws.length : Int) ∧ n ≤ 1000000 ∧ okW ws = true
instance (n : Int) (ws : List Int) : Decidable (Pre n ws) := by unfold Pre; infer_instance
def bitI (ws : List Int) (i : Int) : Bool := (gw ws (i / 64).toNat).testBit (i % 64).toNat
def inB (n i : Int) : Bool := decide (0 ≤ i) && decide (i < n)
def usedB (n : Int) (ws : List Int) (i : Int) : Bool := !inB n i || bitI ws i
def setW (ws : List Int) (i : Int) : List Int := ws.set (i / 64).toNat ((gw ws (i / 64).toNat ||| 2 ^ (i % 64).toNat : Nat) : Int)
def clrW (ws : List Int) (i : Int) : List Int := ws.set (i / 64).toNat ((andn (gw ws (i / 64).toNat) (2 ^ (i % 64).toNat) : Nat) : Int)
theorem okW_get {ws : List Int} (h : okW ws = true) {q : Nat} {x : Int} (hx : ws[q]? = some x) : x = ((gw ws q : Nat) : Int) ∧ gw ws q < 18446744073709551616 := by
  have h1 := List.all_eq_true.1 h x (List.mem_of_getElem? hx)
  simp only [Bool.and_eq_true, decide_eq_true_eq] at h1
  unfold gw
  rw [List.getD_eq_getElem?_getD, hx]
  simp only [Option.getD_some]
  omega
theorem gw_lt {ws : List Int} (h : okW ws = true) (q : Nat) : gw ws q < 18446744073709551616 := by
  cases hq : ws[q]? with
  | none => unfold gw; rw [List.getD_eq_getElem?_getD, hq]; decide
  | some x => exact (okW_get h hq).2
theorem at_w {n : Int} {ws : List Int} (h : Pre n ws) {i : Int} (h0 : 0 ≤ i) (h1 : i < n) : ws[(i / 64).toNat]? = some ((gw ws (i / 64).toNat : Nat) : Int) := by
  obtain ⟨p1, p2, p3⟩ := h
  have hlt : (i / 64).toNat < ws.length := by omega
  have := okW_get p3 (List.getElem?_eq_getElem hlt)
  rw [List.getElem?_eq_getElem hlt, ← this.1]
def obs (n : Int) (ws : List Int) : List (TO U) := [.cells [.v (.int .i64 n), .full 1] false, .row .u64 ws false]
/-! ### Used, Use, Free -/
def dsi (objs : List (TO U)) (args : List (TV U)) : Option (Int × List Int × Int) := match objs, args with
  | [o0, o1], [a0, a1] =>
    match o0 with
    | .cells [q0, q1] false =>
      match q0 with
      | .v (.int .i64 n) =>
        match q1 with
        | .full 1 =>
          match o1 with
          | .row .u64 ws false =>
            match a0 with
            | .ref 0 0 0 =>
              match a1 with
              | .v (.int .i64 i) =>
                some (n, ws, i)
              | _ => none
            | _ => none
          | _ => none
        | _ => none
      | _ => none
    | _ => none
  | _, _ => none
theorem dsi_ok {objs : List (TO U)} {args : List (TV U)} {n : Int} {ws : List Int} {i : Int} (h : dsi objs args = some (n, ws, i)) : objs = [.cells [.v (.int .i64 n), .full 1] false, .row .u64 ws false] ∧ args = [.ref 0 0 0, .v (.int .i64 i)] := by
  unfold dsi at h
  repeat' split at h
  all_goals first | (cases h; done) | (cases h; exact ⟨rfl, rfl⟩)
def sUsed : Spc U := .of dsi (fun x => Pre x.1 x.2.1) (fun x => obs x.1 x.2.1) fun x => .v (.bool (usedB x.1 x.2.1 x.2.2))
def sUse : Spc U := .of dsi (fun x => Pre x.1 x.2.1) (fun x => obs x.1 (if usedB x.1 x.2.1 x.2.2 then x.2.1 else setW x.2.1 x.2.2)) fun x => .v (.bool (!usedB x.1 x.2.1 x.2.2))
def sFree : Spc U := .of dsi (fun x => Pre x.1 x.2.1) (fun x => obs x.1 (if inB x.1 x.2.2 && bitI x.2.1 x.2.2 then clrW x.2.1 x.2.2 else x.2.1)) fun x => .v (.bool (inB x.1 x.2.2 && bitI x.2.1 x.2.2))
theorem e11 (n : Int) (i : Int) (ws : List
  Int) : (evFn X E1 an0 lp0 Tryd.f11 [TO.cells [TV.v (Value.int IntKind.i64 n), TV.full 1] false, TO.row C.u64 ws false]
  [TV.ref 0 0 0, TV.v (Value.int IntKind.i64 i)] fun (o : List (TO X.U)) (v : TV X.U) => some (o, v)) =
  bif decide (0 ≤ i) then
  bif !decide (i < n) then
    some ([TO.cells [TV.v (Value.int IntKind.i64 n), TV.full 1] false, TO.row C.u64 ws false], TV.v (Value.bool true))
  else
    if 0 ≤ IntKind.i64.wrap (i.tdiv 64) ∧ IntKind.i64.wrap (i.tdiv 64) < ↑ws.length then
      ws[(IntKind.i64.wrap (i.tdiv 64)).toNat]?.bind fun (y : X.U.T C.u64) =>
        if i.tmod 64 < 0 then none
        else
          some
            ([TO.cells [TV.v (Value.int IntKind.i64 n), TV.full 1] false, TO.row C.u64 ws false],
              TV.v
                (Value.bool
                  (decide
                    (IntKind.u64.wrap
                        ↑(BitVec.ofInt IntKind.u64.bits (Int.fdiv y (2 ^ min (i.tmod 64).toNat IntKind.u64.bits)) &&&
                              BitVec.ofInt IntKind.u64.bits 1).toNat =
                      1))))
    else none
else
  some
    ([TO.cells [TV.v (Value.int IntKind.i64 n), TV.full 1] false, TO.row C.u64 ws false],
      TV.v (Value.bool true)) := by kernel_rfl
theorem toNat_quo {i : Int} (h0 : 0 ≤ i) (h1 : i ≤ 1000000) : IntKind.wrap .i64 (i.tdiv 64) = i / 64 := quo_w i h0 (by omega)
theorem sUsed_ok : SpecOk Tryd.prog 11 sUsed := by
  refine fn_ok X_ok mixed E1_ok an0 lp0 Tryd.func11 (by kernel_rfl) (by kernel_rfl) (lp0_ok (by kernel_rfl)) fun objs args x hx hp => ?_
  obtain ⟨n, ws, i⟩ := x
  obtain ⟨rfl, rfl⟩ := dsi_ok hx
  dsimp only at hp ⊢
  rw [e11]
  by_cases h0 : 0 ≤ i
  · by_cases h1 : i < n
    · have hat := at_w hp h0 h1
      obtain ⟨p1, p2, p3⟩ := hp
      have hb := bit_k (gw ws (i / 64).toNat) (gw_lt p3 _) (i % 64) (by omega) (by omega)
      simp only [h0, h1, decide_true, cond_true, Bool.not_true, cond_false, toNat_quo h0 (by omega), rem_w i h0, hat, Option.bind_some]
      rw [if_pos (by omega), if_neg (by omega)]
      have e : usedB n ws i = (gw ws (i / 64).toNat).testBit (i % 64).toNat := by simp [usedB, inB, h0, h1, bitI]
      rw [e, hb]
      unfold obs
      exact Eq.refl _
    · simp [h0, h1, usedB, inB, obs]
  · simp [h0, usedB, inB, obs]
end Go.Proofs.YtcbbpidnocgoiaaDoor.Sv

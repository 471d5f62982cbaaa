/- Places: the plain search, what is left, new places. -/
import Derived.Test.YtcbbpidnocgoiaaDoorSvD
namespace Go.Proofs.YtcbbpidnocgoiaaDoor.Sv
open Go Go.RowKit Go.Proofs.YtcbbpidnocgoiaaDoor.Eng Go.Proofs.YtcbbpidnocgoiaaDoor.Pu
set_option linter.unusedVariables false
set_option linter.unusedSimpArgs false
set_option maxRecDepth 20000
noncomputable def E5 : FuncId → Option (Spc U)
  | 18 => some sOnes
  | _ => none
theorem E5_ok : ∀ f S, E5 f = some S → SpecOk Tryd.prog f S := fun f S h => by
  unfold E5 at h
  split at h
  · cases h; exact sOnes_ok
  · cases h
/-! ### The plain search -/
def pf (us : List Bool) : Nat → Int → Option Int
  | 0, _ => none
  | N + 1, v => match us[v.toNat]? with
    | some false => some v
    | some true => pf us N (v + 1)
    | none => none
def tot (ws : List Int) : Nat := (ws.map fun w => Pu.pc 64 w.toNat).sum
def Pre14 (ws : List Int) (a m v : Int) : Prop := okW ws = true ∧ ws.length ≤ 100000 ∧ m = ws.length ∧ 0 ≤ v ∧ v ≤ ws.length ∧ -100000000 ≤ a ∧ a ≤ 100000000
instance (ws : List Int) (a m v : Int) : Decidable (Pre14 ws a m v) := by unfold Pre14; infer_instance
def g13_S0 (us : List
  Bool) (v0 : Int) : TS U := mkS 20 [(0, TV.full 0), (5, TV.v (Value.int IntKind.i64 v0))] [TO.row C.bool us false] 1
theorem g13_e0 (lp : Lp
  U) (us : List Bool) (N : Nat) (v0 : Int) : fnLoop X E4 an12 lp Tryd.f13 0 N.succ (g13_S0 us v0) =
  bif decide (v0 < ↑us.length) then
  if 0 ≤ v0 ∧ v0 < ↑us.length then
    us[v0.toNat]?.bind fun (y : X.U.T C.bool) =>
      bif !y then some (Exit.ret, mkS 20 [(4, TV.v (Value.int IntKind.i64 v0))] [TO.row C.bool us false] 1)
      else fnLoop X E4 an12 lp Tryd.f13 0 N (g13_S0 us (IntKind.i64.wrap (v0 + 1)))
  else none
else some (Exit.exit 0, mkS 20 [] [TO.row C.bool us false] 1) := by kernel_rfl
def dl13 (s : TS U) : Option (List Bool × Int) := match told s 20 [0, 5] 1, s.objs with
  | some [a0, a1], [o0] =>
    match o0 with
    | .row .bool us false =>
      match a0 with
      | .full 0 =>
        match a1 with
        | .v (.int .i64 v) =>
          some (us, v)
        | _ => none
      | _ => none
    | _ => none
  | _, _ => none
theorem dl13_ok {s : TS U} {us : List Bool} {v : Int} (h : dl13 s = some (us, v)) : s = mkS (U := U) 20 ([0, 5].zip ([.full 0, .v (.int .i64 v)] : List (TV U))) ([.row .bool us false] : List (TO U)) 1 := by
  unfold dl13 at h
  split at h <;> try (cases h; done)
  rename_i ht ho
  have hs := told_ok ht
  rw [ho] at hs
  repeat' split at h
  all_goals first | (cases h; done) | (cases h; exact hs)
def st13 (us : List Bool) (j : Int) : TS U := mkS 20 [(4, .v (.int .i64 j))] [.row .bool us false] 1
def sx13 (us : List Bool) : TS U := mkS 20 [] [.row .bool us false] 1
def lc13 : LC U := .of2 dl13 (fun x => x.1.length ≤ 1000000 ∧ 0 ≤ x.2) (fun x => (pf x.1 (x.1.length + 1) x.2).isSome) .ret (fun x => st13 x.1 ((pf x.1 (x.1.length + 1) x.2).getD 0)) (.exit 0) (fun x => sx13 x.1)
theorem round13 (lp : Lp U) {us : List Bool} (hl : us.length ≤ 1000000) : ∀ (N : Nat) (v : Int), 0 ≤ v → (us.length : Int) ≤ v + N →
    fnLoop X E4 an12 lp Tryd.f13 0 (N + 1) (g13_S0 us v) = some (cond (pf us (N + 1) v).isSome (Exit.ret, st13 us ((pf us (N + 1) v).getD 0)) (.exit 0, sx13 us)) := by
  intro N
  induction N with
  | zero =>
    intro v h0 h1
    have hv : ¬ v < (us.length : Int) := by omega
    have e : pf us 1 v = none := by
      unfold pf
      rw [List.getElem?_eq_none (by omega)]
    rw [e, g13_e0]
    simp only [hv, decide_false, cond_false]
    rfl
  | succ N ih =>
    intro v h0 h1
    rw [g13_e0]
    by_cases hv : v < (us.length : Int)
    · have hat : us[v.toNat]? = some us[v.toNat] := List.getElem?_eq_getElem (by omega)
      rw [if_pos ⟨h0, hv⟩]
      unfold pf
      generalize us[v.toNat] = b at hat
      rw [hat]
      simp only [hv, decide_true, cond_true, Option.bind_some]
      cases b with
      | true =>
        have e1 : IntKind.i64.wrap (v + 1) = v + 1 := wrap_i64 (by omega) (by omega)
        simp only [Bool.not_true, cond_false, e1]
        exact ih (v + 1) (by omega) (by omega)
      | false => rfl
    · have e : pf us (N + 1 + 1) v = none := by
        unfold pf
        rw [List.getElem?_eq_none (by omega)]
      rw [e]
      simp only [hv, decide_false, cond_false]
      rfl
theorem lp13_ok : ∀ c, Tryd.f13.body = some c → LpOk X E4 an12 (lpL [(0, lc13)]) (loops c 0) := lpL_ok (by kernel_rfl) fun b L hm s p hs => by
  cases hm with
  | tail _ h => cases h
  | head =>
    obtain ⟨⟨us, v⟩, hx, ⟨hp, h0⟩, rfl⟩ := LC.of2_some hs
    obtain rfl := dl13_ok hx
    dsimp only at hp h0 ⊢
    exact ⟨us.length + 1, round13 _ hp us.length v h0 (by omega)⟩
theorem e13 (i : Int) (us : List
  Bool) : (evFn X E4 an12 (lpL [(0, lc13)]) Tryd.f13 [TO.row C.bool us false]
  [TV.full 0, TV.v (Value.int IntKind.i64 i)] fun (o : List (TO X.U)) (v : TV X.U) => some (o, v)) =
  if us.length ≤ 1000000 ∧ 0 ≤ if i < 0 then 0 else i then
  bif (pf us (us.length + 1) (if i < 0 then 0 else i)).isSome then
    some
      ([TO.row C.bool us false], TV.v (Value.int IntKind.i64 ((pf us (us.length + 1) (if i < 0 then 0 else i)).getD 0)))
  else some ([TO.row C.bool us false], TV.v (Value.int IntKind.i64 (-1)))
else none := by kernel_rfl
def dui (objs : List (TO U)) (args : List (TV U)) : Option (List Bool × Int) := match objs, args with
  | [o0], [a0, a1] =>
    match o0 with
    | .row .bool us false =>
      match a0 with
      | .full 0 =>
        match a1 with
        | .v (.int .i64 i) =>
          some (us, i)
        | _ => none
      | _ => none
    | _ => none
  | _, _ => none
theorem dui_ok {objs : List (TO U)} {args : List (TV U)} {us : List Bool} {i : Int} (h : dui objs args = some (us, i)) : objs = [.row .bool us false] ∧ args = [.full 0, .v (.int .i64 i)] := by
  unfold dui at h
  repeat' split at h
  all_goals first | (cases h; done) | (cases h; exact ⟨rfl, rfl⟩)
def sfirst : Spc U := .of dui (fun x => x.1.length ≤ 1000000) (fun x => [.row .bool x.1 false]) fun x => .v (.int .i64 ((pf x.1 (x.1.length + 1) (if x.2 < 0 then 0 else x.2)).getD (-1)))
theorem sfirst_ok : SpecOk Tryd.prog 13 sfirst := by
  refine fn_ok X_ok mixed E4_ok an12 (lpL [(0, lc13)]) Tryd.func13 (by kernel_rfl) (by kernel_rfl) lp13_ok fun objs args x hx hp => ?_
  obtain ⟨us, i⟩ := x
  obtain ⟨rfl, rfl⟩ := dui_ok hx
  dsimp only at hp ⊢
  rw [e13, if_pos ⟨hp, by split <;> omega⟩]
  cases pf us (us.length + 1) (if i < 0 then 0 else i) <;> rfl
/-! ### What is left -/
def an14 : Ann := ⟨fun | 0 => 229384 | _ => 0, fun | 0 => 12 | _ => 0, fun _ => [], false⟩
def g14_S0 (n : Int) (ws : List
  Int) (v0 : Int) (v1 : Int) (v2 : Int) : TS U := mkS 27
  [(3, TV.v (Value.int IntKind.i64 v0)), (15, TV.full 1), (16, TV.v (Value.int IntKind.i64 v1)),
    (17, TV.v (Value.int IntKind.i64 v2))]
  [TO.cells [TV.v (Value.int IntKind.i64 n), TV.full 1] false, TO.row C.u64 ws false] 2
theorem g14_e0 (lp : Lp
  U) (n : Int) (ws : List
  Int) (N : Nat) (v0 : Int) (v1 : Int) (v2 : Int) : fnLoop X E5 an14 lp Tryd.f14 0 N.succ (g14_S0 n ws v0 v1 v2) =
  bif decide (v2 < v1) then
  if 0 ≤ v2 ∧ v2 < ↑ws.length then
    ws[v2.toNat]?.bind fun (y : X.U.T C.u64) =>
      if 0 ≤ y ∧ y < 18446744073709551616 then
        fnLoop X E5 an14 lp Tryd.f14 0 N
          (g14_S0 n ws (IntKind.i64.wrap (v0 - ↑(pc 64 (Int.toNat y)))) v1 (IntKind.i64.wrap (v2 + 1)))
      else none
  else none
else
  some
    (Exit.exit 0,
      mkS 27 [(3, TV.v (Value.int IntKind.i64 v0))]
        [TO.cells [TV.v (Value.int IntKind.i64 n), TV.full 1] false, TO.row C.u64 ws false] 2) := by kernel_rfl
def dl14 (s : TS U) : Option (Int × List Int × Int × Int × Int) := match told s 27 [3, 15, 16, 17] 2, s.objs with
  | some [a0, a1, a2, a3], [o0, o1] =>
    match o0 with
    | .cells [q0, q1] false =>
      match q0 with
      | .v (.int .i64 n) =>
        match q1 with
        | .full 1 =>
          match o1 with
          | .row .u64 ws false =>
            match a0 with
            | .v (.int .i64 a) =>
              match a1 with
              | .full 1 =>
                match a2 with
                | .v (.int .i64 m) =>
                  match a3 with
                  | .v (.int .i64 v) =>
                    some (n, ws, a, m, v)
                  | _ => none
                | _ => none
              | _ => none
            | _ => none
          | _ => none
        | _ => none
      | _ => none
    | _ => none
  | _, _ => none
theorem dl14_ok {s : TS U} {n : Int} {ws : List Int} {a : Int} {m : Int} {v : Int} (h : dl14 s = some (n, ws, a, m, v)) : s = mkS (U := U) 27 ([3, 15, 16, 17].zip ([.v (.int .i64 a), .full 1, .v (.int .i64 m), .v (.int .i64 v)] : List (TV U))) ([.cells [.v (.int .i64 n), .full 1] false, .row .u64 ws false] : List (TO U)) 2 := by
  unfold dl14 at h
  split at h <;> try (cases h; done)
  rename_i ht ho
  have hs := told_ok ht
  rw [ho] at hs
  repeat' split at h
  all_goals first | (cases h; done) | (cases h; exact hs)
def sx14 (n : Int) (ws : List Int) (a : Int) : TS U := mkS 27 [(3, .v (.int .i64 a))] (obs n ws) 2
def lc14 : LC U := .of dl14 (fun x => Pre14 x.2.1 x.2.2.1 x.2.2.2.1 x.2.2.2.2) (.exit 0) (fun x => sx14 x.1 x.2.1 (x.2.2.1 - (tot (x.2.1.drop x.2.2.2.2.toNat) : Nat)))
theorem pc_le64 (x : Nat) : Pu.pc 64 x ≤ 64 := Pu.pc_le 64 x
theorem round14 (lp : Lp U) {n : Int} {ws : List Int} (hw : okW ws = true) (hl : ws.length ≤ 100000) : ∀ (N : Nat) (a v : Int), 0 ≤ v → v + N = (ws.length : Int) → -100000000 - 64 * v ≤ a → a ≤ 100000000 →
    fnLoop X E5 an14 lp Tryd.f14 0 (N + 1) (g14_S0 n ws a ws.length v) = some (.exit 0, sx14 n ws (a - (tot (ws.drop v.toNat) : Nat))) := by
  intro N
  induction N with
  | zero =>
    intro a v h0 h1 h2 h3
    have hv : ¬ v < (ws.length : Int) := by omega
    have e : tot (ws.drop v.toNat) = 0 := by rw [List.drop_eq_nil_of_le (by omega)]; rfl
    rw [e, g14_e0]
    simp only [hv, decide_false, cond_false]
    have : a - ((0 : Nat) : Int) = a := by omega
    rw [this]
    rfl
  | succ N ih =>
    intro a v h0 h1 h2 h3
    rw [g14_e0]
    have hv : v < (ws.length : Int) := by omega
    have hlt : v.toNat < ws.length := by omega
    obtain ⟨x, hx⟩ : ∃ x, ws[v.toNat]? = some x := ⟨_, List.getElem?_eq_getElem hlt⟩
    have hd : ws.drop v.toNat = x :: ws.drop (v.toNat + 1) := by
      rw [List.drop_eq_getElem_cons hlt]
      rw [List.getElem?_eq_getElem hlt] at hx
      cases hx
      rfl
    obtain ⟨hg, hg2⟩ := okW_get hw hx
    have hpc := pc_le64 x.toNat
    rw [if_pos ⟨h0, hv⟩]
    simp only [hv, decide_true, cond_true, hx, Option.bind_some]
    rw [if_pos (show 0 ≤ x ∧ x < 18446744073709551616 from ⟨by omega, by omega⟩)]
    have e1 : IntKind.i64.wrap (a - ((Pu.pc 64 x.toNat : Nat) : Int)) = a - ((Pu.pc 64 x.toNat : Nat) : Int) := wrap_i64 (by omega) (by omega)
    have e2 : IntKind.i64.wrap (v + 1) = v + 1 := wrap_i64 (by omega) (by omega)
    rw [e1, e2, ih (a - ((Pu.pc 64 x.toNat : Nat) : Int)) (v + 1) (by omega) (by omega) (by omega) (by omega)]
    have e3 : tot (ws.drop v.toNat) = Pu.pc 64 x.toNat + tot (ws.drop (v + 1).toNat) := by
      rw [hd, show (v + 1).toNat = v.toNat + 1 by omega]
      unfold tot
      rw [List.map_cons, List.sum_cons]
    rw [e3]
    have e4 : a - ((Pu.pc 64 x.toNat : Nat) : Int) - ((tot (ws.drop (v + 1).toNat) : Nat) : Int) = a - ((Pu.pc 64 x.toNat + tot (ws.drop (v + 1).toNat) : Nat) : Int) := by omega
    rw [e4]
theorem lp14_ok : ∀ c, Tryd.f14.body = some c → LpOk X E5 an14 (lpL [(0, lc14)]) (loops c 0) := lpL_ok (by kernel_rfl) fun b L hm s p hs => by
  cases hm with
  | tail _ h => cases h
  | head =>
    obtain ⟨⟨n, ws, a, m, v⟩, hx, ⟨hp, h0, h1, h2, h3, h4, h5⟩, rfl⟩ := LC.of_some hs
    obtain rfl := dl14_ok hx
    dsimp only at hp h0 h1 h2 h3 h4 h5 ⊢
    subst h1
    exact ⟨(ws.length - v.toNat) + 1, round14 _ hp h0 _ a v h2 (by omega) (by omega) h5⟩
theorem e14 (n : Int) (ws : List
  Int) : (evFn X E5 an14 (lpL [(0, lc14)]) Tryd.f14
  [TO.cells [TV.v (Value.int IntKind.i64 n), TV.full 1] false, TO.row C.u64 ws false] [TV.ref 0 0 0]
  fun (o : List (TO X.U)) (v : TV X.U) => some (o, v)) =
  if Pre14 ws n (↑ws.length) 0 then
  some
    ([TO.cells [TV.v (Value.int IntKind.i64 n), TV.full 1] false, TO.row C.u64 ws false],
      TV.v (Value.int IntKind.i64 (n - ↑(tot (List.drop (Int.toNat 0) ws)))))
else none := by kernel_rfl
def ds (objs : List (TO U)) (args : List (TV U)) : Option (Int × List Int) := match objs, args with
  | [o0, o1], [a0] =>
    match o0 with
    | .cells [q0, q1] false =>
      match q0 with
      | .v (.int .i64 n) =>
        match q1 with
        | .full 1 =>
          match o1 with
          | .row .u64 ws false =>
            match a0 with
            | .ref 0 0 0 =>
              some (n, ws)
            | _ => none
          | _ => none
        | _ => none
      | _ => none
    | _ => none
  | _, _ => none
theorem ds_ok {objs : List (TO U)} {args : List (TV U)} {n : Int} {ws : List Int} (h : ds objs args = some (n, ws)) : objs = [.cells [.v (.int .i64 n), .full 1] false, .row .u64 ws false] ∧ args = [.ref 0 0 0] := by
  unfold ds at h
  repeat' split at h
  all_goals first | (cases h; done) | (cases h; exact ⟨rfl, rfl⟩)
def sLeft : Spc U := .of ds (fun x => Pre x.1 x.2 ∧ 0 ≤ x.1 ∧ x.2.length ≤ 100000) (fun x => obs x.1 x.2) fun x => .v (.int .i64 (x.1 - (tot x.2 : Nat)))
theorem sLeft_ok : SpecOk Tryd.prog 14 sLeft := by
  refine fn_ok X_ok mixed E5_ok an14 (lpL [(0, lc14)]) Tryd.func14 (by kernel_rfl) (by kernel_rfl) lp14_ok fun objs args x hx hp => ?_
  obtain ⟨n, ws⟩ := x
  obtain ⟨rfl, rfl⟩ := ds_ok hx
  dsimp only at hp ⊢
  obtain ⟨⟨p1, p2, p3⟩, p4, p5⟩ := hp
  rw [e14, if_pos ⟨p3, p5, rfl, by omega, by omega, by omega, by omega⟩]
  rfl
/-! ### Many, New -/
theorem e8 (n : Int) (ws : List
  Int) : (evFn X (fun (x : FuncId) => none) an0 lp0 Tryd.f8
  [TO.cells [TV.v (Value.int IntKind.i64 n), TV.full 1] false, TO.row C.u64 ws false] [TV.ref 0 0 0]
  fun (o : List (TO X.U)) (v : TV X.U) => some (o, v)) =
  some
  ([TO.cells [TV.v (Value.int IntKind.i64 n), TV.full 1] false, TO.row C.u64 ws false],
    TV.v (Value.int IntKind.i64 n)) := by kernel_rfl
def sMany : Spc U := .of ds (fun x => True) (fun x => obs x.1 x.2) fun x => .v (.int .i64 x.1)
theorem sMany_ok : SpecOk Tryd.prog 8 sMany := by
  refine fn_ok X_ok mixed E0_ok an0 lp0 Tryd.func8 (by kernel_rfl) (by kernel_rfl) (lp0_ok (by kernel_rfl)) fun objs args x hx hp => ?_
  obtain ⟨n, ws⟩ := x
  obtain ⟨rfl, rfl⟩ := ds_ok hx
  dsimp only
  rw [e8]
  rfl
def anN : Ann := ⟨fun _ => 0, fun _ => 0, fun _ => [], true⟩
def q6 (n : Int) : Int := IntKind.i64.wrap ((IntKind.i64.wrap (IntKind.i64.wrap ((if n < 0 then 0 else n) + 64) - 1)).tdiv 64)
theorem e6 (n : Int) : (evFn X (fun (x : FuncId) => none) anN lp0 Tryd.f6 [] [TV.v (Value.int IntKind.i64 n)] fun (o : List (TO X.U)) (v : TV X.U) => some (o, v)) =
    if 0 ≤ q6 n ∧ q6 n = q6 n ∧ q6 n ≤ 9223372036854775807 ∧ ((8 : Nat) : Int) * q6 n ≤ 281474976710656 then
      some ([.cells [.v (.int .i64 (if n < 0 then 0 else n)), .full 1] false, .row .u64 (List.replicate (q6 n).toNat (0 : Int)) false], .ref 0 0 0)
    else none := by kernel_rfl
def dn (objs : List (TO U)) (args : List (TV U)) : Option (Int) := match objs, args with
  | [], [a0] =>
    match a0 with
    | .v (.int .i64 n) =>
      some n
    | _ => none
  | _, _ => none
theorem dn_ok {objs : List (TO U)} {args : List (TV U)} {n : Int} (h : dn objs args = some n) : objs = [] ∧ args = [.v (.int .i64 n)] := by
  unfold dn at h
  repeat' split at h
  all_goals first | (cases h; done) | (cases h; exact ⟨rfl, rfl⟩)
def zeros (n : Int) : List Int := List.replicate ((n + 63) / 64).toNat 0
def sNew : Spc U := .of dn (fun x => 0 ≤ x ∧ x ≤ 1000000) (fun x => obs x (zeros x)) fun x => .ref 0 0 0
theorem sNew_ok : SpecOk Tryd.prog 6 sNew := by
  refine fn_ok X_ok mixed E0_ok anN lp0 Tryd.func6 (by kernel_rfl) (by kernel_rfl) (lp0_ok (by kernel_rfl)) fun objs args x hx hp => ?_
  obtain ⟨rfl, rfl⟩ := dn_ok hx
  dsimp only at hp ⊢
  have e0 : (if x < 0 then 0 else x) = x := if_neg (by omega)
  have e1 : IntKind.i64.wrap (x + 64) = x + 64 := wrap_i64 (by omega) (by omega)
  have e2 : IntKind.i64.wrap (x + 64 - 1) = x + 63 := by rw [wrap_i64 (by omega) (by omega)]; omega
  have e3 : IntKind.i64.wrap ((x + 63).tdiv 64) = (x + 63) / 64 := quo_w _ (by omega) (by omega)
  have e4 : q6 x = (x + 63) / 64 := by unfold q6; rw [e0, e1, e2, e3]
  rw [e6, e4, e0, if_pos (by omega)]
  rfl
end Go.Proofs.YtcbbpidnocgoiaaDoor.Sv

/- Places: awake. -/
import Derived.Test.YtcbbpidnocgoiaaDoorSvE
import Derived.Test.YtcbbpidnocgoiaaDoorEvM
namespace Go.Proofs.YtcbbpidnocgoiaaDoor.Sv
open Go Go.RowKit Go.Proofs.YtcbbpidnocgoiaaDoor.Eng Go.Proofs.YtcbbpidnocgoiaaDoor.Pu
set_option linter.unusedVariables false
set_option linter.unusedSimpArgs false
set_option maxRecDepth 20000
noncomputable def E7 : FuncId → Option (Spc U)
  | 6 => some sNew
  | 9 => some sUse
  | 12 => some sFirst
  | 14 => some sLeft
  | _ => none
theorem E7_ok : ∀ f S, E7 f = some S → SpecOk Tryd.prog f S := fun f S h => by
  unfold E7 at h
  split at h
  · cases h; exact sNew_ok
  · cases h; exact sUse_ok
  · cases h; exact sFirst_ok
  · cases h; exact sLeft_ok
  · cases h
theorem e7 (u : Unit) : (evFn X E7 an0 lp0 Tryd.f7 [] [] fun (o : List (TO X.U)) (v : TV X.U) => some (o, v)) =
  some ([], TV.v (Value.bool true)) := by kernel_rfl
def d0 (objs : List (TO U)) (args : List (TV U)) : Option (Unit) := match objs, args with
  | [], [] =>
    some ()
  | _, _ => none
theorem d0_ok {objs : List (TO U)} {args : List (TV U)} (h : d0 objs args = some ()) : objs = [] ∧ args = [] := by
  unfold d0 at h
  repeat' split at h
  all_goals first | (cases h; done) | (cases h; exact ⟨rfl, rfl⟩)
def sAwake : Spc U := .of d0 (fun x => True) (fun x => []) fun x => .v (.bool true)
theorem sAwake_ok : SpecOk Tryd.prog 7 sAwake := by
  refine fn_ok X_ok mixed E7_ok an0 lp0 Tryd.func7 (by kernel_rfl) (by kernel_rfl) (lp0_ok (by kernel_rfl)) fun objs args x hx hp => ?_
  obtain ⟨rfl, rfl⟩ := d0_ok hx
  exact e7 ()
noncomputable def E3 : FuncId → Option (Spc U)
  | 6 => some sNew
  | 7 => some sAwake
  | 8 => some sMany
  | 9 => some sUse
  | 10 => some sFree
  | 11 => some sUsed
  | 12 => some sFirst
  | 13 => some sfirst
  | 14 => some sLeft
  | _ => none
theorem E3_ok : ∀ f S, E3 f = some S → SpecOk Tryd.prog f S := fun f S h => by
  unfold E3 at h
  split at h
  · cases h; exact sNew_ok
  · cases h; exact sAwake_ok
  · cases h; exact sMany_ok
  · cases h; exact sUse_ok
  · cases h; exact sFree_ok
  · cases h; exact sUsed_ok
  · cases h; exact sFirst_ok
  · cases h; exact sfirst_ok
  · cases h; exact sLeft_ok
  · cases h
def an3 : Ann := ⟨fun | 0 => 482 | 3 => 12512 | 1006 => 34359738850 | 1007 => 482 | 1008 => 994 | 1009 => 2018 | 1010 => 2018 | 1011 => 4066 | 1012 => 2305843009213698018 | 1014 => 4611686018427389922 | 1015 => 4066 | 1016 => 4835703278458516698828770 | 1018 => 9671406556917033397651426 | 1019 => 2018 | 1020 => 5192296858534827628530496329220578 | 1025 => 12512 | 1026 => 5316911983139663491615228241121390816 | 1027 => 12512 | _ => 0, fun | 0 => 240 | 3 => 4176 | _ => 0, fun _ => [], false⟩
noncomputable def B0 : Code := loopAt Tryd.f3 0
noncomputable def BB : Code := bB (sL (sR B0))
def ob3 (n : Int) (ws : List Int) (us : List Bool) : List (TO U) := [.cells [.v (.int .i64 n), .full 1] false, .row .u64 ws false, .row .bool us false]
def t0 (n : Int) (ws : List Int) (us : List Bool) (acts : List R29) (i : Int) : TS U := mkS 129 [(1, .lst .t29 acts), (5, .v (.int .i64 n)), (6, .ref 0 0 0), (7, .full 2), (8, .v (.int .i64 i))] (ob3 n ws us) 0
def t1 (n : Int) (ws : List Int) (us : List Bool) (acts : List R29) (i : Int) : TS U := mkS 129 [(1, .lst .t29 acts), (5, .v (.int .i64 n)), (6, .ref 0 0 0), (7, .full 2), (8, .v (.int .i64 i)), (35, .v (.bool true))] (ob3 n ws us) 0
def t2 (n : Int) (ws : List Int) (us : List Bool) (acts : List R29) (i at' : Int) : TS U := mkS 129 [(1, .lst .t29 acts), (5, .v (.int .i64 n)), (6, .ref 0 0 0), (7, .full 2), (8, .v (.int .i64 i)), (9, .v (.int .i64 at'))] (ob3 n ws us) 0
def t3 (n : Int) (ws : List Int) (us : List Bool) (acts : List R29) (i at' : Int) (b : Bool) : TS U := mkS 129 [(1, .lst .t29 acts), (5, .v (.int .i64 n)), (6, .ref 0 0 0), (7, .full 2), (8, .v (.int .i64 i)), (9, .v (.int .i64 at')), (10, .v (.bool b))] (ob3 n ws us) 0
def t4 (n : Int) (ws : List Int) (us : List Bool) (acts : List R29) (i at' : Int) (b w : Bool) : TS U := mkS 129 [(1, .lst .t29 acts), (5, .v (.int .i64 n)), (6, .ref 0 0 0), (7, .full 2), (8, .v (.int .i64 i)), (9, .v (.int .i64 at')), (10, .v (.bool b)), (11, .v (.bool w))] (ob3 n ws us) 0
theorem p1 (R : Type) (lp : Lp
  U) (K : Exit →
  TS U →
    Option
      R) (n : Int) (acts : List
  R29) (ws : List Int) (us : List Bool) (i : Int) : (evC X E3 an3 lp (sL B0) 0 (t0 n ws us acts i) K) =
  bif decide (i < ↑acts.length) then
  bif decide (i < 200) then
    K Exit.normal
      (mkS 129
        [(1, TV.lst C.t29 acts), (5, TV.v (Value.int IntKind.i64 n)), (6, TV.ref 0 0 0), (7, TV.full 2),
          (8, TV.v (Value.int IntKind.i64 i)), (35, TV.v (Value.bool true))]
        [TO.cells [TV.v (Value.int IntKind.i64 n), TV.full 1] false, TO.row C.u64 ws false, TO.row C.bool us false] 0)
  else
    K (Exit.exit 0)
      (mkS 129
        [(1, TV.lst C.t29 acts), (5, TV.v (Value.int IntKind.i64 n)), (6, TV.ref 0 0 0), (7, TV.full 2),
          (8, TV.v (Value.int IntKind.i64 i)), (35, TV.v (Value.bool false))]
        [TO.cells [TV.v (Value.int IntKind.i64 n), TV.full 1] false, TO.row C.u64 ws false, TO.row C.bool us false] 0)
else
  K (Exit.exit 0)
    (mkS 129
      [(1, TV.lst C.t29 acts), (5, TV.v (Value.int IntKind.i64 n)), (6, TV.ref 0 0 0), (7, TV.full 2),
        (8, TV.v (Value.int IntKind.i64 i)), (35, TV.v (Value.bool false))]
      [TO.cells [TV.v (Value.int IntKind.i64 n), TV.full 1] false, TO.row C.u64 ws false, TO.row C.bool us false]
      0) := by kernel_rfl
theorem p2 (R : Type) (lp : Lp
  U) (K : Exit →
  TS U →
    Option
      R) (n : Int) (acts : List
  R29) (ws : List Int) (us : List Bool) (i : Int) : (evC X E3 an3 lp (sL BB) 1 (t1 n ws us acts i) K) =
  (getI acts i).bind fun (z : X.U.T C.t29) =>
  K Exit.normal
    (mkS 129
      [(1, TV.lst C.t29 acts), (5, TV.v (Value.int IntKind.i64 n)), (6, TV.ref 0 0 0), (7, TV.full 2),
        (8, TV.v (Value.int IntKind.i64 i)), (9, TV.v (Value.int IntKind.i64 z.At))]
      [TO.cells [TV.v (Value.int IntKind.i64 n), TV.full 1] false, TO.row C.u64 ws false, TO.row C.bool us false]
      0) := by kernel_rfl
theorem p3 (R : Type) (lp : Lp
  U) (K : Exit →
  TS U →
    Option
      R) (n : Int) (acts : List
  R29) (ws : List
  Int) (us : List Bool) (i : Int) (at' : Int) : (evC X E3 an3 lp (sL (sR BB)) 1 (t2 n ws us acts i at') K) =
  bif decide (0 ≤ at') then
  K Exit.normal
    (mkS 129
      [(1, TV.lst C.t29 acts), (5, TV.v (Value.int IntKind.i64 n)), (6, TV.ref 0 0 0), (7, TV.full 2),
        (8, TV.v (Value.int IntKind.i64 i)), (9, TV.v (Value.int IntKind.i64 at')),
        (10, TV.v (Value.bool (decide (at' < n))))]
      [TO.cells [TV.v (Value.int IntKind.i64 n), TV.full 1] false, TO.row C.u64 ws false, TO.row C.bool us false] 0)
else
  K Exit.normal
    (mkS 129
      [(1, TV.lst C.t29 acts), (5, TV.v (Value.int IntKind.i64 n)), (6, TV.ref 0 0 0), (7, TV.full 2),
        (8, TV.v (Value.int IntKind.i64 i)), (9, TV.v (Value.int IntKind.i64 at')), (10, TV.v (Value.bool false))]
      [TO.cells [TV.v (Value.int IntKind.i64 n), TV.full 1] false, TO.row C.u64 ws false, TO.row C.bool us false]
      0) := by kernel_rfl
theorem p4 (R : Type) (lp : Lp
  U) (K : Exit →
  TS U →
    Option
      R) (n : Int) (acts : List
  R29) (ws : List
  Int) (us : List
  Bool) (i : Int) (at' : Int) (b : Bool) : (evC X E3 an3 lp (sL (sR (sR BB))) 1 (t3 n ws us acts i at' b) K) =
  K Exit.normal
  (mkS 129
    [(1, TV.lst C.t29 acts), (5, TV.v (Value.int IntKind.i64 n)), (6, TV.ref 0 0 0), (7, TV.full 2),
      (8, TV.v (Value.int IntKind.i64 i)), (9, TV.v (Value.int IntKind.i64 at')), (10, TV.v (Value.bool b))]
    [TO.cells [TV.v (Value.int IntKind.i64 n), TV.full 1] false, TO.row C.u64 ws false, TO.row C.bool us false]
    0) := by kernel_rfl
noncomputable def SW : Code := bB (sL (sR (sR (sR BB))))
theorem p50 (R : Type) (lp : Lp
  U) (K : Exit →
  TS U →
    Option
      R) (n : Int) (acts : List
  R29) (ws : List
  Int) (us : List Bool) (i : Int) (at' : Int) (b : Bool) : (evC X E3 an3 lp (sL SW) 2 (t3 n ws us acts i at' b) K) =
  (getI acts i).bind fun (z : X.U.T C.t29) =>
  K Exit.normal
    (mkS 129
      [(1, TV.lst C.t29 acts), (5, TV.v (Value.int IntKind.i64 n)), (6, TV.ref 0 0 0), (7, TV.full 2),
        (8, TV.v (Value.int IntKind.i64 i)), (9, TV.v (Value.int IntKind.i64 at')), (10, TV.v (Value.bool b)),
        (62,
          TV.v
            (Value.bool
              (decide
                (IntKind.i64.wrap ↑(BitVec.ofInt IntKind.i64.bits z.What &&& BitVec.ofInt IntKind.i64.bits 1).toNat =
                  0))))]
      [TO.cells [TV.v (Value.int IntKind.i64 n), TV.full 1] false, TO.row C.u64 ws false, TO.row C.bool us false]
      0) := by kernel_rfl
theorem p51 (R : Type) (lp : Lp
  U) (K : Exit →
  TS U →
    Option
      R) (n : Int) (acts : List
  R29) (ws : List
  Int) (us : List
  Bool) (i : Int) (at' : Int) (b : Bool) : (evC X E3 an3 lp (sL (cT (sR SW))) 2 (t3 n ws us acts i at' b) K) =
  bif b then
  if 0 ≤ at' ∧ at' < ↑us.length then
    us[at'.toNat]?.bind fun (y : X.U.T C.bool) =>
      K Exit.normal
        (mkS 129
          [(1, TV.lst C.t29 acts), (5, TV.v (Value.int IntKind.i64 n)), (6, TV.ref 0 0 0), (7, TV.full 2),
            (8, TV.v (Value.int IntKind.i64 i)), (9, TV.v (Value.int IntKind.i64 at')), (10, TV.v (Value.bool b)),
            (11, TV.v (Value.bool !y))]
          [TO.cells [TV.v (Value.int IntKind.i64 n), TV.full 1] false, TO.row C.u64 ws false, TO.row C.bool us false] 0)
  else none
else
  K Exit.normal
    (mkS 129
      [(1, TV.lst C.t29 acts), (5, TV.v (Value.int IntKind.i64 n)), (6, TV.ref 0 0 0), (7, TV.full 2),
        (8, TV.v (Value.int IntKind.i64 i)), (9, TV.v (Value.int IntKind.i64 at')), (10, TV.v (Value.bool b)),
        (11, TV.v (Value.bool false))]
      [TO.cells [TV.v (Value.int IntKind.i64 n), TV.full 1] false, TO.row C.u64 ws false, TO.row C.bool us false]
      0) := by kernel_rfl
theorem p6 (R : Type) (lp : Lp
  U) (K : Exit →
  TS U →
    Option
      R) (n : Int) (acts : List
  R29) (ws : List
  Int) (us : List
  Bool) (i : Int) (at' : Int) (b : Bool) (w : Bool) : (evC X E3 an3 lp (sL (sR (sR (sR (sR BB))))) 1
  (t4 n ws us acts i at' b w) K) =
  bif w then
  if 0 ≤ at' ∧ at' < ↑us.length then
    us[at'.toNat]?.bind fun (y : X.U.T C.bool) =>
      if 0 ≤ at' ∧ at' < ↑us.length then
        us[at'.toNat]?.bind fun (z : X.U.T C.bool) =>
          K Exit.normal
            (mkS 129
              [(1, TV.lst C.t29 acts), (5, TV.v (Value.int IntKind.i64 n)), (6, TV.ref 0 0 0), (7, TV.full 2),
                (8, TV.v (Value.int IntKind.i64 i)), (9, TV.v (Value.int IntKind.i64 at')), (10, TV.v (Value.bool b))]
              [TO.cells [TV.v (Value.int IntKind.i64 n), TV.full 1] false, TO.row C.u64 ws false,
                TO.row C.bool (us.set at'.toNat !y) false]
              0)
      else none
  else none
else
  K Exit.normal
    (mkS 129
      [(1, TV.lst C.t29 acts), (5, TV.v (Value.int IntKind.i64 n)), (6, TV.ref 0 0 0), (7, TV.full 2),
        (8, TV.v (Value.int IntKind.i64 i)), (9, TV.v (Value.int IntKind.i64 at')), (10, TV.v (Value.bool b)),
        (83, TV.v (Value.bool false))]
      [TO.cells [TV.v (Value.int IntKind.i64 n), TV.full 1] false, TO.row C.u64 ws false, TO.row C.bool us false]
      0) := by kernel_rfl
theorem p53 (R : Type) (lp : Lp
  U) (K : Exit →
  TS U →
    Option
      R) (n : Int) (acts : List
  R29) (ws : List
  Int) (us : List
  Bool) (i : Int) (at' : Int) (b : Bool) : (evC X E3 an3 lp (sL (cF (sR SW))) 2 (t3 n ws us acts i at' b) K) =
  bif b then
  if 0 ≤ at' ∧ at' < ↑us.length then
    us[at'.toNat]?.bind fun (y : X.U.T C.bool) =>
      K Exit.normal
        (mkS 129
          [(1, TV.lst C.t29 acts), (5, TV.v (Value.int IntKind.i64 n)), (6, TV.ref 0 0 0), (7, TV.full 2),
            (8, TV.v (Value.int IntKind.i64 i)), (9, TV.v (Value.int IntKind.i64 at')), (10, TV.v (Value.bool b)),
            (11, TV.v (Value.bool y))]
          [TO.cells [TV.v (Value.int IntKind.i64 n), TV.full 1] false, TO.row C.u64 ws false, TO.row C.bool us false] 0)
  else none
else
  K Exit.normal
    (mkS 129
      [(1, TV.lst C.t29 acts), (5, TV.v (Value.int IntKind.i64 n)), (6, TV.ref 0 0 0), (7, TV.full 2),
        (8, TV.v (Value.int IntKind.i64 i)), (9, TV.v (Value.int IntKind.i64 at')), (10, TV.v (Value.bool b)),
        (11, TV.v (Value.bool false))]
      [TO.cells [TV.v (Value.int IntKind.i64 n), TV.full 1] false, TO.row C.u64 ws false, TO.row C.bool us false]
      0) := by kernel_rfl
theorem p8 (R : Type) (lp : Lp
  U) (K : Exit →
  TS U →
    Option
      R) (n : Int) (acts : List
  R29) (ws : List Int) (us : List Bool) (i : Int) : (evC X E3 an3 lp (sR (sR B0)) 0 (t0 n ws us acts i) K) =
  K Exit.normal
  (mkS 129
    [(1, TV.lst C.t29 acts), (5, TV.v (Value.int IntKind.i64 n)), (6, TV.ref 0 0 0), (7, TV.full 2),
      (8, TV.v (Value.int IntKind.i64 (IntKind.i64.wrap (i + 1))))]
    [TO.cells [TV.v (Value.int IntKind.i64 n), TV.full 1] false, TO.row C.u64 ws false, TO.row C.bool us false]
    0) := by kernel_rfl
end Go.Proofs.YtcbbpidnocgoiaaDoor.Sv

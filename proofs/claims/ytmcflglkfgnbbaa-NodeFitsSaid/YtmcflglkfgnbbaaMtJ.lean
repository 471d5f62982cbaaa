/- Texts of this claim, put together: part 10. -/
import Derived.Test.YtmcflglkfgnbbaaMtI
/- Parts of a node, and two joined. -/
namespace Go.Proofs.Ytmcflglkfgnbbaa.Nd
open Go Go.RowKit Go.Proofs.Ytmcflglkfgnbbaa.Eng
set_option linter.unusedVariables false
set_option linter.unusedSimpArgs false
set_option maxRecDepth 20000
set_option pp.fieldNotation false
def cI (l : List Int) : List Int := l.headD 0 :: l.tail
theorem cI_eq {l : List Int} (h : 0 < l.length) : cI l = l := by cases l with
  | nil => simp at h
  | cons => rfl
/-! ### A copy that nobody writes -/
theorem e10f (n : R29) : evFn X Ec an0 lp0 Try.f10 [] [ndV n] (fun o v => some (o, v)) =
    if Sn n.Keys.length then if Sn n.Vals.length then if Sn n.Kids.length then some ([], ndV n) else none else none else none := by
  obtain ⟨b, k, v, i⟩ := n
  cases k <;> cases v <;> cases i <;> kernel_rfl
/-- Of so many elements at least one. -/
def Sp (n : Nat) : Prop := 0 < n ∧ n ≤ 1000000
instance (n : Nat) : Decidable (Sp n) := by unfold Sp; infer_instance
def Sp2 (n m : Nat) : Prop := Sp n ∧ Sp m
instance (n m : Nat) : Decidable (Sp2 n m) := by unfold Sp2; infer_instance
theorem nvL_S {l : List ByteArray} (h : 0 < l.length) : (nvL .str l) = .lst .str l := by cases l with
  | nil => simp at h
  | cons => rfl
theorem nvL_V {l : List R33} (h : 0 < l.length) : (nvL .t33 l) = .lst .t33 l := by cases l with
  | nil => simp at h
  | cons => rfl
theorem nvL_I {l : List Int} (h : 0 < l.length) : (nvL .i64 l) = .lst .i64 l := by cases l with
  | nil => simp at h
  | cons => rfl
def dCl (objs : List (TO U)) (args : List (TV U)) : Option (Bool × List ByteArray × List R33) := match objs, args with
  | [], [a0] =>
    match a0 with
    | .agg [q0, q1, q2, q3] =>
      match q0 with
      | .v (.bool b) =>
        match q1 with
        | .lst .str ks =>
          match q2 with
          | .lst .t33 vs =>
            match q3 with
            | .v (.slice none 0 0) =>
              some (b, ks, vs)
            | _ => none
          | _ => none
        | _ => none
      | _ => none
    | _ => none
  | _, _ => none
theorem dCl_ok {objs : List (TO U)} {args : List (TV U)} {b : Bool} {ks : List ByteArray} {vs : List R33} (h : dCl objs args = some (b, ks, vs)) : objs = [] ∧ args = [.agg [.v (.bool b), .lst .str ks, .lst .t33 vs, .v (.slice none 0 0)]] := by
  unfold dCl at h
  repeat' split at h
  all_goals first | (cases h; done) | (cases h; exact ⟨rfl, rfl⟩)
def dCi (objs : List (TO U)) (args : List (TV U)) : Option (Bool × List ByteArray × List Int) := match objs, args with
  | [], [a0] =>
    match a0 with
    | .agg [q0, q1, q2, q3] =>
      match q0 with
      | .v (.bool b) =>
        match q1 with
        | .lst .str ks =>
          match q2 with
          | .v (.slice none 0 0) =>
            match q3 with
            | .lst .i64 ki =>
              some (b, ks, ki)
            | _ => none
          | _ => none
        | _ => none
      | _ => none
    | _ => none
  | _, _ => none
theorem dCi_ok {objs : List (TO U)} {args : List (TV U)} {b : Bool} {ks : List ByteArray} {ki : List Int} (h : dCi objs args = some (b, ks, ki)) : objs = [] ∧ args = [.agg [.v (.bool b), .lst .str ks, .v (.slice none 0 0), .lst .i64 ki]] := by
  unfold dCi at h
  repeat' split at h
  all_goals first | (cases h; done) | (cases h; exact ⟨rfl, rfl⟩)
def sCopL : Spc U := .of dCl (fun (b, ks, vs) => Sp2 ks.length vs.length) (fun _ => []) fun (b, ks, vs) => .agg [.v (.bool b), .lst .str (cS ks), .lst .t33 (cV vs), nlv]
theorem sCopL_ok : SpecOk Try.prog 10 sCopL := by
  refine fn_ok X_ok mixed Ec_ok an0 lp0 Try.func10 (by kernel_rfl) (by kernel_rfl) (lp0_ok (by kernel_rfl)) fun objs args x hx hp => ?_
  obtain ⟨b, ks, vs⟩ := x
  obtain ⟨rfl, rfl⟩ := dCl_ok hx
  obtain ⟨⟨h1, h2⟩, h3, h4⟩ := hp
  have e := e10f ⟨b, ks, vs, []⟩
  unfold ndV at e
  dsimp only at e h1 h2 h3 h4
  rw [nvL_S h1, nvL_V h3] at e
  refine e.trans ?_
  rw [if_pos (show Sn ks.length by unfold Sn; omega), if_pos (show Sn vs.length by unfold Sn; omega), if_pos (show Sn ([] : List Int).length by unfold Sn; simp)]
  dsimp only
  rw [cS_eq h1, cV_eq h3]
  rfl
def sCopI : Spc U := .of dCi (fun (b, ks, ki) => Sp2 ks.length ki.length) (fun _ => []) fun (b, ks, ki) => .agg [.v (.bool b), .lst .str (cS ks), nlv, .lst .i64 (cI ki)]
theorem sCopI_ok : SpecOk Try.prog 10 sCopI := by
  refine fn_ok X_ok mixed Ec_ok an0 lp0 Try.func10 (by kernel_rfl) (by kernel_rfl) (lp0_ok (by kernel_rfl)) fun objs args x hx hp => ?_
  obtain ⟨b, ks, ki⟩ := x
  obtain ⟨rfl, rfl⟩ := dCi_ok hx
  obtain ⟨⟨h1, h2⟩, h3, h4⟩ := hp
  have e := e10f ⟨b, ks, [], ki⟩
  unfold ndV at e
  dsimp only at e h1 h2 h3 h4
  rw [nvL_S h1, nvL_I h3] at e
  refine e.trans ?_
  rw [if_pos (show Sn ks.length by unfold Sn; omega), if_pos (show Sn ([] : List R33).length by unfold Sn; simp), if_pos (show Sn ki.length by unfold Sn; omega)]
  dsimp only
  rw [cS_eq h1, cI_eq h3]
  rfl
noncomputable def E20 (C : Spc U) : FuncId → Option (Spc U)
  | 10 => some C
  | 19 => some sPut
  | 49 => some sMid
  | 50 => some sSzs
  | _ => none
theorem E20_ok {C : Spc U} (hC : SpecOk Try.prog 10 C) : ∀ f S, E20 C f = some S → SpecOk Try.prog f S := fun f S h => by
  unfold E20 at h
  split at h
  · cases h; exact hC
  · cases h; exact sPut_ok
  · cases h; exact sMid_ok
  · cases h; exact sSzs_ok
  · cases h
noncomputable def E23 : FuncId → Option (Spc U)
  | 10 => some sCopy
  | _ => none
theorem e20n (L : Bool) (ki : List
  Int) : (evFn X (E20 sCopL) an0 lp0 Try.f20 [] [TV.agg [TV.v (Value.bool L), nlv, nlv, TV.lst C.i64 (cI ki)]]
  fun (o : List (TO (Cx.U X))) (v : TV (Cx.U X)) => some (o, v)) =
  if N3.Ok { L := L, K := [], V := [], I := cI ki } then
  bif decide ((↑(ByteArray.size (N3.put { L := L, K := [], V := [], I := cI ki })) : Int) ≤ 237) then
    some
      ([],
        TV.tup
          [@TV.lst U C.t29 [{ Leaf := L, Keys := [], Vals := [], Kids := List.headD ki 0 :: List.tail ki }],
            TV.v (Value.string (⟨#[]⟩ : ByteArray))])
  else
    bif L then
      if N3.Ok { L := L, K := [], V := [], I := cI ki } then
        if P49 (N3.szs { L := L, K := [], V := [], I := cI ki }) 0 then none else none
      else none
    else
      if N3.Ok { L := L, K := [], V := [], I := cI ki } then
        if P49 (N3.szs { L := L, K := [], V := [], I := cI ki }) 1 then none else none
      else none
else none := by kernel_rfl
theorem e20m (L : Bool) : (evFn X (E20 sCopL) an0 lp0 Try.f20 [] [TV.agg [TV.v (Value.bool L), nlv, nlv, nlv]]
  fun (o : List (TO (Cx.U X))) (v : TV (Cx.U X)) => some (o, v)) =
  if N3.Ok { L := L, K := [], V := [], I := [] } then
  bif decide ((↑(ByteArray.size (N3.put { L := L, K := [], V := [], I := [] })) : Int) ≤ 237) then
    some
      ([],
        TV.tup [@TV.lst U C.t29 [{ Leaf := L, Keys := [], Vals := [], Kids := [] }], TV.v (Value.string (⟨#[]⟩ : ByteArray))])
  else
    bif L then
      if N3.Ok { L := L, K := [], V := [], I := [] } then
        if P49 (N3.szs { L := L, K := [], V := [], I := [] }) 0 then none else none
      else none
    else
      if N3.Ok { L := L, K := [], V := [], I := [] } then
        if P49 (N3.szs { L := L, K := [], V := [], I := [] }) 1 then none else none
      else none
else none := by kernel_rfl
theorem e20l (ks : List
  ByteArray) (vs : List
  R33) : (evFn X (E20 sCopL) an0 lp0 Try.f20 []
  [TV.agg [TV.v (Value.bool true), TV.lst C.str (cS ks), TV.lst C.t33 (cV vs), nlv]]
  fun (o : List (TO (Cx.U X))) (v : TV (Cx.U X)) => some (o, v)) =
  if N3.Ok { L := true, K := cS ks, V := cV vs, I := [] } then
  bif decide ((↑(ByteArray.size (N3.put { L := true, K := cS ks, V := cV vs, I := [] })) : Int) ≤ 237) then
    some
      ([],
        TV.tup
          [@TV.lst U C.t29
              [{ Leaf := true, Keys := List.headD ks (⟨#[]⟩ : ByteArray) :: List.tail ks,
                  Vals := List.headD vs { Data := (⟨#[]⟩ : ByteArray), Page := 0, Len := 0 } :: List.tail vs, Kids := [] }],
            TV.v (Value.string (⟨#[]⟩ : ByteArray))])
  else
    if N3.Ok { L := true, K := cS ks, V := cV vs, I := [] } then
      if P49 (N3.szs { L := true, K := cS ks, V := cV vs, I := [] }) 0 then
        Option.bind (cutI (cS ks) none (some (atM (N3.szs { L := true, K := cS ks, V := cV vs, I := [] }) 0)))
          fun (ys : List (Univ.T (Cx.U X) C.str)) =>
          Option.bind (cutI (cV vs) none (some (atM (N3.szs { L := true, K := cS ks, V := cV vs, I := [] }) 0)))
            fun (ys_1 : List (Univ.T (Cx.U X) C.t33)) =>
            Option.bind (cutI (cS ks) (some (atM (N3.szs { L := true, K := cS ks, V := cV vs, I := [] }) 0)) none)
              fun (ys_2 : List (Univ.T (Cx.U X) C.str)) =>
              Option.bind (cutI (cV vs) (some (atM (N3.szs { L := true, K := cS ks, V := cV vs, I := [] }) 0)) none)
                fun (ys_3 : List (Univ.T (Cx.U X) C.t33)) =>
                if Sp2 (List.length ys) (List.length ys_1) then
                  if Sp2 (List.length ys_2) (List.length ys_3) then
                    Option.bind (getI (cS ks) (atM (N3.szs { L := true, K := cS ks, V := cV vs, I := [] }) 0))
                      fun (z : Univ.T (Cx.U X) C.str) =>
                      some
                        ([],
                          TV.tup
                            [@TV.lst U C.t29
                                [{ Leaf := true, Keys := List.headD ys (⟨#[]⟩ : ByteArray) :: List.tail ys,
                                    Vals :=
                                      List.headD ys_1 { Data := (⟨#[]⟩ : ByteArray), Page := 0, Len := 0 } ::
                                        List.tail ys_1,
                                    Kids := [] },
                                  { Leaf := true, Keys := List.headD ys_2 (⟨#[]⟩ : ByteArray) :: List.tail ys_2,
                                    Vals :=
                                      List.headD ys_3 { Data := (⟨#[]⟩ : ByteArray), Page := 0, Len := 0 } ::
                                        List.tail ys_3,
                                    Kids := [] }],
                              TV.v (Value.string z)])
                  else none
                else none
      else none
    else none
else none := by kernel_rfl
theorem e20i (ks : List
  ByteArray) (ki : List
  Int) : (evFn X (E20 sCopI) an0 lp0 Try.f20 []
  [TV.agg [TV.v (Value.bool false), TV.lst C.str (cS ks), nlv, TV.lst C.i64 (cI ki)]]
  fun (o : List (TO (Cx.U X))) (v : TV (Cx.U X)) => some (o, v)) =
  if N3.Ok { L := false, K := cS ks, V := [], I := cI ki } then
  bif decide ((↑(ByteArray.size (N3.put { L := false, K := cS ks, V := [], I := cI ki })) : Int) ≤ 237) then
    some
      ([],
        TV.tup
          [@TV.lst U C.t29
              [{ Leaf := false, Keys := List.headD ks (⟨#[]⟩ : ByteArray) :: List.tail ks, Vals := [],
                  Kids := List.headD ki 0 :: List.tail ki }],
            TV.v (Value.string (⟨#[]⟩ : ByteArray))])
  else
    if N3.Ok { L := false, K := cS ks, V := [], I := cI ki } then
      if P49 (N3.szs { L := false, K := cS ks, V := [], I := cI ki }) 1 then
        Option.bind (cutI (cS ks) none (some (atM (N3.szs { L := false, K := cS ks, V := [], I := cI ki }) 1)))
          fun (ys : List (Univ.T (Cx.U X) C.str)) =>
          Option.bind
            (cutI (cI ki) none
              (some (IntKind.wrap IntKind.i64 (atM (N3.szs { L := false, K := cS ks, V := [], I := cI ki }) 1 + 1))))
            fun (ys_1 : List (Univ.T (Cx.U X) C.i64)) =>
            Option.bind
              (cutI (cS ks)
                (some (IntKind.wrap IntKind.i64 (atM (N3.szs { L := false, K := cS ks, V := [], I := cI ki }) 1 + 1)))
                none)
              fun (ys_2 : List (Univ.T (Cx.U X) C.str)) =>
              Option.bind
                (cutI (cI ki)
                  (some (IntKind.wrap IntKind.i64 (atM (N3.szs { L := false, K := cS ks, V := [], I := cI ki }) 1 + 1)))
                  none)
                fun (ys_3 : List (Univ.T (Cx.U X) C.i64)) =>
                if Sp2 (List.length ys) (List.length ys_1) then
                  if Sp2 (List.length ys_2) (List.length ys_3) then
                    Option.bind (getI (cS ks) (atM (N3.szs { L := false, K := cS ks, V := [], I := cI ki }) 1))
                      fun (z : Univ.T (Cx.U X) C.str) =>
                      some
                        ([],
                          TV.tup
                            [@TV.lst U C.t29
                                [{ Leaf := false, Keys := List.headD ys (⟨#[]⟩ : ByteArray) :: List.tail ys, Vals := [],
                                    Kids := List.headD ys_1 0 :: List.tail ys_1 },
                                  { Leaf := false, Keys := List.headD ys_2 (⟨#[]⟩ : ByteArray) :: List.tail ys_2,
                                    Vals := [], Kids := List.headD ys_3 0 :: List.tail ys_3 }],
                              TV.v (Value.string z)])
                  else none
                else none
      else none
    else none
else none := by kernel_rfl
theorem e23l (k1 : List
  ByteArray) (k2 : List
  ByteArray) (v1 : List
  R33) (v2 : List
  R33) (z : ByteArray) : (evFn X E23 an0 lp0 Try.f23 []
  [TV.agg [TV.v (Value.bool true), TV.lst C.str (cS k1), TV.lst C.t33 (cV v1), nlv], TV.v (Value.string z),
    TV.agg [TV.v (Value.bool true), TV.lst C.str (cS k2), TV.lst C.t33 (cV v2), nlv]]
  fun (o : List (TO (Cx.U X))) (v : TV (Cx.U X)) => some (o, v)) =
  if
    PreNd
      { Leaf := true, Keys := List.headD k1 (⟨#[]⟩ : ByteArray) :: List.tail k1,
        Vals := List.headD v1 { Data := (⟨#[]⟩ : ByteArray), Page := 0, Len := 0 } :: List.tail v1, Kids := [] } then
  if (List.length (List.headD k1 (⟨#[]⟩ : ByteArray) :: List.tail k1) + List.length (cS k2)) * 16 ≤ 140737488355328 then
    if
        (List.length (List.headD v1 { Data := (⟨#[]⟩ : ByteArray), Page := 0, Len := 0 } :: List.tail v1) +
              List.length (cV v2)) *
            32 ≤
          140737488355328 then
      some
        ([],
          TV.agg
            [TV.v (Value.bool true), TV.lst C.str (List.headD k1 (⟨#[]⟩ : ByteArray) :: List.tail k1 ++ cS k2),
              TV.lst C.t33 (List.headD v1 { Data := (⟨#[]⟩ : ByteArray), Page := 0, Len := 0 } :: List.tail v1 ++ cV v2),
              TV.v (Value.slice none 0 0)])
    else none
  else none
else none := by kernel_rfl
theorem e23i (k1 : List
  ByteArray) (k2 : List
  ByteArray) (i1 : List
  Int) (i2 : List
  Int) (z : ByteArray) : (evFn X E23 an0 lp0 Try.f23 []
  [TV.agg [TV.v (Value.bool false), TV.lst C.str (cS k1), nlv, TV.lst C.i64 (cI i1)], TV.v (Value.string z),
    TV.agg [TV.v (Value.bool false), TV.lst C.str (cS k2), nlv, TV.lst C.i64 (cI i2)]]
  fun (o : List (TO (Cx.U X))) (v : TV (Cx.U X)) => some (o, v)) =
  if
    PreNd
      { Leaf := false, Keys := List.headD k1 (⟨#[]⟩ : ByteArray) :: List.tail k1, Vals := [],
        Kids := List.headD i1 0 :: List.tail i1 } then
  if (List.length (List.headD k1 (⟨#[]⟩ : ByteArray) :: List.tail k1) + 1) * 16 ≤ 140737488355328 then
    if
        (List.length (List.headD k1 (⟨#[]⟩ : ByteArray) :: List.tail k1 ++ [z]) + List.length (cS k2)) * 16 ≤
          140737488355328 then
      if (List.length (List.headD i1 0 :: List.tail i1) + List.length (cI i2)) * 8 ≤ 140737488355328 then
        some
          ([],
            TV.agg
              [TV.v (Value.bool false), TV.lst C.str (List.headD k1 (⟨#[]⟩ : ByteArray) :: List.tail k1 ++ [z] ++ cS k2),
                TV.v (Value.slice none 0 0), TV.lst C.i64 (List.headD i1 0 :: List.tail i1 ++ cI i2)])
      else none
    else none
  else none
else none := by kernel_rfl
end Go.Proofs.Ytmcflglkfgnbbaa.Nd


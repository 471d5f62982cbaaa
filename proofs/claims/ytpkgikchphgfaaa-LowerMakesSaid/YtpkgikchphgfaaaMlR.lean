/- Texts of this claim, put together: part 18. -/
import Derived.Test.YtpkgikchphgfaaaMlQ
/- Programs as bytes: the same? -/
namespace Go.Proofs.Ytpkgikchphgfaaa.Ic
open Go Go.RowKit Go.Proofs.Ytpkgikchphgfaaa.Eng Go.Proofs.Ytpkgikchphgfaaa.Fl
set_option linter.unusedVariables false
set_option linter.unusedSimpArgs false
set_option maxRecDepth 20000
def an20 : Ann := ⟨fun | 0 => 44 | 2 => 268 | _ => 0, fun | 0 => 28 | 2 => 16 | _ => 0, fun _ => [], false⟩
def Ic : FuncId → Option (Spc U)
  | 13 => some sInts
  | 40 => some sPut
  | _ => none
theorem Ic_ok : ∀ f S, Ic f = some S → SpecOk Try.prog f S := fun f S h => by
  unfold Ic at h
  split at h
  · cases h; exact sInts_ok
  · cases h; exact sPut_ok
  · cases h
def dII (objs : List (TO U)) (args : List (TV U)) : Option (IRs × IRs) := match objs, args with
  | [], [a0, a1] =>
    match a0 with
    | .agg [q0, q1, q2, q3, q4, q5] =>
      match q0 with
      | .lst .i64 a_G =>
        match q1 with
        | .lst .i64 a_F =>
          match q2 with
          | .lst .i64 a_V =>
            match q3 with
            | .lst .t69 a_Fs =>
              match q4 with
              | .lst .t65 a_C =>
                match q5 with
                | .v (.int .i64 a_Main) =>
                  match a1 with
                  | .agg [q6, q7, q8, q9, q10, q11] =>
                    match q6 with
                    | .lst .i64 b_G =>
                      match q7 with
                      | .lst .i64 b_F =>
                        match q8 with
                        | .lst .i64 b_V =>
                          match q9 with
                          | .lst .t69 b_Fs =>
                            match q10 with
                            | .lst .t65 b_C =>
                              match q11 with
                              | .v (.int .i64 b_Main) =>
                                some ((⟨a_G, a_F, a_V, a_Fs, a_C, a_Main⟩ : IRs), (⟨b_G, b_F, b_V, b_Fs, b_C, b_Main⟩ : IRs))
                              | _ => none
                            | _ => none
                          | _ => none
                        | _ => none
                      | _ => none
                    | _ => none
                  | _ => none
                | _ => none
              | _ => none
            | _ => none
          | _ => none
        | _ => none
      | _ => none
    | _ => none
  | _, _ => none
theorem dII_ok {objs : List (TO U)} {args : List (TV U)} {a : IRs} {b : IRs} (h : dII objs args = some (a, b)) : objs = [] ∧ args = [a.tv, b.tv] := by
  unfold dII at h
  repeat' split at h
  all_goals first | (cases h; done) | (cases h; exact ⟨rfl, rfl⟩)
def putE (a b : IRs) : Bool := (putB a).toList == (putB b).toList
def sSameP : Spc U := .of dII (fun (a, b) => PutOk a ∧ PutOk b) (fun _ => []) fun (a, b) => .v (.bool (putE a b))
theorem eq_roundsG {α T B : Type} [DecidableEq α] {fnl : Nat → T → Option B} {S : Int → T} {rt ex : B} {a b : List α} (ha : a.length ≤ 4000000) (hab : a.length = b.length)
    (hin : ∀ (N : Nat) (v : Int) (x y : α), 0 ≤ v → v < (a.length : Int) → getI a v = some x → getI b v = some y → fnl (N + 1) (S v) = cond (decide (x = y)) (fnl N (S (IntKind.i64.wrap (v + 1)))) (some rt))
    (hout : ∀ (N : Nat) (v : Int), ¬ v < (a.length : Int) → fnl (N + 1) (S v) = some ex) : ∀ (N : Nat) (v : Int), 0 ≤ v → (a.length : Int) ≤ v + N → fnl (N + 1) (S v) = some (cond (decide (a.drop v.toNat = b.drop v.toNat)) ex rt) := by
  intro N
  induction N with
  | zero =>
    intro v h0 h1
    rw [hout 0 v (by omega), List.drop_eq_nil_of_le (by omega), List.drop_eq_nil_of_le (by omega)]
    simp
  | succ N ih =>
    intro v h0 h1
    by_cases hv : v < (a.length : Int)
    · obtain ⟨x, hx, hx2⟩ := getI_lt (l := a) h0 hv
      obtain ⟨y, hy, hy2⟩ := getI_lt (l := b) h0 (by omega)
      have hw : IntKind.i64.wrap (v + 1) = v + 1 := wrap_i64 (by omega) (by omega)
      have ea : a.drop v.toNat = x :: a.drop (v.toNat + 1) := by
        rw [List.drop_eq_getElem_cons (by omega)]
        rw [List.getElem?_eq_getElem (by omega)] at hx2
        rw [Option.some.inj hx2]
      have eb : b.drop v.toNat = y :: b.drop (v.toNat + 1) := by
        rw [List.drop_eq_getElem_cons (by omega)]
        rw [List.getElem?_eq_getElem (by omega)] at hy2
        rw [Option.some.inj hy2]
      rw [hin (N + 1) v x y h0 hv hx hy, hw, ih (v + 1) (by omega) (by omega), ea, eb, show (v + 1).toNat = v.toNat + 1 by omega]
      by_cases hxy : x = y
      · subst hxy
        simp
      · simp [hxy]
    · rw [hout (N + 1) v hv, List.drop_eq_nil_of_le (by omega), List.drop_eq_nil_of_le (by omega)]
      simp
def g20_S0 (a : IRs) (b : IRs) (v0 : Int) : TS U := mkS 188
  [(2, TV.ref 0 0 0), (3, TV.ref 1 0 0), (5, TV.v (Value.int IntKind.i64 v0))]
  [TO.cells
      [TV.lst C.i64 a.G, TV.lst C.i64 a.F, TV.lst C.i64 a.V, TV.lst C.t69 a.Fs, TV.lst C.t65 a.C,
        TV.v (Value.int IntKind.i64 a.Main)]
      false,
    TO.cells
      [TV.lst C.i64 b.G, TV.lst C.i64 b.F, TV.lst C.i64 b.V, TV.lst C.t69 b.Fs, TV.lst C.t65 b.C,
        TV.v (Value.int IntKind.i64 b.Main)]
      false]
  0
theorem g20_e0 (lp : Lp U) (a : IRs) (b : IRs) (N : Nat) (v0 : Int) : fnLoop X Ic an20 lp Try.f20 0 N.succ (g20_S0 a b v0) = bif decide (v0 < (↑a.Fs.length : Int)) then (getI a.Fs v0).bind fun (z : X.U.T C.t69) => (getI b.Fs v0).bind fun (z_1 : X.U.T C.t69) => bif !z.Name.toList == z_1.Name.toList then some (Exit.ret, mkS 188 [(2, TV.ref 0 0 0), (3, TV.ref 1 0 0), (4, TV.v (Value.bool false))] [TO.cells [TV.lst C.i64 a.G, TV.lst C.i64 a.F, TV.lst C.i64 a.V, TV.lst C.t69 a.Fs, TV.lst C.t65 a.C, TV.v (Value.int IntKind.i64 a.Main)] false, TO.cells [TV.lst C.i64 b.G, TV.lst C.i64 b.F, TV.lst C.i64 b.V, TV.lst C.t69 b.Fs, TV.lst C.t65 b.C, TV.v (Value.int IntKind.i64 b.Main)] false] 0) else if Sn z.Params.length then bif !eqI z.Params z_1.Params then some (Exit.ret, mkS 188 [(2, TV.ref 0 0 0), (3, TV.ref 1 0 0), (4, TV.v (Value.bool false))] [TO.cells [TV.lst C.i64 a.G, TV.lst C.i64 a.F, TV.lst C.i64 a.V, TV.lst C.t69 a.Fs, TV.lst C.t65 a.C, TV.v (Value.int IntKind.i64 a.Main)] false, TO.cells [TV.lst C.i64 b.G, TV.lst C.i64 b.F, TV.lst C.i64 b.V, TV.lst C.t69 b.Fs, TV.lst C.t65 b.C, TV.v (Value.int IntKind.i64 b.Main)] false] 0) else bif !decide (z.Ret = z_1.Ret) then some (Exit.ret, mkS 188 [(2, TV.ref 0 0 0), (3, TV.ref 1 0 0), (4, TV.v (Value.bool false))] [TO.cells [TV.lst C.i64 a.G, TV.lst C.i64 a.F, TV.lst C.i64 a.V, TV.lst C.t69 a.Fs, TV.lst C.t65 a.C, TV.v (Value.int IntKind.i64 a.Main)] false, TO.cells [TV.lst C.i64 b.G, TV.lst C.i64 b.F, TV.lst C.i64 b.V, TV.lst C.t69 b.Fs, TV.lst C.t65 b.C, TV.v (Value.int IntKind.i64 b.Main)] false] 0) else bif !decide (z.First = z_1.First) then some (Exit.ret, mkS 188 [(2, TV.ref 0 0 0), (3, TV.ref 1 0 0), (4, TV.v (Value.bool false))] [TO.cells [TV.lst C.i64 a.G, TV.lst C.i64 a.F, TV.lst C.i64 a.V, TV.lst C.t69 a.Fs, TV.lst C.t65 a.C, TV.v (Value.int IntKind.i64 a.Main)] false, TO.cells [TV.lst C.i64 b.G, TV.lst C.i64 b.F, TV.lst C.i64 b.V, TV.lst C.t69 b.Fs, TV.lst C.t65 b.C, TV.v (Value.int IntKind.i64 b.Main)] false] 0) else bif !decide (z.Last = z_1.Last) then some (Exit.ret, mkS 188 [(2, TV.ref 0 0 0), (3, TV.ref 1 0 0), (4, TV.v (Value.bool false))] [TO.cells [TV.lst C.i64 a.G, TV.lst C.i64 a.F, TV.lst C.i64 a.V, TV.lst C.t69 a.Fs, TV.lst C.t65 a.C, TV.v (Value.int IntKind.i64 a.Main)] false, TO.cells [TV.lst C.i64 b.G, TV.lst C.i64 b.F, TV.lst C.i64 b.V, TV.lst C.t69 b.Fs, TV.lst C.t65 b.C, TV.v (Value.int IntKind.i64 b.Main)] false] 0) else fnLoop X Ic an20 lp Try.f20 0 N (g20_S0 a b (IntKind.i64.wrap (v0 + 1))) else none else some (Exit.exit 0, mkS 188 [(2, TV.ref 0 0 0), (3, TV.ref 1 0 0)] [TO.cells [TV.lst C.i64 a.G, TV.lst C.i64 a.F, TV.lst C.i64 a.V, TV.lst C.t69 a.Fs, TV.lst C.t65 a.C, TV.v (Value.int IntKind.i64 a.Main)] false, TO.cells [TV.lst C.i64 b.G, TV.lst C.i64 b.F, TV.lst C.i64 b.V, TV.lst C.t69 b.Fs, TV.lst C.t65 b.C, TV.v (Value.int IntKind.i64 b.Main)] false] 0) := by kernel_rfl
def irObj (o : IRs) : TO U := .cells [.lst .i64 o.G, .lst .i64 o.F, .lst .i64 o.V, .lst .t69 o.Fs, .lst .t65 o.C, .v (.int .i64 o.Main)] false
def Z20 (a b : IRs) : TS U := mkS 188 [(2, .ref 0 0 0), (3, .ref 1 0 0)] [irObj a, irObj b] 0
def Y20 (a b : IRs) : TS U := mkS 188 [(2, .ref 0 0 0), (3, .ref 1 0 0), (4, .v (.bool false))] [irObj a, irObj b] 0
def eqF (l m : List R69) : Bool := decide (l = m)
def eqC (l m : List R65) : Bool := decide (l = m)
theorem beq_ba {a b : ByteArray} : (a.toList == b.toList) = decide (a = b) := by
  by_cases h : a = b
  · subst h; simp
  · rw [decide_eq_false h]
    refine Bool.eq_false_iff.2 fun hc => h ?_
    have := eq_of_beq hc
    exact tl8_inj (by rw [show a.toList = a.data.toList from ByteArray.toList_eq a, show b.toList = b.data.toList from ByteArray.toList_eq b] at this; exact this)
theorem rounds20a (lp : Lp U) {a b : IRs} (ha : Sm a.Fs.length) (hp : ∀ z ∈ a.Fs, Sn z.Params.length) (hab : a.Fs.length = b.Fs.length) : fnLoop X Ic an20 lp Try.f20 0 (a.Fs.length + 1) (g20_S0 a b 0) = some (cond (eqF a.Fs b.Fs) (.exit 0, Z20 a b) (.ret, Y20 a b)) :=
  eq_roundsG (fnl := fun n st => fnLoop X Ic an20 lp Try.f20 0 n st) (S := g20_S0 a b) ha hab (fun N v x y h0 h1 hx hy => by
    have hk := hp x (getI_mem hx)
    dsimp only
    rw [g20_e0, decide_eq_true h1, hx, hy]
    simp only [cond_true, Option.bind_some, beq_ba]
    rw [if_pos hk]
    obtain ⟨n1, p1, r1, f1, l1⟩ := x
    obtain ⟨n2, p2, r2, f2, l2⟩ := y
    unfold eqI
    by_cases e1 : n1 = n2 <;> by_cases e2 : p1 = p2 <;> by_cases e3 : r1 = r2 <;> by_cases e4 : f1 = f2 <;> by_cases e5 : l1 = l2 <;> simp [e1, e2, e3, e4, e5] <;> rfl) (fun N v h => by dsimp only; rw [g20_e0, decide_eq_false h]; rfl) a.Fs.length 0 (Int.le_refl 0) (by omega)
def dl20a (s : TS U) : Option (IRs × IRs × Int) := match told s 188 [2, 3, 5] 0, s.objs with
  | some [a0, a1, a2], [o0, o1] =>
    match o0 with
    | .cells [q0, q1, q2, q3, q4, q5] false =>
      match q0 with
      | .lst .i64 a_G =>
        match q1 with
        | .lst .i64 a_F =>
          match q2 with
          | .lst .i64 a_V =>
            match q3 with
            | .lst .t69 a_Fs =>
              match q4 with
              | .lst .t65 a_C =>
                match q5 with
                | .v (.int .i64 a_Main) =>
                  match o1 with
                  | .cells [q6, q7, q8, q9, q10, q11] false =>
                    match q6 with
                    | .lst .i64 b_G =>
                      match q7 with
                      | .lst .i64 b_F =>
                        match q8 with
                        | .lst .i64 b_V =>
                          match q9 with
                          | .lst .t69 b_Fs =>
                            match q10 with
                            | .lst .t65 b_C =>
                              match q11 with
                              | .v (.int .i64 b_Main) =>
                                match a0 with
                                | .ref 0 0 0 =>
                                  match a1 with
                                  | .ref 1 0 0 =>
                                    match a2 with
                                    | .v (.int .i64 v) =>
                                      some ((⟨a_G, a_F, a_V, a_Fs, a_C, a_Main⟩ : IRs), (⟨b_G, b_F, b_V, b_Fs, b_C, b_Main⟩ : IRs), v)
                                    | _ => none
                                  | _ => none
                                | _ => none
                              | _ => none
                            | _ => none
                          | _ => none
                        | _ => none
                      | _ => none
                    | _ => none
                  | _ => none
                | _ => none
              | _ => none
            | _ => none
          | _ => none
        | _ => none
      | _ => none
    | _ => none
  | _, _ => none
theorem dl20a_ok {s : TS U} {a : IRs} {b : IRs} {v : Int} (h : dl20a s = some (a, b, v)) : s = mkS (U := U) 188 ([2, 3, 5].zip ([.ref 0 0 0, .ref 1 0 0, .v (.int .i64 v)] : List (TV U))) ([a.ob, b.ob] : List (TO U)) 0 := by
  unfold dl20a at h
  split at h <;> try (cases h; done)
  rename_i ht ho
  have hs := told_ok ht
  rw [ho] at hs
  repeat' split at h
  all_goals first | (cases h; done) | (cases h; exact hs)
def Pre20a (a b : IRs) (v : Int) : Prop := Sm a.Fs.length ∧ (∀ z ∈ a.Fs, Sn z.Params.length) ∧ a.Fs.length = b.Fs.length ∧ v = 0
instance (a b : IRs) (v : Int) : Decidable (Pre20a a b v) := by unfold Pre20a; infer_instance
def lc20a : LC U := .of2 dl20a (fun (a, b, v) => Pre20a a b v) (fun (a, b, v) => eqF a.Fs b.Fs) (.exit 0) (fun (a, b, v) => Z20 a b) .ret (fun (a, b, v) => Y20 a b)
def Y20b : TS U := mkS 188 [(4, .v (.bool false))] [] 0
def Z20b : TS U := mkS 188 [] [] 0
def S20b (a b : IRs) (v : Int) : TS U := mkS 188 [(2, .ref 0 0 0), (3, .ref 1 0 0), (8, .v (.int .i64 v))] [irObj a, irObj b] 0
theorem r20b (lp : Lp U) (a b : IRs) (N : Nat) (v0 : Int) : fnLoop X Ic an20 lp Try.f20 2 N.succ (S20b a b v0) = bif decide (v0 < (a.C.length : Int)) then (getI a.C v0).bind fun (z : X.U.T C.t65) => (getI b.C v0).bind fun (z_1 : X.U.T C.t65) => bif !decide (z.Fn = z_1.Fn) then some (Exit.ret, Y20b) else bif !decide (z.At = z_1.At) then some (Exit.ret, Y20b) else bif !decide (z.Op = z_1.Op) then some (Exit.ret, Y20b) else bif !decide (z.A = z_1.A) then some (Exit.ret, Y20b) else bif !decide (z.B = z_1.B) then some (Exit.ret, Y20b) else bif !decide (z.C = z_1.C) then some (Exit.ret, Y20b) else bif !decide (z.Do = z_1.Do) then some (Exit.ret, Y20b) else bif !decide (z.N = z_1.N) then some (Exit.ret, Y20b) else if Sn z.Args.length then bif !eqI z.Args z_1.Args then some (Exit.ret, Y20b) else fnLoop X Ic an20 lp Try.f20 2 N (S20b a b (IntKind.i64.wrap (v0 + 1))) else none else some (Exit.exit 2, Z20b) := by kernel_rfl
theorem rounds20b (lp : Lp U) {a b : IRs} (ha : Sm a.C.length) (hp : ∀ z ∈ a.C, Sn z.Args.length) (hab : a.C.length = b.C.length) : fnLoop X Ic an20 lp Try.f20 2 (a.C.length + 1) (S20b a b 0) = some (cond (eqC a.C b.C) (.exit 2, Z20b) (.ret, Y20b)) :=
  eq_roundsG (fnl := fun n st => fnLoop X Ic an20 lp Try.f20 2 n st) (S := S20b a b) ha hab (fun N v x y h0 h1 hx hy => by
    have hk := hp x (getI_mem hx)
    dsimp only
    rw [r20b, decide_eq_true h1, hx, hy]
    simp only [cond_true, Option.bind_some]
    rw [if_pos hk]
    by_cases e_Fn : x.Fn = y.Fn
    case neg =>
      rw [decide_eq_false e_Fn, decide_eq_false (fun h : x = y => e_Fn (by rw [h]))]
      rfl
    rw [decide_eq_true e_Fn]
    simp only [Bool.not_true, cond_false]
    by_cases e_At : x.At = y.At
    case neg =>
      rw [decide_eq_false e_At, decide_eq_false (fun h : x = y => e_At (by rw [h]))]
      rfl
    rw [decide_eq_true e_At]
    simp only [Bool.not_true, cond_false]
    by_cases e_Op : x.Op = y.Op
    case neg =>
      rw [decide_eq_false e_Op, decide_eq_false (fun h : x = y => e_Op (by rw [h]))]
      rfl
    rw [decide_eq_true e_Op]
    simp only [Bool.not_true, cond_false]
    by_cases e_A : x.A = y.A
    case neg =>
      rw [decide_eq_false e_A, decide_eq_false (fun h : x = y => e_A (by rw [h]))]
      rfl
    rw [decide_eq_true e_A]
    simp only [Bool.not_true, cond_false]
    by_cases e_B : x.B = y.B
    case neg =>
      rw [decide_eq_false e_B, decide_eq_false (fun h : x = y => e_B (by rw [h]))]
      rfl
    rw [decide_eq_true e_B]
    simp only [Bool.not_true, cond_false]
    by_cases e_C : x.C = y.C
    case neg =>
      rw [decide_eq_false e_C, decide_eq_false (fun h : x = y => e_C (by rw [h]))]
      rfl
    rw [decide_eq_true e_C]
    simp only [Bool.not_true, cond_false]
    by_cases e_Do : x.Do = y.Do
    case neg =>
      rw [decide_eq_false e_Do, decide_eq_false (fun h : x = y => e_Do (by rw [h]))]
      rfl
    rw [decide_eq_true e_Do]
    simp only [Bool.not_true, cond_false]
    by_cases e_N : x.N = y.N
    case neg =>
      rw [decide_eq_false e_N, decide_eq_false (fun h : x = y => e_N (by rw [h]))]
      rfl
    rw [decide_eq_true e_N]
    simp only [Bool.not_true, cond_false]
    unfold eqI
    by_cases e : x.Args = y.Args
    case neg =>
      rw [decide_eq_false e, decide_eq_false (fun h : x = y => e (by rw [h]))]
      rfl
    rw [decide_eq_true e, decide_eq_true (show x = y by cases x; cases y; simp_all)]
    rfl) (fun N v h => by dsimp only; rw [r20b, decide_eq_false h]; rfl) a.C.length 0 (Int.le_refl 0) (by omega)
def dl20b (s : TS U) : Option (IRs × IRs × Int) := match told s 188 [2, 3, 8] 0, s.objs with
  | some [a0, a1, a2], [o0, o1] =>
    match o0 with
    | .cells [q0, q1, q2, q3, q4, q5] false =>
      match q0 with
      | .lst .i64 a_G =>
        match q1 with
        | .lst .i64 a_F =>
          match q2 with
          | .lst .i64 a_V =>
            match q3 with
            | .lst .t69 a_Fs =>
              match q4 with
              | .lst .t65 a_C =>
                match q5 with
                | .v (.int .i64 a_Main) =>
                  match o1 with
                  | .cells [q6, q7, q8, q9, q10, q11] false =>
                    match q6 with
                    | .lst .i64 b_G =>
                      match q7 with
                      | .lst .i64 b_F =>
                        match q8 with
                        | .lst .i64 b_V =>
                          match q9 with
                          | .lst .t69 b_Fs =>
                            match q10 with
                            | .lst .t65 b_C =>
                              match q11 with
                              | .v (.int .i64 b_Main) =>
                                match a0 with
                                | .ref 0 0 0 =>
                                  match a1 with
                                  | .ref 1 0 0 =>
                                    match a2 with
                                    | .v (.int .i64 v) =>
                                      some ((⟨a_G, a_F, a_V, a_Fs, a_C, a_Main⟩ : IRs), (⟨b_G, b_F, b_V, b_Fs, b_C, b_Main⟩ : IRs), v)
                                    | _ => none
                                  | _ => none
                                | _ => none
                              | _ => none
                            | _ => none
                          | _ => none
                        | _ => none
                      | _ => none
                    | _ => none
                  | _ => none
                | _ => none
              | _ => none
            | _ => none
          | _ => none
        | _ => none
      | _ => none
    | _ => none
  | _, _ => none
theorem dl20b_ok {s : TS U} {a : IRs} {b : IRs} {v : Int} (h : dl20b s = some (a, b, v)) : s = mkS (U := U) 188 ([2, 3, 8].zip ([.ref 0 0 0, .ref 1 0 0, .v (.int .i64 v)] : List (TV U))) ([a.ob, b.ob] : List (TO U)) 0 := by
  unfold dl20b at h
  split at h <;> try (cases h; done)
  rename_i ht ho
  have hs := told_ok ht
  rw [ho] at hs
  repeat' split at h
  all_goals first | (cases h; done) | (cases h; exact hs)
def Pre20b (a b : IRs) (v : Int) : Prop := Sm a.C.length ∧ (∀ z ∈ a.C, Sn z.Args.length) ∧ a.C.length = b.C.length ∧ v = 0
instance (a b : IRs) (v : Int) : Decidable (Pre20b a b v) := by unfold Pre20b; infer_instance
def lc20b : LC U := .of2 dl20b (fun (a, b, v) => Pre20b a b v) (fun (a, b, v) => eqC a.C b.C) (.exit 2) (fun _ => Z20b) .ret (fun _ => Y20b)
def lp20 : Lp U := lpL [(0, lc20a), (2, lc20b)]
theorem lp20_ok : ∀ c, Try.f20.body = some c → LpOk X Ic an20 lp20 (loops c 0) := lpL_ok (by kernel_rfl) fun b L hm st p hs => by
  cases hm with
  | head =>
    obtain ⟨⟨a, b, v⟩, hx, ⟨h1, h2, h3, rfl⟩, rfl⟩ := LC.of2_some hs
    obtain rfl := dl20a_ok hx
    exact ⟨_, rounds20a _ h1 h2 h3⟩
  | tail _ hm => cases hm with
    | head =>
      obtain ⟨⟨a, b, v⟩, hx, ⟨h1, h2, h3, rfl⟩, rfl⟩ := LC.of2_some hs
      obtain rfl := dl20b_ok hx
      exact ⟨_, rounds20b _ h1 h2 h3⟩
    | tail _ h => cases h
theorem e20 (a : IRs) (b : IRs) : (evFn X Ic an20 lp20 Try.f20 [] [irV a, irV b] fun (o : List (TO X.U)) (v : TV X.U) => some (o, v)) = bif !decide (a.Main = b.Main) then some ([], TV.v (Value.bool false)) else if Sn a.G.length then bif !eqI a.G b.G then some ([], TV.v (Value.bool false)) else if Sn a.F.length then bif !eqI a.F b.F then some ([], TV.v (Value.bool false)) else if Sn a.V.length then bif !eqI a.V b.V then some ([], TV.v (Value.bool false)) else bif !decide ((↑a.Fs.length : Int) = (↑b.Fs.length : Int)) then some ([], TV.v (Value.bool false)) else bif !decide ((↑a.C.length : Int) = (↑b.C.length : Int)) then some ([], TV.v (Value.bool false)) else if Pre20a a b 0 then bif eqF a.Fs b.Fs then if Pre20b a b 0 then bif eqC a.C b.C then some ([], TV.v (Value.bool true)) else some ([], TV.v (Value.bool false)) else none else some ([], TV.v (Value.bool false)) else none else none else none else none := by kernel_rfl
deriving instance DecidableEq for IRs
def SameOk (a : IRs) : Prop := (Sn a.G.length ∧ Sn a.F.length ∧ Sn a.V.length) ∧ (Sm a.Fs.length ∧ Sm a.C.length) ∧ (∀ z ∈ a.Fs, Sn z.Params.length) ∧ ∀ z ∈ a.C, Sn z.Args.length
instance (a : IRs) : Decidable (SameOk a) := by unfold SameOk; infer_instance
def sSameR : Spc U := .of dII (fun (a, b) => SameOk a) (fun _ => []) fun (a, b) => .v (.bool (decide (a = b)))
theorem sSameR_ok : SpecOk Try.prog 20 sSameR := by
  refine fn_ok X_ok mixed Ic_ok an20 lp20 Try.func20 (by kernel_rfl) (by kernel_rfl) lp20_ok fun objs args x hx hp => ?_
  obtain ⟨a, b⟩ := x
  obtain ⟨rfl, rfl⟩ := dII_ok hx
  dsimp only at hp ⊢
  refine (e20 a b).trans ?_
  obtain ⟨⟨h1, h2, h3⟩, ⟨h4, h5⟩, h6, h7⟩ := hp
  rw [if_pos h1, if_pos h2, if_pos h3]
  unfold eqI
  by_cases e1 : a.Main = b.Main
  case neg => rw [decide_eq_false e1, decide_eq_false (fun h : a = b => e1 (by rw [h]))]; rfl
  by_cases e2 : a.G = b.G
  case neg => rw [decide_eq_true e1, decide_eq_false e2, decide_eq_false (fun h : a = b => e2 (by rw [h]))]; rfl
  by_cases e3 : a.F = b.F
  case neg => rw [decide_eq_true e1, decide_eq_true e2, decide_eq_false e3, decide_eq_false (fun h : a = b => e3 (by rw [h]))]; rfl
  by_cases e4 : a.V = b.V
  case neg => rw [decide_eq_true e1, decide_eq_true e2, decide_eq_true e3, decide_eq_false e4, decide_eq_false (fun h : a = b => e4 (by rw [h]))]; rfl
  rw [decide_eq_true e1, decide_eq_true e2, decide_eq_true e3, decide_eq_true e4]
  simp only [Bool.not_true, cond_false]
  by_cases e5 : (a.Fs.length : Int) = (b.Fs.length : Int)
  case neg => rw [decide_eq_false e5, decide_eq_false (fun h : a = b => e5 (by rw [h]))]; rfl
  by_cases e6 : (a.C.length : Int) = (b.C.length : Int)
  case neg => rw [decide_eq_true e5, decide_eq_false e6, decide_eq_false (fun h : a = b => e6 (by rw [h]))]; rfl
  rw [decide_eq_true e5, decide_eq_true e6, if_pos (show Pre20a a b 0 from ⟨h4, h6, by omega, rfl⟩), if_pos (show Pre20b a b 0 from ⟨h5, h7, by omega, rfl⟩)]
  unfold eqF eqC
  by_cases e7 : a.Fs = b.Fs
  case neg => rw [decide_eq_false e7, decide_eq_false (fun h : a = b => e7 (by rw [h]))]; rfl
  by_cases e8 : a.C = b.C
  case neg => rw [decide_eq_true e7, decide_eq_false e8, decide_eq_false (fun h : a = b => e8 (by rw [h]))]; rfl
  rw [decide_eq_true e7, decide_eq_true e8, decide_eq_true (show a = b by cases a; cases b; simp_all)]
  rfl
end Go.Proofs.Ytpkgikchphgfaaa.Ic

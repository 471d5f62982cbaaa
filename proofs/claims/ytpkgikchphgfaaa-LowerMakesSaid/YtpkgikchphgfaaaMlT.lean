/- Texts of this claim, put together: part 20. -/
import Derived.Test.YtpkgikchphgfaaaMlS
/- The program's lowerer: calls, expressions, statements without others. -/
namespace Go.Proofs.Ytpkgikchphgfaaa.Lw
open Go Go.RowKit Go.Proofs.Ytpkgikchphgfaaa.Eng Go.Proofs.Ytpkgikchphgfaaa.Fl
set_option linter.unusedVariables false
set_option linter.unusedSimpArgs false
set_option maxRecDepth 20000
def La : FuncId → Option (Spc U)
  | 162 => some sArgsB
  | _ => none
theorem La_ok : ∀ f S, La f = some S → SpecOk Try.prog f S := fun f S h => by
  unfold La at h
  split at h
  · cases h; exact sArgsB_ok
  · cases h
def LB.call (s : LB) (op a : Int) (e : R112) : R65 := cond (decide (e.Kind = 11)) ⟨0, 0, op, a, -1, s.v e.A, 0, 0, e.Args.map s.v⟩ ⟨0, 0, op, a, s.fu e.A, -1, 0, 0, e.Args.map s.v⟩
theorem e149 (s : LB) (op x : Int) (e : R112) : evFn X La an149 lp0 Try.f149 (inB s) [.ref 0 0 0, .v (.int .i64 op), .v (.int .i64 x), e.tv] (fun o v => some (o, v)) = if Sn e.Args.length then cond (decide (e.Kind = 11)) (some (inB s, insV ⟨0, 0, op, x, -1, s.v e.A, 0, 0, e.Args.map s.v⟩)) (some (inB s, insV ⟨0, 0, op, x, s.fu e.A, -1, 0, 0, e.Args.map s.v⟩)) else none := by
  obtain ⟨G, F, vB, V, fB, Fs, cB, C, M, a, b, c, d, n⟩ := s
  cases vB <;> cases fB <;> cases cB <;> kernel_rfl
def dRiie (objs : List (TO U)) (args : List (TV U)) : Option (Int × Int × R112) := match objs, args with
  | [], [a0, a1, a2, a3] =>
    match a0 with
    | .ref 0 0 0 =>
      match a1 with
      | .v (.int .i64 op) =>
        match a2 with
        | .v (.int .i64 a) =>
          match a3 with
          | .agg [q0, q1, q2, q3, q4, q5] =>
            match q0 with
            | .v (.int .i64 e_Kind) =>
              match q1 with
              | .v (.string e_A) =>
                match q2 with
                | .v (.string e_B) =>
                  match q3 with
                  | .v (.int .i64 e_Op) =>
                    match q4 with
                    | .v (.int .i64 e_N) =>
                      match q5 with
                      | .lst .str e_Args =>
                        some (op, a, (⟨e_Kind, e_A, e_B, e_Op, e_N, e_Args⟩ : R112))
                      | _ => none
                    | _ => none
                  | _ => none
                | _ => none
              | _ => none
            | _ => none
          | _ => none
        | _ => none
      | _ => none
    | _ => none
  | _, _ => none
theorem dRiie_ok {objs : List (TO U)} {args : List (TV U)} {op : Int} {a : Int} {e : R112} (h : dRiie objs args = some (op, a, e)) : objs = [] ∧ args = [.ref 0 0 0, .v (.int .i64 op), .v (.int .i64 a), e.tv] := by
  unfold dRiie at h
  repeat' split at h
  all_goals first | (cases h; done) | (cases h; exact ⟨rfl, rfl⟩)
def sCallB : Spc U := .of (dW dRiie) (fun (s, op, a, e) => Sn e.Args.length) (fun (s, _) => inB s) fun (s, op, a, e) => insV (s.call op a e)
theorem sCallB_ok : SpecOk Try.prog 149 sCallB := by
  refine fn_ok X_ok mixed La_ok an149 lp0 Try.func149 (by kernel_rfl) (by kernel_rfl) (lp0_ok (by kernel_rfl)) fun objs args x hx hp => ?_
  obtain ⟨s, op, a, e⟩ := x
  obtain ⟨⟨rfl, hs⟩, hy⟩ := dW_ok hx
  obtain ⟨_, rfl⟩ := dRiie_ok hy
  dsimp only at hp ⊢
  refine (e149 s op a e).trans ?_
  rw [if_pos hp]
  unfold LB.call
  cases decide (e.Kind = 11) <;> rfl
def Lb : FuncId → Option (Spc U)
  | 149 => some sCallB
  | _ => none
theorem Lb_ok : ∀ f S, Lb f = some S → SpecOk Try.prog f S := fun f S h => by
  unfold Lb at h
  split at h
  · cases h; exact sCallB_ok
  · cases h
def LB.set (s : LB) (a : Int) (e : R112) : R65 :=
  cond (decide (e.Kind = 1)) (ins3 1 a 0 0 0 e.N) (cond (decide (e.Kind = 2)) (ins3 2 a 0 0 0 0) (cond (decide (e.Kind = 3)) (ins3 3 a (s.v e.A) 0 0 0) (cond (decide (e.Kind = 4)) (ins3 8 a (s.gl e.A) 0 0 0)
    (cond (decide (e.Kind = 5)) (ins3 10 a (s.v e.A) (s.fl e.B) 0 0) (cond (decide (e.Kind = 6)) (ins3 6 a 0 0 0 0) (cond (decide (e.Kind = 7)) (ins3 7 a (s.fu e.A) 0 0 0) (cond (decide (e.Kind = 8)) (ins3 4 a (s.v e.A) (s.v e.B) e.Op 0)
      (cond (decide (e.Kind = 9)) (ins3 5 a (s.v e.A) 0 e.Op e.N) (s.call 12 a e)))))))))
def sI (s : LB) (x : R65) : Option (List (TO U) × TV U) := some (inB s, insV x)
theorem e148 (s : LB) (a : Int) (e : R112) : evFn X Lb an148 lp0 Try.f148 (inB s) [.ref 0 0 0, .v (.int .i64 a), e.tv] (fun o v => some (o, wkI.f v)) =
  cond (decide (e.Kind = 1)) (sI s (ins3 1 a 0 0 0 e.N)) (cond (decide (e.Kind = 2)) (sI s (ins3 2 a 0 0 0 0)) (cond (decide (e.Kind = 3)) (sI s (ins3 3 a (s.v e.A) 0 0 0)) (cond (decide (e.Kind = 4)) (sI s (ins3 8 a (s.gl e.A) 0 0 0))
    (cond (decide (e.Kind = 5)) (sI s (ins3 10 a (s.v e.A) (s.fl e.B) 0 0)) (cond (decide (e.Kind = 6)) (sI s (ins3 6 a 0 0 0 0)) (cond (decide (e.Kind = 7)) (sI s (ins3 7 a (s.fu e.A) 0 0 0)) (cond (decide (e.Kind = 8)) (sI s (ins3 4 a (s.v e.A) (s.v e.B) e.Op 0))
      (cond (decide (e.Kind = 9)) (sI s (ins3 5 a (s.v e.A) 0 e.Op e.N)) (if Sn e.Args.length then sI s (s.call 12 a e) else none))))))))) := by
  obtain ⟨G, F, vB, V, fB, Fs, cB, C, M, a, b, c, d, n⟩ := s
  cases vB <;> cases fB <;> cases cB <;> kernel_rfl
def dRie (objs : List (TO U)) (args : List (TV U)) : Option (Int × R112) := match objs, args with
  | [], [a0, a1, a2] =>
    match a0 with
    | .ref 0 0 0 =>
      match a1 with
      | .v (.int .i64 a) =>
        match a2 with
        | .agg [q0, q1, q2, q3, q4, q5] =>
          match q0 with
          | .v (.int .i64 e_Kind) =>
            match q1 with
            | .v (.string e_A) =>
              match q2 with
              | .v (.string e_B) =>
                match q3 with
                | .v (.int .i64 e_Op) =>
                  match q4 with
                  | .v (.int .i64 e_N) =>
                    match q5 with
                    | .lst .str e_Args =>
                      some (a, (⟨e_Kind, e_A, e_B, e_Op, e_N, e_Args⟩ : R112))
                    | _ => none
                  | _ => none
                | _ => none
              | _ => none
            | _ => none
          | _ => none
        | _ => none
      | _ => none
    | _ => none
  | _, _ => none
theorem dRie_ok {objs : List (TO U)} {args : List (TV U)} {a : Int} {e : R112} (h : dRie objs args = some (a, e)) : objs = [] ∧ args = [.ref 0 0 0, .v (.int .i64 a), e.tv] := by
  unfold dRie at h
  repeat' split at h
  all_goals first | (cases h; done) | (cases h; exact ⟨rfl, rfl⟩)
def sExprB : Spc U := .of (dW dRie) (fun (s, a, e) => Sn e.Args.length) (fun (s, _) => inB s) fun (s, a, e) => insV (s.set a e)
theorem cond_app {α β : Type} (f : α → β) (c : Bool) (x y : α) : f (cond c x y) = cond c (f x) (f y) := by cases c <;> rfl
theorem sExprB_ok : SpecOk Try.prog 148 sExprB := by
  refine fn_okw wkI X_ok mixed Lb_ok an148 lp0 Try.func148 (by kernel_rfl) (by kernel_rfl) (lp0_ok (by kernel_rfl)) fun objs args x hx hp => ?_
  obtain ⟨s, a, e⟩ := x
  obtain ⟨⟨rfl, hs⟩, hy⟩ := dW_ok hx
  obtain ⟨_, rfl⟩ := dRie_ok hy
  dsimp only at hp ⊢
  refine (e148 s a e).trans ?_
  rw [if_pos hp]
  show _ = sI s (s.set a e)
  unfold LB.set
  simp only [cond_app (sI s)]
def Lc : FuncId → Option (Spc U)
  | 148 => some sExprB
  | 149 => some sCallB
  | _ => none
theorem Lc_ok : ∀ f S, Lc f = some S → SpecOk Try.prog f S := fun f S h => by
  unfold Lc at h
  split at h
  · cases h; exact sExprB_ok
  · cases h; exact sCallB_ok
  · cases h
def LB.one (s : LB) (z : R114) : R65 :=
  cond (decide (z.Kind = 1)) (s.set (s.v z.To) z.Expr) (cond (decide (z.Kind = 2)) (ins3 9 (s.gl z.To) (s.v z.From) 0 0 0) (cond (decide (z.Kind = 3)) (ins3 11 (s.v z.To) (s.v z.From) (s.fl z.Field) 0 0)
    (cond (decide (z.Kind = 6)) (ins3 14 (s.v z.From) 0 0 0 0) (cond (decide (z.Kind = 7)) (ins3 15 (s.v z.From) 0 0 0 0) (cond (decide (z.Kind = 8)) (s.call 13 (-1) z.Expr) (cond (decide (z.Kind = 9)) (s.call 12 (-1) z.Expr)
      (cond (decide (z.Kind = 10)) (cond (!(z.From.toList == (⟨#[]⟩ : ByteArray).toList)) (ins3 16 (s.v z.From) 0 0 0 0) (ins3 16 (-1) 0 0 0 0)) (ins3 0 0 0 0 0 0))))))))
theorem e114 (s : LB) (z : R114) : evFn X Lc an114 lp0 Try.f114 (inB s) [.ref 0 0 0, stV z] (fun o v => some (o, wkI.f v)) =
  cond (decide (z.Kind = 1)) (if Sn z.Expr.Args.length then sI s (s.set (s.v z.To) z.Expr) else none) (cond (decide (z.Kind = 2)) (sI s (ins3 9 (s.gl z.To) (s.v z.From) 0 0 0)) (cond (decide (z.Kind = 3)) (sI s (ins3 11 (s.v z.To) (s.v z.From) (s.fl z.Field) 0 0))
    (cond (decide (z.Kind = 6)) (sI s (ins3 14 (s.v z.From) 0 0 0 0)) (cond (decide (z.Kind = 7)) (sI s (ins3 15 (s.v z.From) 0 0 0 0)) (cond (decide (z.Kind = 8)) (if Sn z.Expr.Args.length then sI s (s.call 13 (-1) z.Expr) else none) (cond (decide (z.Kind = 9)) (if Sn z.Expr.Args.length then sI s (s.call 12 (-1) z.Expr) else none)
      (cond (decide (z.Kind = 10)) (cond (!(z.From.toList == (⟨#[]⟩ : ByteArray).toList)) (sI s (ins3 16 (s.v z.From) 0 0 0 0)) (sI s (ins3 16 (-1) 0 0 0 0))) (sI s (ins3 0 0 0 0 0 0))))))))) := by
  obtain ⟨G, F, vB, V, fB, Fs, cB, C, M, a, b, c, d, n⟩ := s
  cases vB <;> cases fB <;> cases cB <;> kernel_rfl
def dRst0 (objs : List (TO U)) (args : List (TV U)) : Option (Int × Int × ByteArray × ByteArray × ByteArray × Int × ByteArray × ByteArray × Int × Int × List ByteArray × List R114 × List R114) := match objs, args with
  | [], [a0, a1] =>
    match a0 with
    | .ref 0 0 0 =>
      match a1 with
      | .agg [q0, q1, q2, q3, q4, q5, q6, q7, q8, q9, q10, q11, q12] =>
        match q0 with
        | .v (.int .i64 k) =>
          match q1 with
          | .v (.int .i64 a') =>
            match q2 with
            | .v (.string to) =>
              match q3 with
              | .v (.string fi) =>
                match q4 with
                | .v (.string fr) =>
                  match q5 with
                  | .v (.int .i64 ek) =>
                    match q6 with
                    | .v (.string ea) =>
                      match q7 with
                      | .v (.string eb) =>
                        match q8 with
                        | .v (.int .i64 eo) =>
                          match q9 with
                          | .v (.int .i64 en) =>
                            match q10 with
                            | .lst .str ar =>
                              match q11 with
                              | .lst .t114 bd =>
                                match q12 with
                                | .lst .t114 el =>
                                  some (k, a', to, fi, fr, ek, ea, eb, eo, en, ar, bd, el)
                                | _ => none
                              | _ => none
                            | _ => none
                          | _ => none
                        | _ => none
                      | _ => none
                    | _ => none
                  | _ => none
                | _ => none
              | _ => none
            | _ => none
          | _ => none
        | _ => none
      | _ => none
    | _ => none
  | _, _ => none
theorem dRst0_ok {objs : List (TO U)} {args : List (TV U)} {k : Int} {a' : Int} {to : ByteArray} {fi : ByteArray} {fr : ByteArray} {ek : Int} {ea : ByteArray} {eb : ByteArray} {eo : Int} {en : Int} {ar : List ByteArray} {bd : List R114} {el : List R114} (h : dRst0 objs args = some (k, a', to, fi, fr, ek, ea, eb, eo, en, ar, bd, el)) : objs = [] ∧ args = [.ref 0 0 0, .agg [.v (.int .i64 k), .v (.int .i64 a'), .v (.string to), .v (.string fi), .v (.string fr), .v (.int .i64 ek), .v (.string ea), .v (.string eb), .v (.int .i64 eo), .v (.int .i64 en), .lst .str ar, .lst .t114 bd, .lst .t114 el]] := by
  unfold dRst0 at h
  repeat' split at h
  all_goals first | (cases h; done) | (cases h; exact ⟨rfl, rfl⟩)
def dRst (objs : List (TO U)) (args : List (TV U)) : Option R114 := (dRst0 objs args).map fun (k, a, to, fi, fr, ek, ea, eb, eo, en, ar, bd, el) => .mk k a to fi fr ⟨ek, ea, eb, eo, en, ar⟩ bd el
theorem dRst_ok {objs : List (TO U)} {args : List (TV U)} {z : R114} (h : dRst objs args = some z) : objs = [] ∧ args = [.ref 0 0 0, stV z] := by
  unfold dRst at h
  obtain ⟨⟨k, a, to, fi, fr, ek, ea, eb, eo, en, ar, bd, el⟩, hx, he⟩ := Option.map_eq_some_iff.1 h
  cases he
  exact dRst0_ok hx
def sSimB : Spc U := .of (dW dRst) (fun (s, z) => Sn z.Expr.Args.length) (fun (s, _) => inB s) fun (s, z) => insV (s.one z)
theorem sSimB_ok : SpecOk Try.prog 114 sSimB := by
  refine fn_okw wkI X_ok mixed Lc_ok an114 lp0 Try.func114 (by kernel_rfl) (by kernel_rfl) (lp0_ok (by kernel_rfl)) fun objs args x hx hp => ?_
  obtain ⟨s, z⟩ := x
  obtain ⟨⟨rfl, hs⟩, hy⟩ := dW_ok hx
  obtain ⟨_, rfl⟩ := dRst_ok hy
  dsimp only at hp ⊢
  refine (e114 s z).trans ?_
  simp only [if_pos hp]
  show _ = sI s (s.one z)
  unfold LB.one
  simp only [cond_app (sI s)]
end Go.Proofs.Ytpkgikchphgfaaa.Lw

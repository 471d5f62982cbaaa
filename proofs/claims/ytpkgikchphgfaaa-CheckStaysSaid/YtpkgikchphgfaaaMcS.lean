/- Texts of this claim, put together: part 19. -/
import Derived.Test.YtpkgikchphgfaaaMcR
/- What is wrong of a program: expressions, statements. -/
namespace Go.Proofs.Ytpkgikchphgfaaa.Ck
open Go Go.RowKit Go.Proofs.Ytpkgikchphgfaaa.Eng Go.Proofs.Ytpkgikchphgfaaa.Fl
set_option linter.unusedVariables false
set_option linter.unusedSimpArgs false
set_option maxRecDepth 20000
noncomputable def Cc : FuncId → Option (Spc U)
  | 137 => some sCallS
  | f => Cb f
theorem Cc_ok : ∀ f S, Cc f = some S → SpecOk Try.prog f S := fun f S h => by
  unfold Cc at h
  split at h
  · cases h; exact sCallS_ok
  · exact Cb_ok _ _ h
theorem e134 (c : SC) (e : R112) (m : Int) (a : Int) : (evFn X Cc an0 lp0 Try.f134 (scO c)
  [TV.ref 0 0 0, e.tv, TV.v (Value.int IntKind.i64 m), TV.v (Value.int IntKind.i64 a)]
  fun (o : List (TO X.U)) (v : TV X.U) => some (o, v)) =
  bif decide (e.Kind = 2) then
  if True then
    some
      ([scC (c.want 2 m a), TO.mp C.m_str_i64 (c.want 2 m a).g false, TO.mp C.m_str_i64 (c.want 2 m a).f false,
          TO.mp C.m_str_i64 (c.want 2 m a).n false, TO.mp C.m_str_i64 (c.want 2 m a).w false],
        TV.tup [])
  else none
else
  bif decide (e.Kind = 6) then
    if True then
      some
        ([scC (c.want 2 m a), TO.mp C.m_str_i64 (c.want 2 m a).g false, TO.mp C.m_str_i64 (c.want 2 m a).f false,
            TO.mp C.m_str_i64 (c.want 2 m a).n false, TO.mp C.m_str_i64 (c.want 2 m a).w false],
          TV.tup [])
    else none
  else
    bif decide (e.Kind = 3) then
      if Pj 4 then
        if True then
          some
            ([scC ((c.typ 4 e.A a).fst.want (c.typ 4 e.A a).snd m a),
                TO.mp C.m_str_i64 ((c.typ 4 e.A a).fst.want (c.typ 4 e.A a).snd m a).g false,
                TO.mp C.m_str_i64 ((c.typ 4 e.A a).fst.want (c.typ 4 e.A a).snd m a).f false,
                TO.mp C.m_str_i64 ((c.typ 4 e.A a).fst.want (c.typ 4 e.A a).snd m a).n false,
                TO.mp C.m_str_i64 ((c.typ 4 e.A a).fst.want (c.typ 4 e.A a).snd m a).w false],
              TV.tup [])
        else none
      else none
    else
      bif decide (e.Kind = 4) then
        if Pj 1 then
          if True then
            some
              ([scC ((c.typ 1 e.A a).fst.want (c.typ 1 e.A a).snd m a),
                  TO.mp C.m_str_i64 ((c.typ 1 e.A a).fst.want (c.typ 1 e.A a).snd m a).g false,
                  TO.mp C.m_str_i64 ((c.typ 1 e.A a).fst.want (c.typ 1 e.A a).snd m a).f false,
                  TO.mp C.m_str_i64 ((c.typ 1 e.A a).fst.want (c.typ 1 e.A a).snd m a).n false,
                  TO.mp C.m_str_i64 ((c.typ 1 e.A a).fst.want (c.typ 1 e.A a).snd m a).w false],
                TV.tup [])
          else none
        else none
      else
        bif decide (e.Kind = 5) then
          if Pj 4 then
            if True then
              if Pj 2 then
                if True then
                  some
                    ([scC
                          ((((c.typ 4 e.A a).fst.want (c.typ 4 e.A a).snd 2 a).typ 2 e.B a).fst.want
                            (((c.typ 4 e.A a).fst.want (c.typ 4 e.A a).snd 2 a).typ 2 e.B a).snd m a),
                        TO.mp C.m_str_i64
                          ((((c.typ 4 e.A a).fst.want (c.typ 4 e.A a).snd 2 a).typ 2 e.B a).fst.want
                              (((c.typ 4 e.A a).fst.want (c.typ 4 e.A a).snd 2 a).typ 2 e.B a).snd m a).g
                          false,
                        TO.mp C.m_str_i64
                          ((((c.typ 4 e.A a).fst.want (c.typ 4 e.A a).snd 2 a).typ 2 e.B a).fst.want
                              (((c.typ 4 e.A a).fst.want (c.typ 4 e.A a).snd 2 a).typ 2 e.B a).snd m a).f
                          false,
                        TO.mp C.m_str_i64
                          ((((c.typ 4 e.A a).fst.want (c.typ 4 e.A a).snd 2 a).typ 2 e.B a).fst.want
                              (((c.typ 4 e.A a).fst.want (c.typ 4 e.A a).snd 2 a).typ 2 e.B a).snd m a).n
                          false,
                        TO.mp C.m_str_i64
                          ((((c.typ 4 e.A a).fst.want (c.typ 4 e.A a).snd 2 a).typ 2 e.B a).fst.want
                              (((c.typ 4 e.A a).fst.want (c.typ 4 e.A a).snd 2 a).typ 2 e.B a).snd m a).w
                          false],
                      TV.tup [])
                else none
              else none
            else none
          else none
        else
          bif decide (e.Kind = 7) then
            bif !(aget keS c.n e.A).isSome then
              if True then
                if True then
                  some
                    ([scC ((c.fail 183 a).want 3 m a), TO.mp C.m_str_i64 ((c.fail 183 a).want 3 m a).g false,
                        TO.mp C.m_str_i64 ((c.fail 183 a).want 3 m a).f false,
                        TO.mp C.m_str_i64 ((c.fail 183 a).want 3 m a).n false,
                        TO.mp C.m_str_i64 ((c.fail 183 a).want 3 m a).w false],
                      TV.tup [])
                else none
              else none
            else
              if True then
                some
                  ([scC (c.want 3 m a), TO.mp C.m_str_i64 (c.want 3 m a).g false,
                      TO.mp C.m_str_i64 (c.want 3 m a).f false, TO.mp C.m_str_i64 (c.want 3 m a).n false,
                      TO.mp C.m_str_i64 (c.want 3 m a).w false],
                    TV.tup [])
              else none
          else
            bif decide (e.Kind = 8) then
              if Pj 4 then
                if True then
                  if Pj 4 then
                    if True then
                      if True then
                        some
                          ([scC
                                (((((c.typ 4 e.A a).fst.want (c.typ 4 e.A a).snd 1 a).typ 4 e.B a).fst.want
                                      (((c.typ 4 e.A a).fst.want (c.typ 4 e.A a).snd 1 a).typ 4 e.B a).snd 1 a).want
                                  1 m a),
                              TO.mp C.m_str_i64
                                (((((c.typ 4 e.A a).fst.want (c.typ 4 e.A a).snd 1 a).typ 4 e.B a).fst.want
                                        (((c.typ 4 e.A a).fst.want (c.typ 4 e.A a).snd 1 a).typ 4 e.B a).snd 1 a).want
                                    1 m a).g
                                false,
                              TO.mp C.m_str_i64
                                (((((c.typ 4 e.A a).fst.want (c.typ 4 e.A a).snd 1 a).typ 4 e.B a).fst.want
                                        (((c.typ 4 e.A a).fst.want (c.typ 4 e.A a).snd 1 a).typ 4 e.B a).snd 1 a).want
                                    1 m a).f
                                false,
                              TO.mp C.m_str_i64
                                (((((c.typ 4 e.A a).fst.want (c.typ 4 e.A a).snd 1 a).typ 4 e.B a).fst.want
                                        (((c.typ 4 e.A a).fst.want (c.typ 4 e.A a).snd 1 a).typ 4 e.B a).snd 1 a).want
                                    1 m a).n
                                false,
                              TO.mp C.m_str_i64
                                (((((c.typ 4 e.A a).fst.want (c.typ 4 e.A a).snd 1 a).typ 4 e.B a).fst.want
                                        (((c.typ 4 e.A a).fst.want (c.typ 4 e.A a).snd 1 a).typ 4 e.B a).snd 1 a).want
                                    1 m a).w
                                false],
                            TV.tup [])
                      else none
                    else none
                  else none
                else none
              else none
            else
              bif decide (e.Kind = 9) then
                if Pj 4 then
                  if True then
                    if True then
                      some
                        ([scC (((c.typ 4 e.A a).fst.want (c.typ 4 e.A a).snd 1 a).want 1 m a),
                            TO.mp C.m_str_i64 (((c.typ 4 e.A a).fst.want (c.typ 4 e.A a).snd 1 a).want 1 m a).g false,
                            TO.mp C.m_str_i64 (((c.typ 4 e.A a).fst.want (c.typ 4 e.A a).snd 1 a).want 1 m a).f false,
                            TO.mp C.m_str_i64 (((c.typ 4 e.A a).fst.want (c.typ 4 e.A a).snd 1 a).want 1 m a).n false,
                            TO.mp C.m_str_i64 (((c.typ 4 e.A a).fst.want (c.typ 4 e.A a).snd 1 a).want 1 m a).w false],
                          TV.tup [])
                    else none
                  else none
                else none
              else
                bif decide (e.Kind = 10) then
                  if PreC c e then
                    if True then
                      some
                        ([scC ((c.call e a).fst.want (c.call e a).snd m a),
                            TO.mp C.m_str_i64 ((c.call e a).fst.want (c.call e a).snd m a).g false,
                            TO.mp C.m_str_i64 ((c.call e a).fst.want (c.call e a).snd m a).f false,
                            TO.mp C.m_str_i64 ((c.call e a).fst.want (c.call e a).snd m a).n false,
                            TO.mp C.m_str_i64 ((c.call e a).fst.want (c.call e a).snd m a).w false],
                          TV.tup [])
                    else none
                  else none
                else
                  bif decide (e.Kind = 11) then
                    if PreC c e then
                      if True then
                        some
                          ([scC ((c.call e a).fst.want m m a), TO.mp C.m_str_i64 ((c.call e a).fst.want m m a).g false,
                              TO.mp C.m_str_i64 ((c.call e a).fst.want m m a).f false,
                              TO.mp C.m_str_i64 ((c.call e a).fst.want m m a).n false,
                              TO.mp C.m_str_i64 ((c.call e a).fst.want m m a).w false],
                            TV.tup [])
                      else none
                    else none
                  else
                    if True then
                      some
                        ([scC (c.want 1 m a), TO.mp C.m_str_i64 (c.want 1 m a).g false,
                            TO.mp C.m_str_i64 (c.want 1 m a).f false, TO.mp C.m_str_i64 (c.want 1 m a).n false,
                            TO.mp C.m_str_i64 (c.want 1 m a).w false],
                          TV.tup [])
                    else none := by kernel_rfl
def SC.var (c : SC) (s : ByteArray) (t a : Int) : SC := (c.typ 4 s a).1.want (c.typ 4 s a).2 t a
def SC.expr (c : SC) (e : R112) (m a : Int) : SC :=
  cond (decide (e.Kind = 2)) (c.want 2 m a) (cond (decide (e.Kind = 6)) (c.want 2 m a) (cond (decide (e.Kind = 3)) (c.var e.A m a)
    (cond (decide (e.Kind = 4)) ((c.typ 1 e.A a).1.want (c.typ 1 e.A a).2 m a) (cond (decide (e.Kind = 5)) (((c.var e.A 2 a).typ 2 e.B a).1.want ((c.var e.A 2 a).typ 2 e.B a).2 m a)
      (cond (decide (e.Kind = 7)) (cond (!(aget keS c.n e.A).isSome) ((c.fail 183 a).want 3 m a) (c.want 3 m a)) (cond (decide (e.Kind = 8)) (((c.var e.A 1 a).var e.B 1 a).want 1 m a)
        (cond (decide (e.Kind = 9)) ((c.var e.A 1 a).want 1 m a) (cond (decide (e.Kind = 10)) ((c.call e a).1.want (c.call e a).2 m a) (cond (decide (e.Kind = 11)) ((c.call e a).1.want m m a) (c.want 1 m a))))))))))
theorem sc_cond (b : Bool) (x y : SC) (r : TV U) : cond b (some (scO x, r)) (some (scO y, r)) = some (scO (cond b x y), r) := by cases b <;> rfl
theorem SC.var_like (c : SC) (s : ByteArray) (t a : Int) : c.Like (c.var s t a) := (c.typ_like _ _ _).trans (SC.want_like _ _ _ _)
theorem SC.Like.cond {c x y : SC} (b : Bool) (h1 : c.Like x) (h2 : c.Like y) : c.Like (cond b x y) := by cases b <;> assumption
theorem SC.expr_like (c : SC) (e : R112) (m a : Int) : c.Like (c.expr e m a) := by
  unfold SC.expr
  refine .cond _ (c.want_like _ _ _) (.cond _ (c.want_like _ _ _) (.cond _ (c.var_like _ _ _) (.cond _ ((c.typ_like _ _ _).trans (SC.want_like _ _ _ _)) (.cond _ (((c.var_like _ _ _).trans (SC.typ_like _ _ _ _)).trans (SC.want_like _ _ _ _))
    (.cond _ (.cond _ ((c.fail_like _ _).trans (SC.want_like _ _ _ _)) (c.want_like _ _ _)) (.cond _ (((c.var_like _ _ _).trans (SC.var_like _ _ _ _)).trans (SC.want_like _ _ _ _)) (.cond _ ((c.var_like _ _ _).trans (SC.want_like _ _ _ _))
      (.cond _ ((c.call_like _ _).trans (SC.want_like _ _ _ _)) (.cond _ ((c.call_like _ _).trans (SC.want_like _ _ _ _)) (c.want_like _ _ _))))))))))
def dEma (objs : List (TO U)) (args : List (TV U)) : Option (R112 × Int × Int) := match objs, args with
  | [], [a0, a1, a2, a3] =>
    match a0 with
    | .ref 0 0 0 =>
      match a1 with
      | .agg [q0, q1, q2, q3, q4, q5] =>
        match q0 with
        | .v (.int .i64 e_Kind) =>
          match q1 with
          | .v (.string e_A) =>
            match q2 with
            | .v (.string e_B) =>
              match q3 with
              | .v (.int .i64 e_Op) =>
                match q4 with
                | .v (.int .i64 e_N) =>
                  match q5 with
                  | .lst .str e_Args =>
                    match a2 with
                    | .v (.int .i64 m) =>
                      match a3 with
                      | .v (.int .i64 a) =>
                        some ((⟨e_Kind, e_A, e_B, e_Op, e_N, e_Args⟩ : R112), m, a)
                      | _ => none
                    | _ => none
                  | _ => none
                | _ => none
              | _ => none
            | _ => none
          | _ => none
        | _ => none
      | _ => none
    | _ => none
  | _, _ => none
theorem dEma_ok {objs : List (TO U)} {args : List (TV U)} {e : R112} {m : Int} {a : Int} (h : dEma objs args = some (e, m, a)) : objs = [] ∧ args = [.ref 0 0 0, e.tv, .v (.int .i64 m), .v (.int .i64 a)] := by
  unfold dEma at h
  repeat' split at h
  all_goals first | (cases h; done) | (cases h; exact ⟨rfl, rfl⟩)
noncomputable def sExprS : Spc U := .of (dW dEma) (fun (c, e, m, a) => PreC c e) (fun (c, e, m, a) => scO (c.expr e m a)) fun _ => .tup []
theorem sExprS_ok : SpecOk Try.prog 134 sExprS := by
  refine fn_ok X_ok mixed Cc_ok an0 lp0 Try.func134 (by kernel_rfl) (by kernel_rfl) (lp0_ok (by kernel_rfl)) fun objs args x hx hp => ?_
  obtain ⟨c, e, m, a⟩ := x
  obtain ⟨rfl, h2⟩ := dW_ok hx
  obtain ⟨_, rfl⟩ := dEma_ok h2
  dsimp only at hp ⊢
  refine (e134 c e m a).trans ?_
  have h4 : Pj 4 := .inr (.inr rfl)
  have h1 : Pj 1 := .inl rfl
  have h3 : Pj 2 := .inr (.inl rfl)
  simp only [h1, h3, h4, hp, if_true]
  unfold SC.expr
  cases decide (e.Kind = 2) with
  | true => rfl
  | false =>
  cases decide (e.Kind = 6) with
  | true => rfl
  | false =>
  cases decide (e.Kind = 3) with
  | true => rfl
  | false =>
  cases decide (e.Kind = 4) with
  | true => rfl
  | false =>
  cases decide (e.Kind = 5) with
  | true => rfl
  | false =>
  cases decide (e.Kind = 7) with
  | true => cases (aget keS c.n e.A).isSome <;> rfl
  | false =>
  cases decide (e.Kind = 8) with
  | true => rfl
  | false =>
  cases decide (e.Kind = 9) with
  | true => rfl
  | false =>
  cases decide (e.Kind = 10) with
  | true => rfl
  | false => cases decide (e.Kind = 11) <;> rfl
/-! ### Statements -/
mutual
def stS : R114 → SC → SC
  | .mk k a to fi fr e b l, c => cond (decide (k = 1)) ((c.typ 4 to a).1.expr e (c.typ 4 to a).2 a) (cond (decide (k = 2)) ((c.typ 1 to a).1.var fr (c.typ 1 to a).2 a)
    (cond (decide (k = 3)) (((c.var to 2 a).typ 2 fi a).1.var fr ((c.var to 2 a).typ 2 fi a).2 a) (cond (decide (k = 4)) (stSL l (stSL b (c.var fr 1 a))) (cond (decide (k = 5)) (stSL l (stSL b (c.var fr 1 a)))
      (cond (decide (k = 6)) (c.var fr 2 a) (cond (decide (k = 7)) (c.var fr 2 a) (cond (decide (k = 8)) (c.call e a).1 (cond (decide (k = 9)) (c.call e a).1
        (cond (decide (k = 10)) (cond (!(fr.toList == (⟨#[]⟩ : ByteArray).toList)) ((c.typ 4 fr a).1.want (c.typ 4 fr a).2 (c.typ 4 fr a).1.Ret a) (c.want 0 c.Ret a)) c)))))))))
def stSL : List R114 → SC → SC
  | [], c => c
  | x :: l, c => stSL l (stS x c)
end
def PreL (c : SC) (n : Nat) : Prop := NOk c ∧ n ≤ 3000000
noncomputable instance (c : SC) (n : Nat) : Decidable (PreL c n) := Classical.propDecidable _
def dLS (objs : List (TO U)) (args : List (TV U)) : Option (List R114) := match objs, args with
  | [], [a0, a1] =>
    match a0 with
    | .ref 0 0 0 =>
      match a1 with
      | .lst .t114 l =>
        some l
      | _ => none
    | _ => none
  | _, _ => none
theorem dLS_ok {objs : List (TO U)} {args : List (TV U)} {l : List R114} (h : dLS objs args = some l) : objs = [] ∧ args = [.ref 0 0 0, .lst .t114 l] := by
  unfold dLS at h
  repeat' split at h
  all_goals first | (cases h; done) | (cases h; exact ⟨rfl, rfl⟩)
noncomputable def sBlkS (n : Nat) : Spc U := .of (dW dLS) (fun (c, l) => PreL c (cntL l) ∧ cntL l < n) (fun (c, l) => scO (stSL l c)) fun _ => .tup []
noncomputable def Cd (n : Nat) : FuncId → Option (Spc U)
  | 52 => some (sBlkS n)
  | 134 => some sExprS
  | f => Cc f
theorem Cd_ok {n : Nat} (h0 : SpecOk Try.prog 52 (sBlkS n)) : ∀ f S, Cd n f = some S → SpecOk Try.prog f S := fun f S h => by
  unfold Cd at h
  split at h
  · cases h; exact h0
  · cases h; exact sExprS_ok
  · exact Cc_ok _ _ h
def stV (z : R114) : TV U := .agg [.v (.int .i64 z.Kind), .v (.int .i64 z.At), .v (.string z.To), .v (.string z.Field), .v (.string z.From), .v (.int .i64 z.Expr.Kind), .v (.string z.Expr.A), .v (.string z.Expr.B), .v (.int .i64 z.Expr.Op), .v (.int .i64 z.Expr.N), .lst .str z.Expr.Args, .lst .t114 z.Body, .lst .t114 z.Else]
theorem e98 (n : Nat) (c : SC) (z : R114) : (evFn X (Cd n) an0 lp0 Try.f98 (scO c) [TV.ref 0 0 0, stV z]
  fun (o : List (TO X.U)) (v : TV X.U) => some (o, v)) =
  bif decide (z.Kind = 1) then
  if Pj 4 then
    if PreC (c.typ 4 z.To z.At).fst z.Expr then
      some
        ([scC ((c.typ 4 z.To z.At).fst.expr z.Expr (c.typ 4 z.To z.At).snd z.At),
            TO.mp C.m_str_i64 ((c.typ 4 z.To z.At).fst.expr z.Expr (c.typ 4 z.To z.At).snd z.At).g false,
            TO.mp C.m_str_i64 ((c.typ 4 z.To z.At).fst.expr z.Expr (c.typ 4 z.To z.At).snd z.At).f false,
            TO.mp C.m_str_i64 ((c.typ 4 z.To z.At).fst.expr z.Expr (c.typ 4 z.To z.At).snd z.At).n false,
            TO.mp C.m_str_i64 ((c.typ 4 z.To z.At).fst.expr z.Expr (c.typ 4 z.To z.At).snd z.At).w false],
          TV.tup [])
    else none
  else none
else
  bif decide (z.Kind = 2) then
    if Pj 1 then
      if Pj 4 then
        if True then
          some
            ([scC
                  (((c.typ 1 z.To z.At).fst.typ 4 z.From z.At).fst.want ((c.typ 1 z.To z.At).fst.typ 4 z.From z.At).snd
                    (c.typ 1 z.To z.At).snd z.At),
                TO.mp C.m_str_i64
                  (((c.typ 1 z.To z.At).fst.typ 4 z.From z.At).fst.want ((c.typ 1 z.To z.At).fst.typ 4 z.From z.At).snd
                      (c.typ 1 z.To z.At).snd z.At).g
                  false,
                TO.mp C.m_str_i64
                  (((c.typ 1 z.To z.At).fst.typ 4 z.From z.At).fst.want ((c.typ 1 z.To z.At).fst.typ 4 z.From z.At).snd
                      (c.typ 1 z.To z.At).snd z.At).f
                  false,
                TO.mp C.m_str_i64
                  (((c.typ 1 z.To z.At).fst.typ 4 z.From z.At).fst.want ((c.typ 1 z.To z.At).fst.typ 4 z.From z.At).snd
                      (c.typ 1 z.To z.At).snd z.At).n
                  false,
                TO.mp C.m_str_i64
                  (((c.typ 1 z.To z.At).fst.typ 4 z.From z.At).fst.want ((c.typ 1 z.To z.At).fst.typ 4 z.From z.At).snd
                      (c.typ 1 z.To z.At).snd z.At).w
                  false],
              TV.tup [])
        else none
      else none
    else none
  else
    bif decide (z.Kind = 3) then
      if Pj 4 then
        if True then
          if Pj 2 then
            if Pj 4 then
              if True then
                some
                  ([scC
                        (((((c.typ 4 z.To z.At).fst.want (c.typ 4 z.To z.At).snd 2 z.At).typ 2 z.Field z.At).fst.typ 4
                                z.From z.At).fst.want
                          ((((c.typ 4 z.To z.At).fst.want (c.typ 4 z.To z.At).snd 2 z.At).typ 2 z.Field z.At).fst.typ 4
                              z.From z.At).snd
                          (((c.typ 4 z.To z.At).fst.want (c.typ 4 z.To z.At).snd 2 z.At).typ 2 z.Field z.At).snd z.At),
                      TO.mp C.m_str_i64
                        (((((c.typ 4 z.To z.At).fst.want (c.typ 4 z.To z.At).snd 2 z.At).typ 2 z.Field z.At).fst.typ 4
                                  z.From z.At).fst.want
                            ((((c.typ 4 z.To z.At).fst.want (c.typ 4 z.To z.At).snd 2 z.At).typ 2 z.Field z.At).fst.typ
                                4 z.From z.At).snd
                            (((c.typ 4 z.To z.At).fst.want (c.typ 4 z.To z.At).snd 2 z.At).typ 2 z.Field z.At).snd
                            z.At).g
                        false,
                      TO.mp C.m_str_i64
                        (((((c.typ 4 z.To z.At).fst.want (c.typ 4 z.To z.At).snd 2 z.At).typ 2 z.Field z.At).fst.typ 4
                                  z.From z.At).fst.want
                            ((((c.typ 4 z.To z.At).fst.want (c.typ 4 z.To z.At).snd 2 z.At).typ 2 z.Field z.At).fst.typ
                                4 z.From z.At).snd
                            (((c.typ 4 z.To z.At).fst.want (c.typ 4 z.To z.At).snd 2 z.At).typ 2 z.Field z.At).snd
                            z.At).f
                        false,
                      TO.mp C.m_str_i64
                        (((((c.typ 4 z.To z.At).fst.want (c.typ 4 z.To z.At).snd 2 z.At).typ 2 z.Field z.At).fst.typ 4
                                  z.From z.At).fst.want
                            ((((c.typ 4 z.To z.At).fst.want (c.typ 4 z.To z.At).snd 2 z.At).typ 2 z.Field z.At).fst.typ
                                4 z.From z.At).snd
                            (((c.typ 4 z.To z.At).fst.want (c.typ 4 z.To z.At).snd 2 z.At).typ 2 z.Field z.At).snd
                            z.At).n
                        false,
                      TO.mp C.m_str_i64
                        (((((c.typ 4 z.To z.At).fst.want (c.typ 4 z.To z.At).snd 2 z.At).typ 2 z.Field z.At).fst.typ 4
                                  z.From z.At).fst.want
                            ((((c.typ 4 z.To z.At).fst.want (c.typ 4 z.To z.At).snd 2 z.At).typ 2 z.Field z.At).fst.typ
                                4 z.From z.At).snd
                            (((c.typ 4 z.To z.At).fst.want (c.typ 4 z.To z.At).snd 2 z.At).typ 2 z.Field z.At).snd
                            z.At).w
                        false],
                    TV.tup [])
              else none
            else none
          else none
        else none
      else none
    else
      bif decide (z.Kind = 4) then
        if Pj 4 then
          if True then
            if
                PreL ((c.typ 4 z.From z.At).fst.want (c.typ 4 z.From z.At).snd 1 z.At) (cntL z.Body) ∧
                  cntL z.Body < n then
              if
                  PreL (stSL z.Body ((c.typ 4 z.From z.At).fst.want (c.typ 4 z.From z.At).snd 1 z.At)) (cntL z.Else) ∧
                    cntL z.Else < n then
                some
                  ([scC (stSL z.Else (stSL z.Body ((c.typ 4 z.From z.At).fst.want (c.typ 4 z.From z.At).snd 1 z.At))),
                      TO.mp C.m_str_i64
                        (stSL z.Else (stSL z.Body ((c.typ 4 z.From z.At).fst.want (c.typ 4 z.From z.At).snd 1 z.At))).g
                        false,
                      TO.mp C.m_str_i64
                        (stSL z.Else (stSL z.Body ((c.typ 4 z.From z.At).fst.want (c.typ 4 z.From z.At).snd 1 z.At))).f
                        false,
                      TO.mp C.m_str_i64
                        (stSL z.Else (stSL z.Body ((c.typ 4 z.From z.At).fst.want (c.typ 4 z.From z.At).snd 1 z.At))).n
                        false,
                      TO.mp C.m_str_i64
                        (stSL z.Else (stSL z.Body ((c.typ 4 z.From z.At).fst.want (c.typ 4 z.From z.At).snd 1 z.At))).w
                        false],
                    TV.tup [])
              else none
            else none
          else none
        else none
      else
        bif decide (z.Kind = 5) then
          if Pj 4 then
            if True then
              if
                  PreL ((c.typ 4 z.From z.At).fst.want (c.typ 4 z.From z.At).snd 1 z.At) (cntL z.Body) ∧
                    cntL z.Body < n then
                if
                    PreL (stSL z.Body ((c.typ 4 z.From z.At).fst.want (c.typ 4 z.From z.At).snd 1 z.At)) (cntL z.Else) ∧
                      cntL z.Else < n then
                  some
                    ([scC (stSL z.Else (stSL z.Body ((c.typ 4 z.From z.At).fst.want (c.typ 4 z.From z.At).snd 1 z.At))),
                        TO.mp C.m_str_i64
                          (stSL z.Else
                              (stSL z.Body ((c.typ 4 z.From z.At).fst.want (c.typ 4 z.From z.At).snd 1 z.At))).g
                          false,
                        TO.mp C.m_str_i64
                          (stSL z.Else
                              (stSL z.Body ((c.typ 4 z.From z.At).fst.want (c.typ 4 z.From z.At).snd 1 z.At))).f
                          false,
                        TO.mp C.m_str_i64
                          (stSL z.Else
                              (stSL z.Body ((c.typ 4 z.From z.At).fst.want (c.typ 4 z.From z.At).snd 1 z.At))).n
                          false,
                        TO.mp C.m_str_i64
                          (stSL z.Else
                              (stSL z.Body ((c.typ 4 z.From z.At).fst.want (c.typ 4 z.From z.At).snd 1 z.At))).w
                          false],
                      TV.tup [])
                else none
              else none
            else none
          else none
        else
          bif decide (z.Kind = 6) then
            if Pj 4 then
              if True then
                some
                  ([scC ((c.typ 4 z.From z.At).fst.want (c.typ 4 z.From z.At).snd 2 z.At),
                      TO.mp C.m_str_i64 ((c.typ 4 z.From z.At).fst.want (c.typ 4 z.From z.At).snd 2 z.At).g false,
                      TO.mp C.m_str_i64 ((c.typ 4 z.From z.At).fst.want (c.typ 4 z.From z.At).snd 2 z.At).f false,
                      TO.mp C.m_str_i64 ((c.typ 4 z.From z.At).fst.want (c.typ 4 z.From z.At).snd 2 z.At).n false,
                      TO.mp C.m_str_i64 ((c.typ 4 z.From z.At).fst.want (c.typ 4 z.From z.At).snd 2 z.At).w false],
                    TV.tup [])
              else none
            else none
          else
            bif decide (z.Kind = 7) then
              if Pj 4 then
                if True then
                  some
                    ([scC ((c.typ 4 z.From z.At).fst.want (c.typ 4 z.From z.At).snd 2 z.At),
                        TO.mp C.m_str_i64 ((c.typ 4 z.From z.At).fst.want (c.typ 4 z.From z.At).snd 2 z.At).g false,
                        TO.mp C.m_str_i64 ((c.typ 4 z.From z.At).fst.want (c.typ 4 z.From z.At).snd 2 z.At).f false,
                        TO.mp C.m_str_i64 ((c.typ 4 z.From z.At).fst.want (c.typ 4 z.From z.At).snd 2 z.At).n false,
                        TO.mp C.m_str_i64 ((c.typ 4 z.From z.At).fst.want (c.typ 4 z.From z.At).snd 2 z.At).w false],
                      TV.tup [])
                else none
              else none
            else
              bif decide (z.Kind = 8) then
                if PreC c z.Expr then
                  some
                    ([scC (c.call z.Expr z.At).fst, TO.mp C.m_str_i64 (c.call z.Expr z.At).fst.g false,
                        TO.mp C.m_str_i64 (c.call z.Expr z.At).fst.f false,
                        TO.mp C.m_str_i64 (c.call z.Expr z.At).fst.n false,
                        TO.mp C.m_str_i64 (c.call z.Expr z.At).fst.w false],
                      TV.tup [])
                else none
              else
                bif decide (z.Kind = 9) then
                  if PreC c z.Expr then
                    some
                      ([scC (c.call z.Expr z.At).fst, TO.mp C.m_str_i64 (c.call z.Expr z.At).fst.g false,
                          TO.mp C.m_str_i64 (c.call z.Expr z.At).fst.f false,
                          TO.mp C.m_str_i64 (c.call z.Expr z.At).fst.n false,
                          TO.mp C.m_str_i64 (c.call z.Expr z.At).fst.w false],
                        TV.tup [])
                  else none
                else
                  bif decide (z.Kind = 10) then
                    bif !z.From.toList == (⟨#[]⟩ : ByteArray).toList then
                      if Pj 4 then
                        if True then
                          some
                            ([scC
                                  ((c.typ 4 z.From z.At).fst.want (c.typ 4 z.From z.At).snd
                                    (c.typ 4 z.From z.At).fst.Ret z.At),
                                TO.mp C.m_str_i64
                                  ((c.typ 4 z.From z.At).fst.want (c.typ 4 z.From z.At).snd
                                      (c.typ 4 z.From z.At).fst.Ret z.At).g
                                  false,
                                TO.mp C.m_str_i64
                                  ((c.typ 4 z.From z.At).fst.want (c.typ 4 z.From z.At).snd
                                      (c.typ 4 z.From z.At).fst.Ret z.At).f
                                  false,
                                TO.mp C.m_str_i64
                                  ((c.typ 4 z.From z.At).fst.want (c.typ 4 z.From z.At).snd
                                      (c.typ 4 z.From z.At).fst.Ret z.At).n
                                  false,
                                TO.mp C.m_str_i64
                                  ((c.typ 4 z.From z.At).fst.want (c.typ 4 z.From z.At).snd
                                      (c.typ 4 z.From z.At).fst.Ret z.At).w
                                  false],
                              TV.tup [])
                        else none
                      else none
                    else
                      if True then
                        some
                          ([scC (c.want 0 c.Ret z.At), TO.mp C.m_str_i64 (c.want 0 c.Ret z.At).g false,
                              TO.mp C.m_str_i64 (c.want 0 c.Ret z.At).f false,
                              TO.mp C.m_str_i64 (c.want 0 c.Ret z.At).n false,
                              TO.mp C.m_str_i64 (c.want 0 c.Ret z.At).w false],
                            TV.tup [])
                      else none
                  else
                    some
                      ([scC c, TO.mp C.m_str_i64 c.g false, TO.mp C.m_str_i64 c.f false, TO.mp C.m_str_i64 c.n false,
                          TO.mp C.m_str_i64 c.w false],
                        TV.tup []) := by kernel_rfl
theorem NOk.like {c d : SC} (h : NOk c) (hl : c.Like d) : NOk d := by
  obtain ⟨k, a, rfl⟩ := hl
  exact h
mutual
theorem stS_like : ∀ (z : R114) (c : SC), c.Like (stS z c)
  | .mk k a to fi fr e b l, c => by
    unfold stS
    exact .cond _ ((c.typ_like _ _ _).trans (SC.expr_like _ _ _ _)) (.cond _ ((c.typ_like _ _ _).trans (SC.var_like _ _ _ _)) (.cond _ (((c.var_like _ _ _).trans (SC.typ_like _ _ _ _)).trans (SC.var_like _ _ _ _))
      (.cond _ (((c.var_like _ _ _).trans (stSL_like b _)).trans (stSL_like l _)) (.cond _ (((c.var_like _ _ _).trans (stSL_like b _)).trans (stSL_like l _)) (.cond _ (c.var_like _ _ _) (.cond _ (c.var_like _ _ _) (.cond _ (c.call_like _ _) (.cond _ (c.call_like _ _)
        (.cond _ (.cond _ ((c.typ_like _ _ _).trans (SC.want_like _ _ _ _)) (c.want_like _ _ _)) (.refl _))))))))))
theorem stSL_like : ∀ (l : List R114) (c : SC), c.Like (stSL l c)
  | [], c => .refl c
  | x :: l, c => by
    unfold stSL
    exact (stS_like x c).trans (stSL_like l _)
end
theorem stSL_fold : ∀ (l : List R114) (c : SC), stSL l c = l.foldl (fun c z => stS z c) c
  | [], c => rfl
  | x :: l, c => by rw [stSL, stSL_fold l, List.foldl_cons]
theorem stS_eq (z : R114) (c : SC) : stS z c = cond (decide (z.Kind = 1)) ((c.typ 4 z.To z.At).1.expr z.Expr (c.typ 4 z.To z.At).2 z.At) (cond (decide (z.Kind = 2)) ((c.typ 1 z.To z.At).1.var z.From (c.typ 1 z.To z.At).2 z.At)
    (cond (decide (z.Kind = 3)) (((c.var z.To 2 z.At).typ 2 z.Field z.At).1.var z.From ((c.var z.To 2 z.At).typ 2 z.Field z.At).2 z.At) (cond (decide (z.Kind = 4)) (stSL z.Else (stSL z.Body (c.var z.From 1 z.At))) (cond (decide (z.Kind = 5)) (stSL z.Else (stSL z.Body (c.var z.From 1 z.At)))
      (cond (decide (z.Kind = 6)) (c.var z.From 2 z.At) (cond (decide (z.Kind = 7)) (c.var z.From 2 z.At) (cond (decide (z.Kind = 8)) (c.call z.Expr z.At).1 (cond (decide (z.Kind = 9)) (c.call z.Expr z.At).1
        (cond (decide (z.Kind = 10)) (cond (!(z.From.toList == (⟨#[]⟩ : ByteArray).toList)) ((c.typ 4 z.From z.At).1.want (c.typ 4 z.From z.At).2 (c.typ 4 z.From z.At).1.Ret z.At) (c.want 0 c.Ret z.At)) c))))))))) := by cases z; rw [stS]; rfl
def dStz (objs : List (TO U)) (args : List (TV U)) : Option (Int × Int × ByteArray × ByteArray × ByteArray × Int × ByteArray × ByteArray × Int × Int × List ByteArray × List R114 × List R114) := match objs, args with
  | [], [a0, a1] =>
    match a0 with
    | .ref 0 0 0 =>
      match a1 with
      | .agg [q0, q1, q2, q3, q4, q5, q6, q7, q8, q9, q10, q11, q12] =>
        match q0 with
        | .v (.int .i64 k) =>
          match q1 with
          | .v (.int .i64 a) =>
            match q2 with
            | .v (.string to) =>
              match q3 with
              | .v (.string fi) =>
                match q4 with
                | .v (.string fr) =>
                  match q5 with
                  | .v (.int .i64 ek) =>
                    match q6 with
                    | .v (.string ea) =>
                      match q7 with
                      | .v (.string eb) =>
                        match q8 with
                        | .v (.int .i64 eo) =>
                          match q9 with
                          | .v (.int .i64 en) =>
                            match q10 with
                            | .lst .str ar =>
                              match q11 with
                              | .lst .t114 bd =>
                                match q12 with
                                | .lst .t114 el =>
                                  some (k, a, to, fi, fr, ek, ea, eb, eo, en, ar, bd, el)
                                | _ => none
                              | _ => none
                            | _ => none
                          | _ => none
                        | _ => none
                      | _ => none
                    | _ => none
                  | _ => none
                | _ => none
              | _ => none
            | _ => none
          | _ => none
        | _ => none
      | _ => none
    | _ => none
  | _, _ => none
theorem dStz_ok {objs : List (TO U)} {args : List (TV U)} {k : Int} {a : Int} {to : ByteArray} {fi : ByteArray} {fr : ByteArray} {ek : Int} {ea : ByteArray} {eb : ByteArray} {eo : Int} {en : Int} {ar : List ByteArray} {bd : List R114} {el : List R114} (h : dStz objs args = some (k, a, to, fi, fr, ek, ea, eb, eo, en, ar, bd, el)) : objs = [] ∧ args = [.ref 0 0 0, .agg [.v (.int .i64 k), .v (.int .i64 a), .v (.string to), .v (.string fi), .v (.string fr), .v (.int .i64 ek), .v (.string ea), .v (.string eb), .v (.int .i64 eo), .v (.int .i64 en), .lst .str ar, .lst .t114 bd, .lst .t114 el]] := by
  unfold dStz at h
  repeat' split at h
  all_goals first | (cases h; done) | (cases h; exact ⟨rfl, rfl⟩)
def dSt (objs : List (TO U)) (args : List (TV U)) : Option R114 := (dStz objs args).map fun (k, a, to, fi, fr, ek, ea, eb, eo, en, ar, bd, el) => .mk k a to fi fr ⟨ek, ea, eb, eo, en, ar⟩ bd el
theorem dSt_ok {objs : List (TO U)} {args : List (TV U)} {z : R114} (h : dSt objs args = some z) : args = [.ref 0 0 0, stV z] := by
  unfold dSt at h
  obtain ⟨⟨k, a, to, fi, fr, ek, ea, eb, eo, en, ar, bd, el⟩, hx, rfl⟩ := Option.map_eq_some_iff.1 h
  exact (dStz_ok hx).2
noncomputable def sStmS (n : Nat) : Spc U := .of (dW dSt) (fun (c, z) => PreL c (cntS z) ∧ cntS z ≤ n) (fun (c, z) => scO (stS z c)) fun _ => .tup []
theorem stm_of {n : Nat} (h0 : SpecOk Try.prog 52 (sBlkS n)) : SpecOk Try.prog 98 (sStmS n) := by
  refine fn_ok X_ok mixed (Cd_ok h0) an0 lp0 Try.func98 (by kernel_rfl) (by kernel_rfl) (lp0_ok (by kernel_rfl)) fun objs args x hx hp => ?_
  obtain ⟨c, z⟩ := x
  obtain ⟨rfl, h2⟩ := dW_ok hx
  obtain rfl := dSt_ok h2
  dsimp only at hp ⊢
  obtain ⟨⟨hs, h3⟩, hn⟩ := hp
  refine (e98 n c z).trans ?_
  rw [cntS_eq] at h3 hn
  have h4 : Pj 4 := .inr (.inr rfl)
  have h1 : Pj 1 := .inl rfl
  have h2 : Pj 2 := .inr (.inl rfl)
  have g1 : PreC (c.typ 4 z.To z.At).1 z.Expr := ⟨hs.like (c.typ_like _ _ _), by omega⟩
  have g4 : PreL ((c.typ 4 z.From z.At).1.want (c.typ 4 z.From z.At).2 1 z.At) (cntL z.Body) ∧ cntL z.Body < n := ⟨⟨hs.like (c.var_like _ _ _), by omega⟩, by omega⟩
  have g5 : PreL (stSL z.Body ((c.typ 4 z.From z.At).1.want (c.typ 4 z.From z.At).2 1 z.At)) (cntL z.Else) ∧ cntL z.Else < n := ⟨⟨hs.like ((c.var_like z.From 1 z.At).trans (stSL_like z.Body _)), by omega⟩, by omega⟩
  have g6 : PreC c z.Expr := ⟨hs, by omega⟩
  simp only [h1, h2, h4, g1, g4, g5, g6, and_self, if_true]
  rw [stS_eq]
  cases decide (z.Kind = 1) with
  | true => rfl
  | false =>
  cases decide (z.Kind = 2) with
  | true => rfl
  | false =>
  cases decide (z.Kind = 3) with
  | true => rfl
  | false =>
  cases decide (z.Kind = 4) with
  | true => rfl
  | false =>
  cases decide (z.Kind = 5) with
  | true => rfl
  | false =>
  cases decide (z.Kind = 6) with
  | true => rfl
  | false =>
  cases decide (z.Kind = 7) with
  | true => rfl
  | false =>
  cases decide (z.Kind = 8) with
  | true => rfl
  | false =>
  cases decide (z.Kind = 9) with
  | true => rfl
  | false =>
  cases decide (z.Kind = 10) with
  | false => rfl
  | true => cases z.From.toList == (⟨#[]⟩ : ByteArray).toList <;> rfl
/-! ### Rows of statements -/
def an52 : Ann := ⟨fun | 0 => 449 | _ => 0, fun | 0 => 0 | _ => 0, fun _ => [], false⟩
noncomputable def Ce (n : Nat) : FuncId → Option (Spc U)
  | 98 => some (sStmS n)
  | _ => none
theorem Ce_ok {n : Nat} (h0 : SpecOk Try.prog 52 (sBlkS n)) : ∀ f S, Ce n f = some S → SpecOk Try.prog f S := fun f S h => by
  unfold Ce at h
  split at h
  · cases h; exact stm_of h0
  · cases h
end Go.Proofs.Ytpkgikchphgfaaa.Ck


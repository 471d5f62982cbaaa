/- Texts of this claim, put together: part 9. -/
import Derived.Test.YtpkgikchphgfaaaMlF
import Derived.Test.YtpkgikchphgfaaaMlH
/- The references' parser. -/
namespace Go.Proofs.Ytpkgikchphgfaaa.Fl
open Go Go.RowKit Go.Proofs.Ytpkgikchphgfaaa.Eng
set_option linter.unusedVariables false
set_option linter.unusedSimpArgs false
set_option maxRecDepth 20000
def dl34 (s : TS U) : Option (Int × Int × PS) := match told s 116 [2, 3, 6, 7] 0, s.objs with
  | some [a0, a1, a2, a3], [o0, o1, o2, o3] =>
    match o0 with
    | .cells [q0, q1, q2] false =>
      match q0 with
      | .v (.slice none 0 0) =>
        match q1 with
        | .v (.slice none 0 0) =>
          match q2 with
          | .v (.slice none 0 0) =>
            match o1 with
            | .cells [q3, q4] false =>
              match q3 with
              | .v (.int .i64 z1) =>
                match q4 with
                | .v (.int .i64 z2) =>
                  match o2 with
                  | .cells [q5, q6, q7, q8, q9, q10] false =>
                    match q5 with
                    | .lst .t53 q_L =>
                      match q6 with
                      | .v (.int .i64 q_At) =>
                        match q7 with
                        | .v (.int .i64 q_Deep) =>
                          match q8 with
                          | .v (.int .i64 q_Many) =>
                            match q9 with
                            | .v (.int .i64 q_Code) =>
                              match q10 with
                              | .v (.int .i64 q_FAt) =>
                                match o3 with
                                | .cells [q11, q12, q13] false =>
                                  match q11 with
                                  | .v (.slice none 0 0) =>
                                    match q12 with
                                    | .v (.slice none 0 0) =>
                                      match q13 with
                                      | .v (.slice none 0 0) =>
                                        match a0 with
                                        | .ref 0 0 0 =>
                                          match a1 with
                                          | .ref 1 0 0 =>
                                            match a2 with
                                            | .ref 2 0 0 =>
                                              match a3 with
                                              | .ref 3 0 0 =>
                                                some (z1, z2, (⟨q_L, q_At, q_Deep, q_Many, q_Code, q_FAt⟩ : PS))
                                              | _ => none
                                            | _ => none
                                          | _ => none
                                        | _ => none
                                      | _ => none
                                    | _ => none
                                  | _ => none
                                | _ => none
                              | _ => none
                            | _ => none
                          | _ => none
                        | _ => none
                      | _ => none
                    | _ => none
                  | _ => none
                | _ => none
              | _ => none
            | _ => none
          | _ => none
        | _ => none
      | _ => none
    | _ => none
  | _, _ => none
theorem dl34_ok {s : TS U} {z1 : Int} {z2 : Int} {q : PS} (h : dl34 s = some (z1, z2, q)) : s = mkS (U := U) 116 ([2, 3, 6, 7].zip ([.ref 0 0 0, .ref 1 0 0, .ref 2 0 0, .ref 3 0 0] : List (TV U))) ([.cells [.v (.slice none 0 0), .v (.slice none 0 0), .v (.slice none 0 0)] false, .cells [.v (.int .i64 z1), .v (.int .i64 z2)] false, q.ob, .cells [.v (.slice none 0 0), .v (.slice none 0 0), .v (.slice none 0 0)] false] : List (TO U)) 0 := by
  unfold dl34 at h
  split at h <;> try (cases h; done)
  rename_i ht ho
  have hs := told_ok ht
  rw [ho] at hs
  repeat' split at h
  all_goals first | (cases h; done) | (cases h; exact hs)
def Pre34 (q : PS) (z1 z2 : Int) : Prop := q.Ok ∧ z1 = 0 ∧ z2 = 0
noncomputable instance (q : PS) (z1 z2 : Int) : Decidable (Pre34 q z1 z2) := Classical.propDecidable _
def progP (q : PS) : PR := progL (q.left + 1) q [] [] []
noncomputable def lc34 : LC U := .ofG dl34 (fun (z1, z2, q) => Pre34 q z1 z2)
  (fun (z1, z2, q) K => lsp (progP q).g fun g => lsp (progP q).f fun f => lsp (progP q).n fun n => K (.exit 0) (S34 (progP q).q g f n)) (fun _ => .exit 0)
  (fun (z1, z2, q) => S34 (progP q).q (progP q).g (progP q).f (progP q).n) fun x K => by obtain ⟨z1, z2, q⟩ := x; dsimp only; rw [lsp_eq, lsp_eq, lsp_eq]
noncomputable def lp34 : Lp U := lpL [(0, lc34)]
theorem lp34_ok : ∀ c, Try.f21.body = some c → LpOk X Em an34 lp34 (loops c 0) := lpL_ok (by kernel_rfl) fun b L hm st p hs => by
  cases hm with
  | tail _ h => cases h
  | head =>
    obtain ⟨⟨z1, z2, q⟩, hx, ⟨h1, rfl, rfl⟩, rfl⟩ := LC.ofG_some (fun x K => by obtain ⟨z1, z2, q⟩ := x; dsimp only; rw [lsp_eq, lsp_eq, lsp_eq]) hs
    obtain rfl := dl34_ok hx
    have h2 := h1.left_le
    have h4 := h1.len
    exact ⟨_, rounds34 _ _ q [] [] [] h1 (Nat.le_refl _) (by rw [List.length_nil]; omega) (by rw [List.length_nil]; omega) (by rw [List.length_nil]; omega)⟩
def wkT : Lw U := .a [.a [.l .t82, .l .t82, .l .t90], .no]
theorem e34 (s : ByteArray) : (evFn X Em an34 lp34 Try.f21 [] [TV.v (Value.string s)] fun (o : List (TO X.U)) (v : TV X.U) => some (o, wkT.f v)) = if s.size ≤ 100000 then bif lexF s then bif !decide (lexC s = 0) then some ([], TV.tup [TV.agg [TV.lst C.t82 [], TV.lst C.t82 [], TV.lst C.t90 []], TV.agg [TV.v (Value.int IntKind.i64 (lexC s)), TV.v (Value.int IntKind.i64 (lexA s))]]) else none else if Pre34 { L := lexL s, At := 0, Deep := 0, Many := 0, Code := 0, FAt := 0 } 0 0 then bif (progP { L := lexL s, At := 0, Deep := 0, Many := 0, Code := 0, FAt := 0 }).g.isEmpty then bif (progP { L := lexL s, At := 0, Deep := 0, Many := 0, Code := 0, FAt := 0 }).f.isEmpty then bif (progP { L := lexL s, At := 0, Deep := 0, Many := 0, Code := 0, FAt := 0 }).n.isEmpty then bif !decide ((progP { L := lexL s, At := 0, Deep := 0, Many := 0, Code := 0, FAt := 0 }).q.Code = 0) then some ([], TV.tup [TV.agg [TV.lst C.t82 [], TV.lst C.t82 [], TV.lst C.t90 []], TV.agg [TV.v (Value.int IntKind.i64 (progP { L := lexL s, At := 0, Deep := 0, Many := 0, Code := 0, FAt := 0 }).q.Code), TV.v (Value.int IntKind.i64 (progP { L := lexL s, At := 0, Deep := 0, Many := 0, Code := 0, FAt := 0 }).q.FAt)]]) else some ([], TV.tup [TV.agg [TV.lst C.t82 [], TV.lst C.t82 [], TV.lst C.t90 []], TV.agg [TV.v (Value.int IntKind.i64 0), TV.v (Value.int IntKind.i64 0)]]) else (unc (progP { L := lexL s, At := 0, Deep := 0, Many := 0, Code := 0, FAt := 0 }).n).bind fun (x : R90 × List R90) => bif !decide ((progP { L := lexL s, At := 0, Deep := 0, Many := 0, Code := 0, FAt := 0 }).q.Code = 0) then some ([], TV.tup [TV.agg [TV.lst C.t82 [], TV.lst C.t82 [], TV.lst C.t90 []], TV.agg [TV.v (Value.int IntKind.i64 (progP { L := lexL s, At := 0, Deep := 0, Many := 0, Code := 0, FAt := 0 }).q.Code), TV.v (Value.int IntKind.i64 (progP { L := lexL s, At := 0, Deep := 0, Many := 0, Code := 0, FAt := 0 }).q.FAt)]]) else some ([], TV.tup [TV.agg [TV.lst C.t82 [], TV.lst C.t82 [], TV.lst C.t90 (x.fst :: x.snd)], TV.agg [TV.v (Value.int IntKind.i64 0), TV.v (Value.int IntKind.i64 0)]]) else (unc (progP { L := lexL s, At := 0, Deep := 0, Many := 0, Code := 0, FAt := 0 }).f).bind fun (x : R82 × List R82) => bif (progP { L := lexL s, At := 0, Deep := 0, Many := 0, Code := 0, FAt := 0 }).n.isEmpty then bif !decide ((progP { L := lexL s, At := 0, Deep := 0, Many := 0, Code := 0, FAt := 0 }).q.Code = 0) then some ([], TV.tup [TV.agg [TV.lst C.t82 [], TV.lst C.t82 [], TV.lst C.t90 []], TV.agg [TV.v (Value.int IntKind.i64 (progP { L := lexL s, At := 0, Deep := 0, Many := 0, Code := 0, FAt := 0 }).q.Code), TV.v (Value.int IntKind.i64 (progP { L := lexL s, At := 0, Deep := 0, Many := 0, Code := 0, FAt := 0 }).q.FAt)]]) else some ([], TV.tup [TV.agg [TV.lst C.t82 [], TV.lst C.t82 (x.fst :: x.snd), TV.lst C.t90 []], TV.agg [TV.v (Value.int IntKind.i64 0), TV.v (Value.int IntKind.i64 0)]]) else (unc (progP { L := lexL s, At := 0, Deep := 0, Many := 0, Code := 0, FAt := 0 }).n).bind fun (x_1 : R90 × List R90) => bif !decide ((progP { L := lexL s, At := 0, Deep := 0, Many := 0, Code := 0, FAt := 0 }).q.Code = 0) then some ([], TV.tup [TV.agg [TV.lst C.t82 [], TV.lst C.t82 [], TV.lst C.t90 []], TV.agg [TV.v (Value.int IntKind.i64 (progP { L := lexL s, At := 0, Deep := 0, Many := 0, Code := 0, FAt := 0 }).q.Code), TV.v (Value.int IntKind.i64 (progP { L := lexL s, At := 0, Deep := 0, Many := 0, Code := 0, FAt := 0 }).q.FAt)]]) else some ([], TV.tup [TV.agg [TV.lst C.t82 [], TV.lst C.t82 (x.fst :: x.snd), TV.lst C.t90 (x_1.fst :: x_1.snd)], TV.agg [TV.v (Value.int IntKind.i64 0), TV.v (Value.int IntKind.i64 0)]]) else (unc (progP { L := lexL s, At := 0, Deep := 0, Many := 0, Code := 0, FAt := 0 }).g).bind fun (x : R82 × List R82) => bif (progP { L := lexL s, At := 0, Deep := 0, Many := 0, Code := 0, FAt := 0 }).f.isEmpty then bif (progP { L := lexL s, At := 0, Deep := 0, Many := 0, Code := 0, FAt := 0 }).n.isEmpty then bif !decide ((progP { L := lexL s, At := 0, Deep := 0, Many := 0, Code := 0, FAt := 0 }).q.Code = 0) then some ([], TV.tup [TV.agg [TV.lst C.t82 [], TV.lst C.t82 [], TV.lst C.t90 []], TV.agg [TV.v (Value.int IntKind.i64 (progP { L := lexL s, At := 0, Deep := 0, Many := 0, Code := 0, FAt := 0 }).q.Code), TV.v (Value.int IntKind.i64 (progP { L := lexL s, At := 0, Deep := 0, Many := 0, Code := 0, FAt := 0 }).q.FAt)]]) else some ([], TV.tup [TV.agg [TV.lst C.t82 (x.fst :: x.snd), TV.lst C.t82 [], TV.lst C.t90 []], TV.agg [TV.v (Value.int IntKind.i64 0), TV.v (Value.int IntKind.i64 0)]]) else (unc (progP { L := lexL s, At := 0, Deep := 0, Many := 0, Code := 0, FAt := 0 }).n).bind fun (x_1 : R90 × List R90) => bif !decide ((progP { L := lexL s, At := 0, Deep := 0, Many := 0, Code := 0, FAt := 0 }).q.Code = 0) then some ([], TV.tup [TV.agg [TV.lst C.t82 [], TV.lst C.t82 [], TV.lst C.t90 []], TV.agg [TV.v (Value.int IntKind.i64 (progP { L := lexL s, At := 0, Deep := 0, Many := 0, Code := 0, FAt := 0 }).q.Code), TV.v (Value.int IntKind.i64 (progP { L := lexL s, At := 0, Deep := 0, Many := 0, Code := 0, FAt := 0 }).q.FAt)]]) else some ([], TV.tup [TV.agg [TV.lst C.t82 (x.fst :: x.snd), TV.lst C.t82 [], TV.lst C.t90 (x_1.fst :: x_1.snd)], TV.agg [TV.v (Value.int IntKind.i64 0), TV.v (Value.int IntKind.i64 0)]]) else (unc (progP { L := lexL s, At := 0, Deep := 0, Many := 0, Code := 0, FAt := 0 }).f).bind fun (x_1 : R82 × List R82) => bif (progP { L := lexL s, At := 0, Deep := 0, Many := 0, Code := 0, FAt := 0 }).n.isEmpty then bif !decide ((progP { L := lexL s, At := 0, Deep := 0, Many := 0, Code := 0, FAt := 0 }).q.Code = 0) then some ([], TV.tup [TV.agg [TV.lst C.t82 [], TV.lst C.t82 [], TV.lst C.t90 []], TV.agg [TV.v (Value.int IntKind.i64 (progP { L := lexL s, At := 0, Deep := 0, Many := 0, Code := 0, FAt := 0 }).q.Code), TV.v (Value.int IntKind.i64 (progP { L := lexL s, At := 0, Deep := 0, Many := 0, Code := 0, FAt := 0 }).q.FAt)]]) else some ([], TV.tup [TV.agg [TV.lst C.t82 (x.fst :: x.snd), TV.lst C.t82 (x_1.fst :: x_1.snd), TV.lst C.t90 []], TV.agg [TV.v (Value.int IntKind.i64 0), TV.v (Value.int IntKind.i64 0)]]) else (unc (progP { L := lexL s, At := 0, Deep := 0, Many := 0, Code := 0, FAt := 0 }).n).bind fun (x_2 : R90 × List R90) => bif !decide ((progP { L := lexL s, At := 0, Deep := 0, Many := 0, Code := 0, FAt := 0 }).q.Code = 0) then some ([], TV.tup [TV.agg [TV.lst C.t82 [], TV.lst C.t82 [], TV.lst C.t90 []], TV.agg [TV.v (Value.int IntKind.i64 (progP { L := lexL s, At := 0, Deep := 0, Many := 0, Code := 0, FAt := 0 }).q.Code), TV.v (Value.int IntKind.i64 (progP { L := lexL s, At := 0, Deep := 0, Many := 0, Code := 0, FAt := 0 }).q.FAt)]]) else some ([], TV.tup [TV.agg [TV.lst C.t82 (x.fst :: x.snd), TV.lst C.t82 (x_1.fst :: x_1.snd), TV.lst C.t90 (x_2.fst :: x_2.snd)], TV.agg [TV.v (Value.int IntKind.i64 0), TV.v (Value.int IntKind.i64 0)]]) else none else none := by kernel_rfl
structure TR where
  G : List R82
  F : List R82
  N : List R90
def treeV (t : TR) : TV U := .agg [.lst .t82 t.G, .lst .t82 t.F, .lst .t90 t.N]
def ps0 (s : ByteArray) : PS := ⟨lexL s, 0, 0, 0, 0, 0⟩
def parseP (s : ByteArray) : TR × Int × Int := cond (lexF s) (⟨[], [], []⟩, lexC s, lexA s)
  (cond (!decide ((progP (ps0 s)).q.Code = 0)) (⟨[], [], []⟩, (progP (ps0 s)).q.Code, (progP (ps0 s)).q.FAt) (⟨(progP (ps0 s)).g, (progP (ps0 s)).f, (progP (ps0 s)).n⟩, 0, 0))
theorem ps0_ok {s : ByteArray} (h : s.size ≤ 100000) : (ps0 s).Ok := by
  have h4 := lxs_len (s := s) (s.size + 1) (sk s (s.size + 1) 0 false).1 []
  have hl : (lexL s).length = (lexP s).1.length + 1 := by unfold lexL; rw [List.length_append]; rfl
  have h5 : (lexP s).1.length ≤ s.size + 1 := by unfold lexP; simp only [List.length_nil] at h4; omega
  refine ⟨by show (lexL s).length ≤ _; omega, ⟨⟨0, s.size, 0, ⟨#[]⟩⟩, ?_, rfl⟩, fun _ => ⟨Int.le_refl 0, by show (0 : Int) < ((lexL s).length : Int); omega⟩⟩
  show (lexL s)[(lexL s).length - 1]? = _
  rw [hl]
  unfold lexL
  simp
noncomputable def sParse : Spc U := .of dstr (fun s => s.size ≤ 100000) (fun _ => []) fun s => .tup [treeV (parseP s).1, .agg [.v (.int .i64 (parseP s).2.1), .v (.int .i64 (parseP s).2.2)]]
theorem lexC_ne (s : ByteArray) : lexC s ≠ 0 := by
  unfold lexC
  cases decide (32768 < (s.size : Int)) <;> decide
theorem sParse_ok : SpecOk Try.prog 21 sParse := by
  refine fn_okw wkT X_ok mixed Em_ok an34 lp34 Try.func21 (by kernel_rfl) (by kernel_rfl) lp34_ok fun objs args s hp h => ?_
  obtain ⟨rfl, rfl⟩ := dstr_ok hp
  dsimp only at h ⊢
  have h0 := ps0_ok h
  have h1 : Pre34 (ps0 s) 0 0 := ⟨h0, rfl, rfl⟩
  have h2 := lexC_ne s
  refine (e34 s).trans ?_
  rw [if_pos h]
  unfold parseP treeV
  cases lexF s with
  | true =>
    rw [decide_eq_false h2]
    rfl
  | false =>
    have h1' : Pre34 ⟨lexL s, 0, 0, 0, 0, 0⟩ 0 0 := h1
    have e : (⟨lexL s, 0, 0, 0, 0, 0⟩ : PS) = ps0 s := rfl
    simp only [cond_false, e, if_pos h1]
    generalize progP (ps0 s) = r
    obtain ⟨q, g, f, n⟩ := r
    cases g <;> cases f <;> cases n <;> dsimp only [List.isEmpty, cond_true, cond_false, unc, Option.bind_some] <;> cases decide (q.Code = 0) <;> rfl
end Go.Proofs.Ytpkgikchphgfaaa.Fl
/- The references' checks: names. -/
namespace Go.Proofs.Ytpkgikchphgfaaa.Fl
open Go Go.RowKit Go.Proofs.Ytpkgikchphgfaaa.Eng
set_option linter.unusedVariables false
set_option linter.unusedSimpArgs false
set_option maxRecDepth 20000
structure CS where
  G : List R82
  F : List R82
  N : List R90
  V : List R82
  Ret : Int
  Code : Int
  FAt : Int
def CS.tv (c : CS) : TV U := .agg [.lst .t82 c.G, .lst .t82 c.F, .lst .t90 c.N, .lst .t82 c.V, .v (.int .i64 c.Ret), .v (.int .i64 c.Code), .v (.int .i64 c.FAt)]
def dCii (objs : List (TO U)) (args : List (TV U)) : Option (CS × Int × Int) := match objs, args with
  | [], [a0, a1, a2] =>
    match a0 with
    | .agg [q0, q1, q2, q3, q4, q5, q6] =>
      match q0 with
      | .lst .t82 c_G =>
        match q1 with
        | .lst .t82 c_F =>
          match q2 with
          | .lst .t90 c_N =>
            match q3 with
            | .lst .t82 c_V =>
              match q4 with
              | .v (.int .i64 c_Ret) =>
                match q5 with
                | .v (.int .i64 c_Code) =>
                  match q6 with
                  | .v (.int .i64 c_FAt) =>
                    match a1 with
                    | .v (.int .i64 k) =>
                      match a2 with
                      | .v (.int .i64 a) =>
                        some ((⟨c_G, c_F, c_N, c_V, c_Ret, c_Code, c_FAt⟩ : CS), k, a)
                      | _ => none
                    | _ => none
                  | _ => none
                | _ => none
              | _ => none
            | _ => none
          | _ => none
        | _ => none
      | _ => none
    | _ => none
  | _, _ => none
theorem dCii_ok {objs : List (TO U)} {args : List (TV U)} {c : CS} {k : Int} {a : Int} (h : dCii objs args = some (c, k, a)) : objs = [] ∧ args = [c.tv, .v (.int .i64 k), .v (.int .i64 a)] := by
  unfold dCii at h
  repeat' split at h
  all_goals first | (cases h; done) | (cases h; exact ⟨rfl, rfl⟩)
def dCs (objs : List (TO U)) (args : List (TV U)) : Option (CS × ByteArray) := match objs, args with
  | [], [a0, a1] =>
    match a0 with
    | .agg [q0, q1, q2, q3, q4, q5, q6] =>
      match q0 with
      | .lst .t82 c_G =>
        match q1 with
        | .lst .t82 c_F =>
          match q2 with
          | .lst .t90 c_N =>
            match q3 with
            | .lst .t82 c_V =>
              match q4 with
              | .v (.int .i64 c_Ret) =>
                match q5 with
                | .v (.int .i64 c_Code) =>
                  match q6 with
                  | .v (.int .i64 c_FAt) =>
                    match a1 with
                    | .v (.string s) =>
                      some ((⟨c_G, c_F, c_N, c_V, c_Ret, c_Code, c_FAt⟩ : CS), s)
                    | _ => none
                  | _ => none
                | _ => none
              | _ => none
            | _ => none
          | _ => none
        | _ => none
      | _ => none
    | _ => none
  | _, _ => none
theorem dCs_ok {objs : List (TO U)} {args : List (TV U)} {c : CS} {s : ByteArray} (h : dCs objs args = some (c, s)) : objs = [] ∧ args = [c.tv, .v (.string s)] := by
  unfold dCs at h
  repeat' split at h
  all_goals first | (cases h; done) | (cases h; exact ⟨rfl, rfl⟩)
def dls (objs : List (TO U)) (args : List (TV U)) : Option (List R82 × ByteArray) := match objs, args with
  | [], [a0, a1] =>
    match a0 with
    | .lst .t82 l =>
      match a1 with
      | .v (.string s) =>
        some (l, s)
      | _ => none
    | _ => none
  | _, _ => none
theorem dls_ok {objs : List (TO U)} {args : List (TV U)} {l : List R82} {s : ByteArray} (h : dls objs args = some (l, s)) : objs = [] ∧ args = [.lst .t82 l, .v (.string s)] := by
  unfold dls at h
  repeat' split at h
  all_goals first | (cases h; done) | (cases h; exact ⟨rfl, rfl⟩)
def Sn (n : Nat) : Prop := n ≤ 3000000
instance (n : Nat) : Decidable (Sn n) := by unfold Sn; infer_instance
def CS.fail (c : CS) (k a : Int) : CS := if c.Code = 0 then { c with Code := k, FAt := a } else c
def an66 : Ann := ⟨fun | 0 => 35 | _ => 0, fun | 0 => 16 | _ => 0, fun _ => [], false⟩
def an57 : Ann := ⟨fun | 0 => 38 | _ => 0, fun | 0 => 16 | _ => 0, fun _ => [], false⟩
theorem e58 (c : CS) (k : Int) (a : Int) : (evFn X (fun (x : FuncId) => none) an0 lp0 Try.f58 [] [c.tv, TV.v (Value.int IntKind.i64 k), TV.v (Value.int IntKind.i64 a)] fun (o : List (TO X.U)) (v : TV X.U) => some (o, v)) = bif decide (c.Code = 0) then some ([], TV.agg [TV.lst C.t82 c.G, TV.lst C.t82 c.F, TV.lst C.t90 c.N, TV.lst C.t82 c.V, TV.v (Value.int IntKind.i64 c.Ret), TV.v (Value.int IntKind.i64 k), TV.v (Value.int IntKind.i64 a)]) else some ([], c.tv) := by kernel_rfl
def g66_S0 (l : List
  R82) (s : ByteArray) (v2 : Int) : TS U := mkS 21
  [(0, TV.lst C.t82 l), (1, TV.v (Value.string s)), (5, TV.v (Value.int IntKind.i64 v2))] [] 0
theorem g66_e0 (lp : Lp U) (l : List R82) (s : ByteArray) (N : Nat) (v2 : Int) : fnLoop X (fun (x : FuncId) => none) an66 lp Try.f107 0 N.succ (g66_S0 l s v2) = bif decide (0 ≤ v2) then (getI l v2).bind fun (z : X.U.T C.t82) => bif z.Name.toList == s.toList then some (Exit.ret, mkS 21 [(4, TV.v (Value.int IntKind.i64 v2))] [] 0) else fnLoop X (fun (x : FuncId) => none) an66 lp Try.f107 0 N (g66_S0 l s (IntKind.i64.wrap (v2 - 1))) else some (Exit.exit 0, mkS 21 [] [] 0) := by kernel_rfl
def g57_S0 (c : CS) (s : ByteArray) (v1 : Int) : TS U := mkS 24
  [(1, TV.v (Value.string s)), (2, TV.ref 0 0 0), (5, TV.v (Value.int IntKind.i64 v1))]
  [TO.cells
      [TV.lst C.t82 c.G, TV.lst C.t82 c.F, TV.lst C.t90 c.N, TV.lst C.t82 c.V, TV.v (Value.int IntKind.i64 c.Ret),
        TV.v (Value.int IntKind.i64 c.Code), TV.v (Value.int IntKind.i64 c.FAt)]
      false]
  0
theorem g57_e0 (lp : Lp U) (c : CS) (s : ByteArray) (N : Nat) (v1 : Int) : fnLoop X (fun (x : FuncId) => none) an57 lp Try.f57 0 N.succ (g57_S0 c s v1) = bif decide (v1 < (↑c.N.length : Int)) then (getI c.N v1).bind fun (z : X.U.T C.t90) => bif z.Name.toList == s.toList then some (Exit.ret, mkS 24 [(4, TV.v (Value.int IntKind.i64 v1))] [] 0) else fnLoop X (fun (x : FuncId) => none) an57 lp Try.f57 0 N (g57_S0 c s (IntKind.i64.wrap (v1 + 1))) else some (Exit.exit 0, mkS 24 [] [] 0) := by kernel_rfl
theorem getI_lt {α : Type} {l : List α} {v : Int} (h0 : 0 ≤ v) (h1 : v < l.length) : ∃ z, getI l v = some z ∧ l[v.toNat]? = some z := by
  have hx : l[v.toNat]? = some l[v.toNat] := List.getElem?_eq_getElem (by omega)
  exact ⟨_, by unfold getI; rw [if_pos h0, hx], hx⟩
def sFailC : Spc U := .of dCii (fun x => True) (fun _ => []) fun x => (x.1.fail x.2.1 x.2.2).tv
theorem sFailC_ok : SpecOk Try.prog 58 sFailC := by
  refine fn_ok X_ok mixed E0_ok an0 lp0 Try.func58 (by kernel_rfl) (by kernel_rfl) (lp0_ok (by kernel_rfl)) fun objs args x hx hp => ?_
  obtain ⟨c, k, a⟩ := x
  obtain ⟨rfl, rfl⟩ := dCii_ok hx
  dsimp only
  rw [e58]
  unfold CS.fail
  by_cases hc : c.Code = 0
  · rw [if_pos hc, decide_eq_true hc]; rfl
  · rw [if_neg hc, decide_eq_false hc]; rfl
/-- The last of a name, below a number; -1: none. -/
def fnd (l : List R82) (s : ByteArray) : Nat → Int
  | 0 => -1
  | N + 1 => match getI l N with
    | some z => cond (z.Name.toList == s.toList) N (fnd l s N)
    | none => -1
def findD (l : List R82) (s : ByteArray) : Int := fnd l s l.length
theorem fnd_in (l : List R82) (s : ByteArray) : ∀ N : Nat, N ≤ l.length → fnd l s N = -1 ∨ 0 ≤ fnd l s N ∧ fnd l s N < l.length
  | 0, _ => .inl rfl
  | N + 1, h => by
    rw [fnd]
    split
    · rename_i z _
      cases z.Name.toList == s.toList with
      | true => exact .inr (by simp only [cond_true]; omega)
      | false => exact fnd_in l s N (by omega)
    · exact .inl rfl
theorem findD_in (l : List R82) (s : ByteArray) : findD l s = -1 ∨ 0 ≤ findD l s ∧ findD l s < l.length := fnd_in l s _ (Nat.le_refl _)
def end66 (r : Int) : Exit × TS U := cond (decide (0 ≤ r)) (.ret, mkS 21 [(4, .v (.int .i64 r))] [] 0) (.exit 0, mkS 21 [] [] 0)
theorem rounds66 (lp : Lp U) (l : List R82) (s : ByteArray) (hl : l.length ≤ 3000000) : ∀ N : Nat, N ≤ l.length →
    fnLoop X (fun _ => none) an66 lp Try.f107 0 (N + 1) (g66_S0 l s ((N : Int) - 1)) = some (end66 (fnd l s N)) := by
  intro N
  induction N with
  | zero => intro h; rw [g66_e0]; rfl
  | succ N ih =>
    intro h
    have e1 : ((N + 1 : Nat) : Int) - 1 = N := by omega
    have hw : IntKind.i64.wrap ((N : Int) - 1) = (N : Int) - 1 := wrap_i64 (by omega) (by omega)
    obtain ⟨z, hz, _⟩ := getI_lt (l := l) (v := (N : Int)) (by omega) (by omega)
    rw [g66_e0, fnd, e1, hw, ih (by omega), hz, decide_eq_true (by omega : (0 : Int) ≤ N), cond_true, Option.bind_some]
    dsimp only
    cases z.Name.toList == s.toList with
    | true =>
      simp only [cond_true]
      unfold end66
      rw [decide_eq_true (by omega : (0 : Int) ≤ N)]
      rfl
    | false => rfl
def dl66 (s : TS U) : Option (List R82 × ByteArray × Int) := match told s 21 [0, 1, 5] 0, s.objs with
  | some [a0, a1, a2], [] =>
    match a0 with
    | .lst .t82 l =>
      match a1 with
      | .v (.string t) =>
        match a2 with
        | .v (.int .i64 v) =>
          some (l, t, v)
        | _ => none
      | _ => none
    | _ => none
  | _, _ => none
theorem dl66_ok {s : TS U} {l : List R82} {t : ByteArray} {v : Int} (h : dl66 s = some (l, t, v)) : s = mkS (U := U) 21 ([0, 1, 5].zip ([.lst .t82 l, .v (.string t), .v (.int .i64 v)] : List (TV U))) ([] : List (TO U)) 0 := by
  unfold dl66 at h
  split at h <;> try (cases h; done)
  rename_i ht ho
  have hs := told_ok ht
  rw [ho] at hs
  repeat' split at h
  all_goals first | (cases h; done) | (cases h; exact hs)
def Pre66 (l : List R82) (v : Int) : Prop := l.length ≤ 3000000 ∧ v = (l.length : Int) - 1
instance (l : List R82) (v : Int) : Decidable (Pre66 l v) := by unfold Pre66; infer_instance
def lc66 : LC U := .of2 dl66 (fun (l, t, v) => Pre66 l v) (fun (l, t, v) => decide (0 ≤ findD l t)) .ret (fun (l, t, v) => mkS 21 [(4, .v (.int .i64 (findD l t)))] [] 0) (.exit 0) (fun x => mkS 21 [] [] 0)
def lp66 : Lp U := lpL [(0, lc66)]
theorem lp66_ok : ∀ c, Try.f107.body = some c → LpOk X (fun _ => none) an66 lp66 (loops c 0) := lpL_ok (by kernel_rfl) fun b L hm st p hs => by
  cases hm with
  | tail _ h => cases h
  | head =>
    obtain ⟨⟨l, t, v⟩, hx, ⟨h1, rfl⟩, rfl⟩ := LC.of2_some hs
    obtain rfl := dl66_ok hx
    exact ⟨_, rounds66 _ l t h1 l.length (Nat.le_refl _)⟩
theorem e66 (l : List R82) (s : ByteArray) : (evFn X (fun (x : FuncId) => none) an66 lp66 Try.f107 [] [TV.lst C.t82 l, TV.v (Value.string s)] fun (o : List (TO X.U)) (v : TV X.U) => some (o, v)) = if Pre66 l (IntKind.i64.wrap ((↑l.length : Int) - 1)) then bif decide (0 ≤ findD l s) then some ([], TV.v (Value.int IntKind.i64 (findD l s))) else some ([], TV.v (Value.int IntKind.i64 (-1))) else none := by kernel_rfl
def sFind : Spc U := .of dls (fun x => Sn x.1.length) (fun _ => []) fun x => .v (.int .i64 (findD x.1 x.2))
theorem sFind_ok : SpecOk Try.prog 107 sFind := by
  refine fn_ok X_ok mixed E0_ok an66 lp66 Try.func107 (by kernel_rfl) (by kernel_rfl) lp66_ok fun objs args x hx hp => ?_
  obtain ⟨l, s⟩ := x
  obtain ⟨rfl, rfl⟩ := dls_ok hx
  dsimp only at hp ⊢
  have hp : l.length ≤ 3000000 := hp
  have hw : IntKind.i64.wrap ((l.length : Int) - 1) = (l.length : Int) - 1 := wrap_i64 (by omega) (by omega)
  have hpre : Pre66 l ((l.length : Int) - 1) := ⟨hp, rfl⟩
  rw [e66, hw, if_pos hpre]
  rcases findD_in l s with h | h
  · rw [h]; rfl
  · rw [decide_eq_true h.1]; rfl
/-- The first of a name from there on; else what is told. -/
def upx {α : Type} (nm : α → ByteArray) (l : List α) (s : ByteArray) (d : Int) : Nat → Int → Int
  | 0, _ => d
  | N + 1, v => if v < (l.length : Int) then (match getI l v with
    | some z => cond ((nm z).toList == s.toList) v (upx nm l s d N (v + 1))
    | none => d) else d
theorem upx_in {α : Type} (nm : α → ByteArray) (l : List α) (s : ByteArray) (d : Int) : ∀ (N : Nat) (v : Int), 0 ≤ v → upx nm l s d N v = d ∨ 0 ≤ upx nm l s d N v ∧ upx nm l s d N v < l.length := by
  intro N
  induction N with
  | zero => intro v h; exact .inl rfl
  | succ N ih =>
    intro v h
    rw [upx]
    split
    · rename_i hv
      split
      · rename_i z _
        cases (nm z).toList == s.toList with
        | true => exact .inr ⟨h, hv⟩
        | false => exact ih (v + 1) (by omega)
      · exact .inl rfl
    · exact .inl rfl
def fnI (n : List R90) (s : ByteArray) : Int := upx R90.Name n s (-1) (n.length + 1) 0
theorem fnI_in (n : List R90) (s : ByteArray) : fnI n s = -1 ∨ 0 ≤ fnI n s ∧ fnI n s < n.length := upx_in _ _ _ _ _ _ (Int.le_refl 0)
def end57 (r : Int) : Exit × TS U := cond (decide (0 ≤ r)) (.ret, mkS 24 [(4, .v (.int .i64 r))] [] 0) (.exit 0, mkS 24 [] [] 0)
theorem rounds57 (lp : Lp U) (c : CS) (s : ByteArray) (hl : c.N.length ≤ 3000000) : ∀ (N : Nat) (v : Int), 0 ≤ v → (c.N.length : Int) ≤ v + N →
    fnLoop X (fun _ => none) an57 lp Try.f57 0 (N + 1) (g57_S0 c s v) = some (end57 (upx R90.Name c.N s (-1) (N + 1) v)) := by
  intro N
  induction N with
  | zero =>
    intro v h0 h1
    have hv : ¬ v < (c.N.length : Int) := by omega
    rw [g57_e0, upx, if_neg hv, decide_eq_false hv]
    rfl
  | succ N ih =>
    intro v h0 h1
    rw [g57_e0, upx]
    by_cases hv : v < (c.N.length : Int)
    · obtain ⟨z, hz, _⟩ := getI_lt h0 hv
      have hw : IntKind.i64.wrap (v + 1) = v + 1 := wrap_i64 (by omega) (by omega)
      rw [if_pos hv, decide_eq_true hv, hw, ih (v + 1) (by omega) (by omega), hz, cond_true, Option.bind_some]
      dsimp only
      cases z.Name.toList == s.toList with
      | true =>
        simp only [cond_true]
        unfold end57
        rw [decide_eq_true h0]
        rfl
      | false => rfl
    · rw [if_neg hv, decide_eq_false hv]
      rfl
def CS.ob (c : CS) : TO U := .cells [.lst .t82 c.G, .lst .t82 c.F, .lst .t90 c.N, .lst .t82 c.V, .v (.int .i64 c.Ret), .v (.int .i64 c.Code), .v (.int .i64 c.FAt)] false
def dl57 (s : TS U) : Option (CS × ByteArray × Int) := match told s 24 [1, 2, 5] 0, s.objs with
  | some [a0, a1, a2], [o0] =>
    match o0 with
    | .cells [q0, q1, q2, q3, q4, q5, q6] false =>
      match q0 with
      | .lst .t82 c_G =>
        match q1 with
        | .lst .t82 c_F =>
          match q2 with
          | .lst .t90 c_N =>
            match q3 with
            | .lst .t82 c_V =>
              match q4 with
              | .v (.int .i64 c_Ret) =>
                match q5 with
                | .v (.int .i64 c_Code) =>
                  match q6 with
                  | .v (.int .i64 c_FAt) =>
                    match a0 with
                    | .v (.string t) =>
                      match a1 with
                      | .ref 0 0 0 =>
                        match a2 with
                        | .v (.int .i64 v) =>
                          some ((⟨c_G, c_F, c_N, c_V, c_Ret, c_Code, c_FAt⟩ : CS), t, v)
                        | _ => none
                      | _ => none
                    | _ => none
                  | _ => none
                | _ => none
              | _ => none
            | _ => none
          | _ => none
        | _ => none
      | _ => none
    | _ => none
  | _, _ => none
theorem dl57_ok {s : TS U} {c : CS} {t : ByteArray} {v : Int} (h : dl57 s = some (c, t, v)) : s = mkS (U := U) 24 ([1, 2, 5].zip ([.v (.string t), .ref 0 0 0, .v (.int .i64 v)] : List (TV U))) ([c.ob] : List (TO U)) 0 := by
  unfold dl57 at h
  split at h <;> try (cases h; done)
  rename_i ht ho
  have hs := told_ok ht
  rw [ho] at hs
  repeat' split at h
  all_goals first | (cases h; done) | (cases h; exact hs)
def Pre57 (n : Nat) (v : Int) : Prop := n ≤ 3000000 ∧ v = 0
instance (n : Nat) (v : Int) : Decidable (Pre57 n v) := by unfold Pre57; infer_instance
def lc57 : LC U := .of2 dl57 (fun (c, t, v) => Pre57 c.N.length v) (fun (c, t, v) => decide (0 ≤ fnI c.N t)) .ret (fun (c, t, v) => mkS 24 [(4, .v (.int .i64 (fnI c.N t)))] [] 0) (.exit 0) (fun x => mkS 24 [] [] 0)
def lp57 : Lp U := lpL [(0, lc57)]
theorem lp57_ok : ∀ c, Try.f57.body = some c → LpOk X (fun _ => none) an57 lp57 (loops c 0) := lpL_ok (by kernel_rfl) fun b L hm st p hs => by
  cases hm with
  | tail _ h => cases h
  | head =>
    obtain ⟨⟨c, t, v⟩, hx, ⟨h1, rfl⟩, rfl⟩ := LC.of2_some hs
    obtain rfl := dl57_ok hx
    exact ⟨_, rounds57 _ c t h1 c.N.length 0 (Int.le_refl 0) (by omega)⟩
theorem e57 (c : CS) (s : ByteArray) : (evFn X (fun (x : FuncId) => none) an57 lp57 Try.f57 [] [c.tv, TV.v (Value.string s)] fun (o : List (TO X.U)) (v : TV X.U) => some (o, v)) = if Pre57 c.N.length 0 then bif decide (0 ≤ fnI c.N s) then some ([], TV.v (Value.int IntKind.i64 (fnI c.N s))) else some ([], TV.v (Value.int IntKind.i64 (-1))) else none := by kernel_rfl
def sFnC : Spc U := .of dCs (fun x => Sn x.1.N.length) (fun _ => []) fun x => .v (.int .i64 (fnI x.1.N x.2))
theorem sFnC_ok : SpecOk Try.prog 57 sFnC := by
  refine fn_ok X_ok mixed E0_ok an57 lp57 Try.func57 (by kernel_rfl) (by kernel_rfl) lp57_ok fun objs args x hx hp => ?_
  obtain ⟨c, s⟩ := x
  obtain ⟨rfl, rfl⟩ := dCs_ok hx
  dsimp only at hp ⊢
  have hpre : Pre57 c.N.length 0 := ⟨hp, rfl⟩
  rw [e57, if_pos hpre]
  rcases fnI_in c.N s with h | h
  · rw [h]; rfl
  · rw [decide_eq_true h.1]; rfl
end Go.Proofs.Ytpkgikchphgfaaa.Fl
/- Loops by a number that rises. -/
namespace Go.Proofs.Ytpkgikchphgfaaa.Eng
open Go Go.RowKit
set_option linter.unusedVariables false
/-- From a number on, below another, a step each. -/
def ixL {σ : Type} (len : Int) (step : σ → Int → σ) : Nat → σ → Int → σ
  | 0, c, _ => c
  | N + 1, c, v => if v < len then ixL len step N (step c v) (v + 1) else c
theorem ixL_inv {σ : Type} {len : Int} {step : σ → Int → σ} {I : σ → Prop} (h : ∀ c v, I c → 0 ≤ v → v < len → I (step c v)) : ∀ (N : Nat) (c : σ) (v : Int), 0 ≤ v → I c → I (ixL len step N c v) := by
  intro N
  induction N with
  | zero => intro c v _ h0; exact h0
  | succ N ih =>
    intro c v hv h0
    rw [ixL]
    split
    · rename_i hl; exact ih _ _ (by omega) (h c v h0 hv hl)
    · exact h0
theorem ixL_rounds {σ T B : Type} {fnl : Nat → T → Option B} (S : σ → Int → T) (Z : σ → B) {len : Int} {step : σ → Int → σ} (I : σ → Int → Prop) (hin : ∀ c v N, I c v → 0 ≤ v → v < len → fnl (N + 1) (S c v) = fnl N (S (step c v) (v + 1)) ∧ I (step c v) (v + 1))
    (hout : ∀ c v N, I c v → 0 ≤ v → ¬ v < len → fnl (N + 1) (S c v) = some (Z c)) : ∀ (N : Nat) (c : σ) (v : Int), 0 ≤ v → len ≤ v + N → I c v → fnl (N + 1) (S c v) = some (Z (ixL len step (N + 1) c v)) := by
  intro N
  induction N with
  | zero =>
    intro c v h0 h1 hI
    rw [hout c v 0 hI h0 (by omega), ixL, if_neg (by omega)]
  | succ N ih =>
    intro c v h0 h1 hI
    rw [ixL]
    by_cases hv : v < len
    · obtain ⟨e, hI'⟩ := hin c v (N + 1) hI h0 hv
      rw [if_pos hv, e]
      exact ih _ _ (by omega) (by omega) hI'
    · rw [if_neg hv, hout c v (N + 1) hI h0 hv]
/-- A step for each of a list. -/
def stepI {α σ : Type} (l : List α) (f : σ → α → σ) (c : σ) (v : Int) : σ := match getI l v with
  | some z => f c z
  | none => c
theorem ixL_list {α σ : Type} (l : List α) (f : σ → α → σ) : ∀ (N : Nat) (c : σ) (v : Int), 0 ≤ v → (l.length : Int) ≤ v + N → ixL l.length (stepI l f) N c v = (l.drop v.toNat).foldl f c := by
  intro N
  induction N with
  | zero =>
    intro c v h0 h1
    rw [ixL, List.drop_eq_nil_of_le (by omega), List.foldl_nil]
  | succ N ih =>
    intro c v h0 h1
    rw [ixL]
    split
    · rename_i hv
      have hx : l[v.toNat]? = some l[v.toNat] := List.getElem?_eq_getElem (by omega)
      have hd : l.drop v.toNat = l[v.toNat] :: l.drop (v.toNat + 1) := List.drop_eq_getElem_cons (by omega)
      rw [ih _ _ (by omega) (by omega), hd, List.foldl_cons, show (v + 1).toNat = v.toNat + 1 by omega]
      unfold stepI getI
      rw [if_pos h0, hx]
    · rw [List.drop_eq_nil_of_le (by omega), List.foldl_nil]
theorem ixL_all {α σ : Type} (l : List α) (f : σ → α → σ) (c : σ) : ixL l.length (stepI l f) (l.length + 1) c 0 = l.foldl f c := by
  rw [ixL_list l f _ c 0 (Int.le_refl 0) (by omega)]
  rfl
end Go.Proofs.Ytpkgikchphgfaaa.Eng
/- The references' checks: types. -/
namespace Go.Proofs.Ytpkgikchphgfaaa.Fl
open Go Go.RowKit Go.Proofs.Ytpkgikchphgfaaa.Eng
set_option linter.unusedVariables false
set_option linter.unusedSimpArgs false
set_option maxRecDepth 20000
structure CS.Sz (c : CS) : Prop where
  g : c.G.length ≤ 3000000
  f : c.F.length ≤ 3000000
  n : c.N.length ≤ 3000000
  v : c.V.length ≤ 3000000
  p : ∀ x ∈ c.N, x.Params.length ≤ 3000000
noncomputable instance (c : CS) : Decidable c.Sz := Classical.propDecidable _
theorem CS.fail_eq (c : CS) (k a : Int) : ∃ k' a', c.fail k a = { c with Code := k', FAt := a' } := by
  unfold CS.fail
  split
  · exact ⟨_, _, rfl⟩
  · exact ⟨c.Code, c.FAt, rfl⟩
/-- Only the flaw is another one. -/
def CS.Lk (c d : CS) : Prop := ∃ k a, d = { c with Code := k, FAt := a }
theorem CS.Lk.refl (c : CS) : c.Lk c := ⟨c.Code, c.FAt, rfl⟩
theorem CS.Lk.trans {c d e : CS} (h1 : c.Lk d) (h2 : d.Lk e) : c.Lk e := by
  obtain ⟨k, a, rfl⟩ := h1
  obtain ⟨k2, a2, rfl⟩ := h2
  exact ⟨k2, a2, rfl⟩
theorem CS.Lk.fail (c : CS) (k a : Int) : c.Lk (c.fail k a) := c.fail_eq k a
theorem CS.Lk.sz {c d : CS} (h : c.Lk d) (hs : c.Sz) : d.Sz := by
  obtain ⟨k, a, rfl⟩ := h
  exact ⟨hs.g, hs.f, hs.n, hs.v, hs.p⟩
noncomputable def En : FuncId → Option (Spc U)
  | 58 => some sFailC
  | 57 => some sFnC
  | 107 => some sFind
  | _ => none
theorem En_ok : ∀ f S, En f = some S → SpecOk Try.prog f S := fun f S h => by
  unfold En at h
  split at h
  · cases h; exact sFailC_ok
  · cases h; exact sFnC_ok
  · cases h; exact sFind_ok
  · cases h
def an56 : Ann := ⟨fun | 0 => 54 | _ => 0, fun | 0 => 20 | _ => 0, fun _ => [], false⟩
theorem e67 (c : CS) (l : List R82) (s : ByteArray) (a : Int) : (evFn X En an0 lp0 Try.f108 [] [c.tv, TV.lst C.t82 l, TV.v (Value.string s), TV.v (Value.int IntKind.i64 a)] fun (o : List (TO X.U)) (v : TV X.U) => some (o, v)) = if Sn l.length then bif decide (findD l s < 0) then if True then some ([], TV.tup [(c.fail 183 a).tv, TV.v (Value.int IntKind.i64 0)]) else none else (getI l (findD l s)).bind fun (z : X.U.T C.t82) => some ([], TV.tup [c.tv, TV.v (Value.int IntKind.i64 z.Type_)]) else none := by kernel_rfl
theorem e71 (c : CS) (x : Int) (y : Int) (a : Int) : (evFn X En an0 lp0 Try.f112 [] [c.tv, TV.v (Value.int IntKind.i64 x), TV.v (Value.int IntKind.i64 y), TV.v (Value.int IntKind.i64 a)] fun (o : List (TO X.U)) (v : TV X.U) => some (o, v)) = bif !decide (x = y) then if True then some ([], (c.fail 182 a).tv) else none else some ([], c.tv) := by kernel_rfl
def dClsi (objs : List (TO U)) (args : List (TV U)) : Option (CS × List R82 × ByteArray × Int) := match objs, args with
  | [], [a0, a1, a2, a3] =>
    match a0 with
    | .agg [q0, q1, q2, q3, q4, q5, q6] =>
      match q0 with
      | .lst .t82 c_G =>
        match q1 with
        | .lst .t82 c_F =>
          match q2 with
          | .lst .t90 c_N =>
            match q3 with
            | .lst .t82 c_V =>
              match q4 with
              | .v (.int .i64 c_Ret) =>
                match q5 with
                | .v (.int .i64 c_Code) =>
                  match q6 with
                  | .v (.int .i64 c_FAt) =>
                    match a1 with
                    | .lst .t82 l =>
                      match a2 with
                      | .v (.string s) =>
                        match a3 with
                        | .v (.int .i64 a) =>
                          some ((⟨c_G, c_F, c_N, c_V, c_Ret, c_Code, c_FAt⟩ : CS), l, s, a)
                        | _ => none
                      | _ => none
                    | _ => none
                  | _ => none
                | _ => none
              | _ => none
            | _ => none
          | _ => none
        | _ => none
      | _ => none
    | _ => none
  | _, _ => none
theorem dClsi_ok {objs : List (TO U)} {args : List (TV U)} {c : CS} {l : List R82} {s : ByteArray} {a : Int} (h : dClsi objs args = some (c, l, s, a)) : objs = [] ∧ args = [c.tv, .lst .t82 l, .v (.string s), .v (.int .i64 a)] := by
  unfold dClsi at h
  repeat' split at h
  all_goals first | (cases h; done) | (cases h; exact ⟨rfl, rfl⟩)
def dCiii (objs : List (TO U)) (args : List (TV U)) : Option (CS × Int × Int × Int) := match objs, args with
  | [], [a0, a1, a2, a3] =>
    match a0 with
    | .agg [q0, q1, q2, q3, q4, q5, q6] =>
      match q0 with
      | .lst .t82 c_G =>
        match q1 with
        | .lst .t82 c_F =>
          match q2 with
          | .lst .t90 c_N =>
            match q3 with
            | .lst .t82 c_V =>
              match q4 with
              | .v (.int .i64 c_Ret) =>
                match q5 with
                | .v (.int .i64 c_Code) =>
                  match q6 with
                  | .v (.int .i64 c_FAt) =>
                    match a1 with
                    | .v (.int .i64 x) =>
                      match a2 with
                      | .v (.int .i64 y) =>
                        match a3 with
                        | .v (.int .i64 a) =>
                          some ((⟨c_G, c_F, c_N, c_V, c_Ret, c_Code, c_FAt⟩ : CS), x, y, a)
                        | _ => none
                      | _ => none
                    | _ => none
                  | _ => none
                | _ => none
              | _ => none
            | _ => none
          | _ => none
        | _ => none
      | _ => none
    | _ => none
  | _, _ => none
theorem dCiii_ok {objs : List (TO U)} {args : List (TV U)} {c : CS} {x : Int} {y : Int} {a : Int} (h : dCiii objs args = some (c, x, y, a)) : objs = [] ∧ args = [c.tv, .v (.int .i64 x), .v (.int .i64 y), .v (.int .i64 a)] := by
  unfold dCiii at h
  repeat' split at h
  all_goals first | (cases h; done) | (cases h; exact ⟨rfl, rfl⟩)
def CS.typ (c : CS) (l : List R82) (s : ByteArray) (a : Int) : CS × Int := cond (decide (findD l s < 0)) (c.fail 183 a, 0) (c, ((getI l (findD l s)).map R82.Type_).getD 0)
theorem CS.Lk.typ (c : CS) (l : List R82) (s : ByteArray) (a : Int) : c.Lk (c.typ l s a).1 := by
  unfold CS.typ
  cases decide (findD l s < 0) with
  | true => exact .fail _ _ _
  | false => exact .refl _
def sTypC : Spc U := .of dClsi (fun (c, l, s, a) => Sn l.length) (fun _ => []) fun (c, l, s, a) => .tup [(c.typ l s a).1.tv, .v (.int .i64 (c.typ l s a).2)]
theorem sTypC_ok : SpecOk Try.prog 108 sTypC := by
  refine fn_ok X_ok mixed En_ok an0 lp0 Try.func108 (by kernel_rfl) (by kernel_rfl) (lp0_ok (by kernel_rfl)) fun objs args x hx hp => ?_
  obtain ⟨c, l, s, a⟩ := x
  obtain ⟨rfl, rfl⟩ := dClsi_ok hx
  dsimp only at hp ⊢
  rw [e67, if_pos hp]
  unfold CS.typ
  rcases findD_in l s with h | h
  · rw [h]; rfl
  · obtain ⟨z, hz, _⟩ := getI_lt h.1 h.2
    rw [hz, decide_eq_false (by omega)]
    rfl
def CS.want (c : CS) (x y a : Int) : CS := cond (!decide (x = y)) (c.fail 182 a) c
theorem CS.Lk.want (c : CS) (x y a : Int) : c.Lk (c.want x y a) := by
  unfold CS.want
  cases !decide (x = y) with
  | true => exact .fail _ _ _
  | false => exact .refl _
def sWant : Spc U := .of dCiii (fun x => True) (fun _ => []) fun (c, x, y, a) => (c.want x y a).tv
theorem sWant_ok : SpecOk Try.prog 112 sWant := by
  refine fn_ok X_ok mixed En_ok an0 lp0 Try.func112 (by kernel_rfl) (by kernel_rfl) (lp0_ok (by kernel_rfl)) fun objs args x hx hp => ?_
  obtain ⟨c, x, y, a⟩ := x
  obtain ⟨rfl, rfl⟩ := dCiii_ok hx
  dsimp only
  rw [e71]
  unfold CS.want
  cases decide (x = y) <;> rfl
/-! ### Names that are declared twice -/
def zC : TO U := .cells [nl, nl, nl, nl, .v (.int .i64 0), .v (.int .i64 0), .v (.int .i64 0)] false
def S56 (l : List R82) (c : CS) (v : Int) : TS U := mkS 30 [(1, .lst .t82 l), (2, .ref 0 0 0), (4, .ref 1 0 0), (5, .v (.int .i64 v))] [c.ob, zC] 0
def E56 (c : CS) : Exit × TS U := (.exit 0, mkS 30 [(2, .ref 0 0 0), (4, .ref 1 0 0)] [c.ob, zC] 0)
theorem r56 (lp : Lp U) (N : Nat) (l : List R82) (c : CS) (v : Int) : fnLoop X En an56 lp Try.f56 0 (N + 1) (S56 l c v) = cond (decide (v < (l.length : Int))) ((cutI l none (some v)).bind fun ys => (getI l v).bind fun z => if Sn ys.length then cond (decide (0 ≤ findD ys z.Name)) ((getI l v).bind fun z => if True then fnLoop X En an56 lp Try.f56 0 N (S56 l (c.fail 183 z.At) (IntKind.i64.wrap (v + 1))) else none) (fnLoop X En an56 lp Try.f56 0 N (S56 l c (IntKind.i64.wrap (v + 1)))) else none) (some (E56 c)) := by kernel_rfl
def step56 (l : List R82) (c : CS) (v : Int) : CS := match getI l v with
  | some z => cond (decide (0 ≤ findD (l.take v.toNat) z.Name)) (c.fail 183 z.At) c
  | none => c
def CS.twice (c : CS) (l : List R82) : CS := ixL l.length (step56 l) (l.length + 1) c 0
theorem CS.Lk.twice (c : CS) (l : List R82) : c.Lk (c.twice l) := ixL_inv (I := fun d => c.Lk d) (fun d v h _ _ => by
  unfold step56
  split
  · rename_i z _
    cases decide (0 ≤ findD (l.take v.toNat) z.Name) with
    | true => exact h.trans (.fail _ _ _)
    | false => exact h
  · exact h) _ _ _ (Int.le_refl 0) (.refl c)
theorem rounds56 (lp : Lp U) (l : List R82) (hl : l.length ≤ 3000000) (c : CS) : fnLoop X En an56 lp Try.f56 0 (l.length + 1) (S56 l c 0) = some (E56 (c.twice l)) :=
  ixL_rounds (S56 l) E56 (fun _ _ => True) (fun c v N _ h0 h1 => by
    obtain ⟨z, hz, _⟩ := getI_lt h0 h1
    have hw : IntKind.i64.wrap (v + 1) = v + 1 := wrap_i64 (by omega) (by omega)
    have hc : cutI l none (some v) = some (l.take v.toNat) := if_pos ⟨h0, by omega⟩
    have hs : Sn (l.take v.toNat).length := by show _ ≤ _; rw [List.length_take]; omega
    refine ⟨?_, trivial⟩
    rw [r56, decide_eq_true h1, hc, hz, hw, cond_true, Option.bind_some, Option.bind_some, Option.bind_some, if_pos hs, if_pos trivial]
    unfold step56
    rw [hz]
    dsimp only
    cases decide (0 ≤ findD (l.take v.toNat) z.Name) <;> rfl) (fun c v N _ h0 h1 => by rw [r56, decide_eq_false h1]; rfl) l.length c 0 (Int.le_refl 0) (by omega) trivial
def dl56 (s : TS U) : Option (CS × Int × Int × Int × List R82 × Int) := match told s 30 [1, 2, 4, 5] 0, s.objs with
  | some [a0, a1, a2, a3], [o0, o1] =>
    match o0 with
    | .cells [q0, q1, q2, q3, q4, q5, q6] false =>
      match q0 with
      | .lst .t82 c_G =>
        match q1 with
        | .lst .t82 c_F =>
          match q2 with
          | .lst .t90 c_N =>
            match q3 with
            | .lst .t82 c_V =>
              match q4 with
              | .v (.int .i64 c_Ret) =>
                match q5 with
                | .v (.int .i64 c_Code) =>
                  match q6 with
                  | .v (.int .i64 c_FAt) =>
                    match o1 with
                    | .cells [q7, q8, q9, q10, q11, q12, q13] false =>
                      match q7 with
                      | .v (.slice none 0 0) =>
                        match q8 with
                        | .v (.slice none 0 0) =>
                          match q9 with
                          | .v (.slice none 0 0) =>
                            match q10 with
                            | .v (.slice none 0 0) =>
                              match q11 with
                              | .v (.int .i64 z1) =>
                                match q12 with
                                | .v (.int .i64 z2) =>
                                  match q13 with
                                  | .v (.int .i64 z3) =>
                                    match a0 with
                                    | .lst .t82 l =>
                                      match a1 with
                                      | .ref 0 0 0 =>
                                        match a2 with
                                        | .ref 1 0 0 =>
                                          match a3 with
                                          | .v (.int .i64 v) =>
                                            some ((⟨c_G, c_F, c_N, c_V, c_Ret, c_Code, c_FAt⟩ : CS), z1, z2, z3, l, v)
                                          | _ => none
                                        | _ => none
                                      | _ => none
                                    | _ => none
                                  | _ => none
                                | _ => none
                              | _ => none
                            | _ => none
                          | _ => none
                        | _ => none
                      | _ => none
                    | _ => none
                  | _ => none
                | _ => none
              | _ => none
            | _ => none
          | _ => none
        | _ => none
      | _ => none
    | _ => none
  | _, _ => none
theorem dl56_ok {s : TS U} {c : CS} {z1 : Int} {z2 : Int} {z3 : Int} {l : List R82} {v : Int} (h : dl56 s = some (c, z1, z2, z3, l, v)) : s = mkS (U := U) 30 ([1, 2, 4, 5].zip ([.lst .t82 l, .ref 0 0 0, .ref 1 0 0, .v (.int .i64 v)] : List (TV U))) ([c.ob, .cells [.v (.slice none 0 0), .v (.slice none 0 0), .v (.slice none 0 0), .v (.slice none 0 0), .v (.int .i64 z1), .v (.int .i64 z2), .v (.int .i64 z3)] false] : List (TO U)) 0 := by
  unfold dl56 at h
  split at h <;> try (cases h; done)
  rename_i ht ho
  have hs := told_ok ht
  rw [ho] at hs
  repeat' split at h
  all_goals first | (cases h; done) | (cases h; exact hs)
def Pre56 (n : Nat) (v z1 z2 z3 : Int) : Prop := n ≤ 3000000 ∧ v = 0 ∧ z1 = 0 ∧ z2 = 0 ∧ z3 = 0
instance (n : Nat) (v z1 z2 z3 : Int) : Decidable (Pre56 n v z1 z2 z3) := by unfold Pre56; infer_instance
def lc56 : LC U := .of dl56 (fun (c, z1, z2, z3, l, v) => Pre56 l.length v z1 z2 z3) (.exit 0) (fun (c, z1, z2, z3, l, v) => (E56 (c.twice l)).2)
def lp56 : Lp U := lpL [(0, lc56)]
theorem lp56_ok : ∀ c, Try.f56.body = some c → LpOk X En an56 lp56 (loops c 0) := lpL_ok (by kernel_rfl) fun b L hm st p hs => by
  cases hm with
  | tail _ h => cases h
  | head =>
    obtain ⟨⟨c, z1, z2, z3, l, v⟩, hx, ⟨h1, rfl, rfl, rfl, rfl⟩, rfl⟩ := LC.of_some hs
    obtain rfl := dl56_ok hx
    exact ⟨_, rounds56 _ l h1 c⟩
theorem e56 (c : CS) (l : List R82) : (evFn X En an56 lp56 Try.f56 [] [c.tv, TV.lst C.t82 l] fun (o : List (TO X.U)) (v : TV X.U) => some (o, v)) = if Pre56 l.length 0 0 0 0 then some ([], (c.twice l).tv) else none := by kernel_rfl
def dCl (objs : List (TO U)) (args : List (TV U)) : Option (CS × List R82) := match objs, args with
  | [], [a0, a1] =>
    match a0 with
    | .agg [q0, q1, q2, q3, q4, q5, q6] =>
      match q0 with
      | .lst .t82 c_G =>
        match q1 with
        | .lst .t82 c_F =>
          match q2 with
          | .lst .t90 c_N =>
            match q3 with
            | .lst .t82 c_V =>
              match q4 with
              | .v (.int .i64 c_Ret) =>
                match q5 with
                | .v (.int .i64 c_Code) =>
                  match q6 with
                  | .v (.int .i64 c_FAt) =>
                    match a1 with
                    | .lst .t82 l =>
                      some ((⟨c_G, c_F, c_N, c_V, c_Ret, c_Code, c_FAt⟩ : CS), l)
                    | _ => none
                  | _ => none
                | _ => none
              | _ => none
            | _ => none
          | _ => none
        | _ => none
      | _ => none
    | _ => none
  | _, _ => none
theorem dCl_ok {objs : List (TO U)} {args : List (TV U)} {c : CS} {l : List R82} (h : dCl objs args = some (c, l)) : objs = [] ∧ args = [c.tv, .lst .t82 l] := by
  unfold dCl at h
  repeat' split at h
  all_goals first | (cases h; done) | (cases h; exact ⟨rfl, rfl⟩)
def sTwice : Spc U := .of dCl (fun (c, l) => Sn l.length) (fun _ => []) fun (c, l) => (c.twice l).tv
theorem sTwice_ok : SpecOk Try.prog 56 sTwice := by
  refine fn_ok X_ok mixed En_ok an56 lp56 Try.func56 (by kernel_rfl) (by kernel_rfl) lp56_ok fun objs args x hx hp => ?_
  obtain ⟨c, l⟩ := x
  obtain ⟨rfl, rfl⟩ := dCl_ok hx
  dsimp only at hp ⊢
  have h : Pre56 l.length 0 0 0 0 := ⟨hp, rfl, rfl, rfl, rfl⟩
  rw [e56, if_pos h]
noncomputable def Eo : FuncId → Option (Spc U)
  | 108 => some sTypC
  | 112 => some sWant
  | f => En f
theorem Eo_ok : ∀ f S, Eo f = some S → SpecOk Try.prog f S := fun f S h => by
  unfold Eo at h
  split at h
  · cases h; exact sTypC_ok
  · cases h; exact sWant_ok
  · exact En_ok _ _ h
theorem e69 (c : CS) (s : ByteArray) (y : Int) (a : Int) : (evFn X Eo an0 lp0 Try.f110 [] [c.tv, TV.v (Value.string s), TV.v (Value.int IntKind.i64 y), TV.v (Value.int IntKind.i64 a)] fun (o : List (TO X.U)) (v : TV X.U) => some (o, v)) = if Sn c.V.length then if True then some ([], ((c.typ c.V s a).fst.want (c.typ c.V s a).snd y a).tv) else none else none := by kernel_rfl
end Go.Proofs.Ytpkgikchphgfaaa.Fl
/- The references' checks: calls. -/
namespace Go.Proofs.Ytpkgikchphgfaaa.Fl
open Go Go.RowKit Go.Proofs.Ytpkgikchphgfaaa.Eng
set_option linter.unusedVariables false
set_option linter.unusedSimpArgs false
set_option maxRecDepth 20000
def dCsii (objs : List (TO U)) (args : List (TV U)) : Option (CS × ByteArray × Int × Int) := match objs, args with
  | [], [a0, a1, a2, a3] =>
    match a0 with
    | .agg [q0, q1, q2, q3, q4, q5, q6] =>
      match q0 with
      | .lst .t82 c_G =>
        match q1 with
        | .lst .t82 c_F =>
          match q2 with
          | .lst .t90 c_N =>
            match q3 with
            | .lst .t82 c_V =>
              match q4 with
              | .v (.int .i64 c_Ret) =>
                match q5 with
                | .v (.int .i64 c_Code) =>
                  match q6 with
                  | .v (.int .i64 c_FAt) =>
                    match a1 with
                    | .v (.string s) =>
                      match a2 with
                      | .v (.int .i64 y) =>
                        match a3 with
                        | .v (.int .i64 a) =>
                          some ((⟨c_G, c_F, c_N, c_V, c_Ret, c_Code, c_FAt⟩ : CS), s, y, a)
                        | _ => none
                      | _ => none
                    | _ => none
                  | _ => none
                | _ => none
              | _ => none
            | _ => none
          | _ => none
        | _ => none
      | _ => none
    | _ => none
  | _, _ => none
theorem dCsii_ok {objs : List (TO U)} {args : List (TV U)} {c : CS} {s : ByteArray} {y : Int} {a : Int} (h : dCsii objs args = some (c, s, y, a)) : objs = [] ∧ args = [c.tv, .v (.string s), .v (.int .i64 y), .v (.int .i64 a)] := by
  unfold dCsii at h
  repeat' split at h
  all_goals first | (cases h; done) | (cases h; exact ⟨rfl, rfl⟩)
def CS.var (c : CS) (s : ByteArray) (y a : Int) : CS := (c.typ c.V s a).1.want (c.typ c.V s a).2 y a
theorem CS.Lk.var (c : CS) (s : ByteArray) (y a : Int) : c.Lk (c.var s y a) := (CS.Lk.typ c c.V s a).trans (.want _ _ _ _)
def sVar : Spc U := .of dCsii (fun (c, s, y, a) => Sn c.V.length) (fun _ => []) fun (c, s, y, a) => (c.var s y a).tv
theorem sVar_ok : SpecOk Try.prog 110 sVar := by
  refine fn_ok X_ok mixed Eo_ok an0 lp0 Try.func110 (by kernel_rfl) (by kernel_rfl) (lp0_ok (by kernel_rfl)) fun objs args x hx hp => ?_
  obtain ⟨c, s, y, a⟩ := x
  obtain ⟨rfl, rfl⟩ := dCsii_ok hx
  dsimp only at hp ⊢
  rw [e69, if_pos hp, if_pos trivial]
  rfl
noncomputable def Ep : FuncId → Option (Spc U)
  | 110 => some sVar
  | f => Eo f
theorem Ep_ok : ∀ f S, Ep f = some S → SpecOk Try.prog f S := fun f S h => by
  unfold Ep at h
  split at h
  · cases h; exact sVar_ok
  · exact Eo_ok _ _ h
def an70 : Ann := ⟨fun | 0 => 348 | 2 => 3164 | _ => 0, fun | 0 => 200 | 2 => 1224 | _ => 0, fun _ => [], false⟩
def R112.tv (e : R112) : TV U := exprV e
def R112.ob (e : R112) : TO U := .cells [.v (.int .i64 e.Kind), .v (.string e.A), .v (.string e.B), .v (.int .i64 e.Op), .v (.int .i64 e.N), .lst .str e.Args] false
def R90.ob (z : R90) : TO U := .cells [.v (.string z.Name), .v (.int .i64 z.At), .lst .t82 z.Params, .v (.int .i64 z.Ret), .lst .t82 z.Vars, .lst .t114 z.Body] false
def S70a (e : R112) (a : Int) (c : CS) (v : Int) : TS U := mkS 92 [(2, .v (.int .i64 a)), (3, .ref 0 0 0), (4, .ref 1 0 0), (6, .ref 2 0 0), (8, .v (.int .i64 v))] [c.ob, e.ob, zC] 0
def E70a (c : CS) : Exit × TS U := (.exit 0, mkS 92 [(3, .ref 0 0 0), (6, .ref 1 0 0)] [c.ob, zC] 0)
def S70b (e : R112) (z : R90) (a : Int) (c : CS) (v : Int) : TS U := mkS 92 [(2, .v (.int .i64 a)), (3, .ref 0 0 0), (4, .ref 1 0 0), (6, .ref 2 0 0), (10, .ref 3 0 0), (11, .v (.int .i64 v))] [c.ob, e.ob, zC, z.ob] 0
def E70b (z : R90) (c : CS) : Exit × TS U := (.exit 2, mkS 92 [(3, .ref 0 0 0), (6, .ref 1 0 0), (10, .ref 2 0 0)] [c.ob, zC, z.ob] 0)
theorem r70a (lp : Lp U) (N : Nat) (e : R112) (a : Int) (c : CS) (v : Int) : fnLoop X Ep an70 lp Try.f111 0 (N + 1) (S70a e a c v) = cond (decide (v < (e.Args.length : Int))) ((getI e.Args v).bind fun z => if Sn c.V.length then fnLoop X Ep an70 lp Try.f111 0 N (S70a e a (c.typ c.V z a).1 (IntKind.i64.wrap (v + 1))) else none) (some (E70a c)) := by kernel_rfl
theorem r70b (lp : Lp U) (N : Nat) (e : R112) (z : R90) (a : Int) (c : CS) (v : Int) : fnLoop X Ep an70 lp Try.f111 2 (N + 1) (S70b e z a c v) = cond (decide (v < (e.Args.length : Int))) ((getI e.Args v).bind fun s => (getI z.Params v).bind fun d => if Sn c.V.length then fnLoop X Ep an70 lp Try.f111 2 N (S70b e z a (c.var s d.Type_ a) (IntKind.i64.wrap (v + 1))) else none) (some (E70b z c)) := by kernel_rfl
def argsT (l : List ByteArray) (a : Int) (c : CS) (v : Int) : CS := match getI l v with
  | some s => (c.typ c.V s a).1
  | none => c
def argsV (l : List ByteArray) (ps : List R82) (a : Int) (c : CS) (v : Int) : CS := match getI l v, getI ps v with
  | some s, some d => c.var s d.Type_ a
  | _, _ => c
theorem argsT_lk (l : List ByteArray) (a : Int) (c : CS) (v : Int) : c.Lk (argsT l a c v) := by
  unfold argsT
  split
  · exact .typ _ _ _ _
  · exact .refl _
theorem argsV_lk (l : List ByteArray) (ps : List R82) (a : Int) (c : CS) (v : Int) : c.Lk (argsV l ps a c v) := by
  unfold argsV
  split
  · exact .var _ _ _ _
  · exact .refl _
def allT (l : List ByteArray) (a : Int) (c : CS) : CS := ixL l.length (argsT l a) (l.length + 1) c 0
def allV (l : List ByteArray) (ps : List R82) (a : Int) (c : CS) : CS := ixL l.length (argsV l ps a) (l.length + 1) c 0
theorem CS.Lk.V {c d : CS} (h : c.Lk d) : d.V = c.V := by obtain ⟨k, a, rfl⟩ := h; rfl
theorem allT_lk (l : List ByteArray) (a : Int) (c : CS) : c.Lk (allT l a c) := ixL_inv (I := fun d => c.Lk d) (fun d v h _ _ => h.trans (argsT_lk _ _ _ _)) _ _ _ (Int.le_refl 0) (.refl c)
theorem allV_lk (l : List ByteArray) (ps : List R82) (a : Int) (c : CS) : c.Lk (allV l ps a c) := ixL_inv (I := fun d => c.Lk d) (fun d v h _ _ => h.trans (argsV_lk _ _ _ _ _)) _ _ _ (Int.le_refl 0) (.refl c)
theorem rounds70a (lp : Lp U) (e : R112) (a : Int) (hl : e.Args.length ≤ 3000000) (c : CS) (hc : Sn c.V.length) : fnLoop X Ep an70 lp Try.f111 0 (e.Args.length + 1) (S70a e a c 0) = some (E70a (allT e.Args a c)) :=
  ixL_rounds (S70a e a) E70a (fun d _ => c.Lk d) (fun d v N hd h0 h1 => by
    obtain ⟨z, hz, _⟩ := getI_lt h0 h1
    have hw : IntKind.i64.wrap (v + 1) = v + 1 := wrap_i64 (by omega) (by omega)
    refine ⟨?_, hd.trans (argsT_lk _ _ _ _)⟩
    rw [r70a, decide_eq_true h1, hz, hw, cond_true, Option.bind_some, if_pos (by rw [hd.V]; exact hc)]
    unfold argsT
    rw [hz]) (fun d v N _ h0 h1 => by rw [r70a, decide_eq_false h1]; rfl) e.Args.length c 0 (Int.le_refl 0) (by omega) (.refl c)
theorem rounds70b (lp : Lp U) (e : R112) (z : R90) (a : Int) (hl : e.Args.length ≤ 3000000) (he : z.Params.length = e.Args.length) (c : CS) (hc : Sn c.V.length) : fnLoop X Ep an70 lp Try.f111 2 (e.Args.length + 1) (S70b e z a c 0) = some (E70b z (allV e.Args z.Params a c)) :=
  ixL_rounds (S70b e z a) (E70b z) (fun d _ => c.Lk d) (fun d v N hd h0 h1 => by
    obtain ⟨s, hs, _⟩ := getI_lt h0 h1
    obtain ⟨t, ht, _⟩ := getI_lt (l := z.Params) h0 (by omega)
    have hw : IntKind.i64.wrap (v + 1) = v + 1 := wrap_i64 (by omega) (by omega)
    refine ⟨?_, hd.trans (argsV_lk _ _ _ _ _)⟩
    rw [r70b, decide_eq_true h1, hs, ht, hw, cond_true, Option.bind_some, Option.bind_some, if_pos (by rw [hd.V]; exact hc)]
    unfold argsV
    rw [hs, ht]) (fun d v N _ h0 h1 => by rw [r70b, decide_eq_false h1]; rfl) e.Args.length c 0 (Int.le_refl 0) (by omega) (.refl c)
def dla (s : TS U) : Option (CS × R112 × Int × Int × Int × Int × Int) := match told s 92 [2, 3, 4, 6, 8] 0, s.objs with
  | some [a0, a1, a2, a3, a4], [o0, o1, o2] =>
    match o0 with
    | .cells [q0, q1, q2, q3, q4, q5, q6] false =>
      match q0 with
      | .lst .t82 c_G =>
        match q1 with
        | .lst .t82 c_F =>
          match q2 with
          | .lst .t90 c_N =>
            match q3 with
            | .lst .t82 c_V =>
              match q4 with
              | .v (.int .i64 c_Ret) =>
                match q5 with
                | .v (.int .i64 c_Code) =>
                  match q6 with
                  | .v (.int .i64 c_FAt) =>
                    match o1 with
                    | .cells [q7, q8, q9, q10, q11, q12] false =>
                      match q7 with
                      | .v (.int .i64 e_Kind) =>
                        match q8 with
                        | .v (.string e_A) =>
                          match q9 with
                          | .v (.string e_B) =>
                            match q10 with
                            | .v (.int .i64 e_Op) =>
                              match q11 with
                              | .v (.int .i64 e_N) =>
                                match q12 with
                                | .lst .str e_Args =>
                                  match o2 with
                                  | .cells [q13, q14, q15, q16, q17, q18, q19] false =>
                                    match q13 with
                                    | .v (.slice none 0 0) =>
                                      match q14 with
                                      | .v (.slice none 0 0) =>
                                        match q15 with
                                        | .v (.slice none 0 0) =>
                                          match q16 with
                                          | .v (.slice none 0 0) =>
                                            match q17 with
                                            | .v (.int .i64 z1) =>
                                              match q18 with
                                              | .v (.int .i64 z2) =>
                                                match q19 with
                                                | .v (.int .i64 z3) =>
                                                  match a0 with
                                                  | .v (.int .i64 a) =>
                                                    match a1 with
                                                    | .ref 0 0 0 =>
                                                      match a2 with
                                                      | .ref 1 0 0 =>
                                                        match a3 with
                                                        | .ref 2 0 0 =>
                                                          match a4 with
                                                          | .v (.int .i64 v) =>
                                                            some ((⟨c_G, c_F, c_N, c_V, c_Ret, c_Code, c_FAt⟩ : CS), (⟨e_Kind, e_A, e_B, e_Op, e_N, e_Args⟩ : R112), z1, z2, z3, a, v)
                                                          | _ => none
                                                        | _ => none
                                                      | _ => none
                                                    | _ => none
                                                  | _ => none
                                                | _ => none
                                              | _ => none
                                            | _ => none
                                          | _ => none
                                        | _ => none
                                      | _ => none
                                    | _ => none
                                  | _ => none
                                | _ => none
                              | _ => none
                            | _ => none
                          | _ => none
                        | _ => none
                      | _ => none
                    | _ => none
                  | _ => none
                | _ => none
              | _ => none
            | _ => none
          | _ => none
        | _ => none
      | _ => none
    | _ => none
  | _, _ => none
theorem dla_ok {s : TS U} {c : CS} {e : R112} {z1 : Int} {z2 : Int} {z3 : Int} {a : Int} {v : Int} (h : dla s = some (c, e, z1, z2, z3, a, v)) : s = mkS (U := U) 92 ([2, 3, 4, 6, 8].zip ([.v (.int .i64 a), .ref 0 0 0, .ref 1 0 0, .ref 2 0 0, .v (.int .i64 v)] : List (TV U))) ([c.ob, e.ob, .cells [.v (.slice none 0 0), .v (.slice none 0 0), .v (.slice none 0 0), .v (.slice none 0 0), .v (.int .i64 z1), .v (.int .i64 z2), .v (.int .i64 z3)] false] : List (TO U)) 0 := by
  unfold dla at h
  split at h <;> try (cases h; done)
  rename_i ht ho
  have hs := told_ok ht
  rw [ho] at hs
  repeat' split at h
  all_goals first | (cases h; done) | (cases h; exact hs)
def dlb (s : TS U) : Option (CS × R112 × Int × Int × Int × R90 × Int × Int) := match told s 92 [2, 3, 4, 6, 10, 11] 0, s.objs with
  | some [a0, a1, a2, a3, a4, a5], [o0, o1, o2, o3] =>
    match o0 with
    | .cells [q0, q1, q2, q3, q4, q5, q6] false =>
      match q0 with
      | .lst .t82 c_G =>
        match q1 with
        | .lst .t82 c_F =>
          match q2 with
          | .lst .t90 c_N =>
            match q3 with
            | .lst .t82 c_V =>
              match q4 with
              | .v (.int .i64 c_Ret) =>
                match q5 with
                | .v (.int .i64 c_Code) =>
                  match q6 with
                  | .v (.int .i64 c_FAt) =>
                    match o1 with
                    | .cells [q7, q8, q9, q10, q11, q12] false =>
                      match q7 with
                      | .v (.int .i64 e_Kind) =>
                        match q8 with
                        | .v (.string e_A) =>
                          match q9 with
                          | .v (.string e_B) =>
                            match q10 with
                            | .v (.int .i64 e_Op) =>
                              match q11 with
                              | .v (.int .i64 e_N) =>
                                match q12 with
                                | .lst .str e_Args =>
                                  match o2 with
                                  | .cells [q13, q14, q15, q16, q17, q18, q19] false =>
                                    match q13 with
                                    | .v (.slice none 0 0) =>
                                      match q14 with
                                      | .v (.slice none 0 0) =>
                                        match q15 with
                                        | .v (.slice none 0 0) =>
                                          match q16 with
                                          | .v (.slice none 0 0) =>
                                            match q17 with
                                            | .v (.int .i64 z1) =>
                                              match q18 with
                                              | .v (.int .i64 z2) =>
                                                match q19 with
                                                | .v (.int .i64 z3) =>
                                                  match o3 with
                                                  | .cells [q20, q21, q22, q23, q24, q25] false =>
                                                    match q20 with
                                                    | .v (.string z_Name) =>
                                                      match q21 with
                                                      | .v (.int .i64 z_At) =>
                                                        match q22 with
                                                        | .lst .t82 z_Params =>
                                                          match q23 with
                                                          | .v (.int .i64 z_Ret) =>
                                                            match q24 with
                                                            | .lst .t82 z_Vars =>
                                                              match q25 with
                                                              | .lst .t114 z_Body =>
                                                                match a0 with
                                                                | .v (.int .i64 a) =>
                                                                  match a1 with
                                                                  | .ref 0 0 0 =>
                                                                    match a2 with
                                                                    | .ref 1 0 0 =>
                                                                      match a3 with
                                                                      | .ref 2 0 0 =>
                                                                        match a4 with
                                                                        | .ref 3 0 0 =>
                                                                          match a5 with
                                                                          | .v (.int .i64 v) =>
                                                                            some ((⟨c_G, c_F, c_N, c_V, c_Ret, c_Code, c_FAt⟩ : CS), (⟨e_Kind, e_A, e_B, e_Op, e_N, e_Args⟩ : R112), z1, z2, z3, (⟨z_Name, z_At, z_Params, z_Ret, z_Vars, z_Body⟩ : R90), a, v)
                                                                          | _ => none
                                                                        | _ => none
                                                                      | _ => none
                                                                    | _ => none
                                                                  | _ => none
                                                                | _ => none
                                                              | _ => none
                                                            | _ => none
                                                          | _ => none
                                                        | _ => none
                                                      | _ => none
                                                    | _ => none
                                                  | _ => none
                                                | _ => none
                                              | _ => none
                                            | _ => none
                                          | _ => none
                                        | _ => none
                                      | _ => none
                                    | _ => none
                                  | _ => none
                                | _ => none
                              | _ => none
                            | _ => none
                          | _ => none
                        | _ => none
                      | _ => none
                    | _ => none
                  | _ => none
                | _ => none
              | _ => none
            | _ => none
          | _ => none
        | _ => none
      | _ => none
    | _ => none
  | _, _ => none
theorem dlb_ok {s : TS U} {c : CS} {e : R112} {z1 : Int} {z2 : Int} {z3 : Int} {z : R90} {a : Int} {v : Int} (h : dlb s = some (c, e, z1, z2, z3, z, a, v)) : s = mkS (U := U) 92 ([2, 3, 4, 6, 10, 11].zip ([.v (.int .i64 a), .ref 0 0 0, .ref 1 0 0, .ref 2 0 0, .ref 3 0 0, .v (.int .i64 v)] : List (TV U))) ([c.ob, e.ob, .cells [.v (.slice none 0 0), .v (.slice none 0 0), .v (.slice none 0 0), .v (.slice none 0 0), .v (.int .i64 z1), .v (.int .i64 z2), .v (.int .i64 z3)] false, z.ob] : List (TO U)) 0 := by
  unfold dlb at h
  split at h <;> try (cases h; done)
  rename_i ht ho
  have hs := told_ok ht
  rw [ho] at hs
  repeat' split at h
  all_goals first | (cases h; done) | (cases h; exact hs)
def Pre70 (n m k : Nat) (v z1 z2 z3 : Int) : Prop := (n ≤ 3000000 ∧ Sn m ∧ k = n) ∧ v = 0 ∧ z1 = 0 ∧ z2 = 0 ∧ z3 = 0
instance (n m k : Nat) (v z1 z2 z3 : Int) : Decidable (Pre70 n m k v z1 z2 z3) := by unfold Pre70; infer_instance
def lc70a : LC U := .of dla (fun (c, e, z1, z2, z3, a, v) => Pre70 e.Args.length c.V.length e.Args.length v z1 z2 z3) (.exit 0) (fun (c, e, z1, z2, z3, a, v) => (E70a (allT e.Args a c)).2)
def lc70b : LC U := .of dlb (fun (c, e, z1, z2, z3, z, a, v) => Pre70 e.Args.length c.V.length z.Params.length v z1 z2 z3) (.exit 2) (fun (c, e, z1, z2, z3, z, a, v) => (E70b z (allV e.Args z.Params a c)).2)
def lp70 : Lp U := lpL [(0, lc70a), (2, lc70b)]
theorem lp70_ok : ∀ c, Try.f111.body = some c → LpOk X Ep an70 lp70 (loops c 0) := lpL_ok (by kernel_rfl) fun b L hm st p hs => by
  cases hm with
  | head =>
    obtain ⟨⟨c, e, z1, z2, z3, a, v⟩, hx, ⟨⟨h1, h2, h3⟩, rfl, rfl, rfl, rfl⟩, rfl⟩ := LC.of_some hs
    obtain rfl := dla_ok hx
    exact ⟨_, rounds70a _ e a h1 c h2⟩
  | tail _ hm => cases hm with
    | head =>
      obtain ⟨⟨c, e, z1, z2, z3, z, a, v⟩, hx, ⟨⟨h1, h2, h3⟩, rfl, rfl, rfl, rfl⟩, rfl⟩ := LC.of_some hs
      obtain rfl := dlb_ok hx
      exact ⟨_, rounds70b _ e z a h1 h3 c h2⟩
    | tail _ hm => cases hm
theorem e70 (c : CS) (e : R112) (a : Int) : (evFn X Ep an70 lp70 Try.f111 [] [c.tv, e.tv, TV.v (Value.int IntKind.i64 a)] fun (o : List (TO X.U)) (v : TV X.U) => some (o, v)) = bif decide (e.Kind = 11) then if Sn c.V.length then if Pre70 e.Args.length (c.var e.A 3 a).V.length e.Args.length 0 0 0 0 then some ([], TV.tup [(allT e.Args a (c.var e.A 3 a)).tv, TV.v (Value.int IntKind.i64 0)]) else none else none else if Sn c.N.length then bif decide (fnI c.N e.A < 0) then if True then some ([], TV.tup [(c.fail 183 a).tv, TV.v (Value.int IntKind.i64 0)]) else none else (getI c.N (fnI c.N e.A)).bind fun (z : X.U.T C.t90) => bif !decide ((↑z.Params.length : Int) = (↑e.Args.length : Int)) then if True then some ([], TV.tup [(c.fail 182 a).tv, TV.v (Value.int IntKind.i64 z.Ret)]) else none else if Pre70 e.Args.length c.V.length z.Params.length 0 0 0 0 then some ([], TV.tup [(allV e.Args z.Params a c).tv, TV.v (Value.int IntKind.i64 z.Ret)]) else none else none := by kernel_rfl
def CS.call (c : CS) (e : R112) (a : Int) : CS × Int := cond (decide (e.Kind = 11)) (allT e.Args a (c.var e.A 3 a), 0)
  (cond (decide (fnI c.N e.A < 0)) (c.fail 183 a, 0) (match getI c.N (fnI c.N e.A) with
    | some z => cond (!decide ((z.Params.length : Int) = e.Args.length)) (c.fail 182 a, z.Ret) (allV e.Args z.Params a c, z.Ret)
    | none => (c, 0)))
theorem CS.Lk.call (c : CS) (e : R112) (a : Int) : c.Lk (c.call e a).1 := by
  unfold CS.call
  cases decide (e.Kind = 11) with
  | true => exact (CS.Lk.var _ _ _ _).trans (allT_lk _ _ _)
  | false =>
    cases decide (fnI c.N e.A < 0) with
    | true => exact .fail _ _ _
    | false =>
      simp only [cond_false]
      split
      · rename_i z _
        cases !decide ((z.Params.length : Int) = e.Args.length) with
        | true => exact .fail _ _ _
        | false => exact allV_lk _ _ _ _
      · exact .refl _
def dCei (objs : List (TO U)) (args : List (TV U)) : Option (CS × R112 × Int) := match objs, args with
  | [], [a0, a1, a2] =>
    match a0 with
    | .agg [q0, q1, q2, q3, q4, q5, q6] =>
      match q0 with
      | .lst .t82 c_G =>
        match q1 with
        | .lst .t82 c_F =>
          match q2 with
          | .lst .t90 c_N =>
            match q3 with
            | .lst .t82 c_V =>
              match q4 with
              | .v (.int .i64 c_Ret) =>
                match q5 with
                | .v (.int .i64 c_Code) =>
                  match q6 with
                  | .v (.int .i64 c_FAt) =>
                    match a1 with
                    | .agg [q7, q8, q9, q10, q11, q12] =>
                      match q7 with
                      | .v (.int .i64 e_Kind) =>
                        match q8 with
                        | .v (.string e_A) =>
                          match q9 with
                          | .v (.string e_B) =>
                            match q10 with
                            | .v (.int .i64 e_Op) =>
                              match q11 with
                              | .v (.int .i64 e_N) =>
                                match q12 with
                                | .lst .str e_Args =>
                                  match a2 with
                                  | .v (.int .i64 a) =>
                                    some ((⟨c_G, c_F, c_N, c_V, c_Ret, c_Code, c_FAt⟩ : CS), (⟨e_Kind, e_A, e_B, e_Op, e_N, e_Args⟩ : R112), a)
                                  | _ => none
                                | _ => none
                              | _ => none
                            | _ => none
                          | _ => none
                        | _ => none
                      | _ => none
                    | _ => none
                  | _ => none
                | _ => none
              | _ => none
            | _ => none
          | _ => none
        | _ => none
      | _ => none
    | _ => none
  | _, _ => none
theorem dCei_ok {objs : List (TO U)} {args : List (TV U)} {c : CS} {e : R112} {a : Int} (h : dCei objs args = some (c, e, a)) : objs = [] ∧ args = [c.tv, e.tv, .v (.int .i64 a)] := by
  unfold dCei at h
  repeat' split at h
  all_goals first | (cases h; done) | (cases h; exact ⟨rfl, rfl⟩)
def PreC (c : CS) (e : R112) : Prop := Sn c.V.length ∧ Sn c.N.length ∧ Sn e.Args.length
noncomputable instance (c : CS) (e : R112) : Decidable (PreC c e) := Classical.propDecidable _
noncomputable def sCallC : Spc U := .of dCei (fun (c, e, a) => PreC c e) (fun _ => []) fun (c, e, a) => .tup [(c.call e a).1.tv, .v (.int .i64 (c.call e a).2)]
theorem sCallC_ok : SpecOk Try.prog 111 sCallC := by
  refine fn_ok X_ok mixed Ep_ok an70 lp70 Try.func111 (by kernel_rfl) (by kernel_rfl) lp70_ok fun objs args x hx hp => ?_
  obtain ⟨c, e, a⟩ := x
  obtain ⟨rfl, rfl⟩ := dCei_ok hx
  dsimp only at hp ⊢
  obtain ⟨h1, h2, h3⟩ := hp
  have h4 : Pre70 e.Args.length (c.var e.A 3 a).V.length e.Args.length 0 0 0 0 := ⟨⟨h3, by rw [(CS.Lk.var c e.A 3 a).V]; exact h1, rfl⟩, rfl, rfl, rfl, rfl⟩
  rw [e70]
  unfold CS.call
  by_cases hk : e.Kind = 11
  · rw [decide_eq_true hk, cond_true, if_pos h1, if_pos h4]
    rfl
  · rw [decide_eq_false hk, cond_false, if_pos h2]
    rcases fnI_in c.N e.A with h | h
    · rw [h]; rfl
    · obtain ⟨z, hz, _⟩ := getI_lt h.1 h.2
      rw [decide_eq_false (by omega), hz, cond_false, Option.bind_some]
      by_cases he : (z.Params.length : Int) = e.Args.length
      · have h5 : Pre70 e.Args.length c.V.length z.Params.length 0 0 0 0 := ⟨⟨h3, h1, by omega⟩, rfl, rfl, rfl, rfl⟩
        rw [decide_eq_true he, Bool.not_true, cond_false, if_pos h5]
        simp only [cond_false, he, decide_true, Bool.not_true]
      · rw [decide_eq_false he]
        simp only [cond_false, he, decide_false, Bool.not_false, cond_true]
        rfl
end Go.Proofs.Ytpkgikchphgfaaa.Fl
/- The references' checks: expressions. -/
namespace Go.Proofs.Ytpkgikchphgfaaa.Fl
open Go Go.RowKit Go.Proofs.Ytpkgikchphgfaaa.Eng
set_option linter.unusedVariables false
set_option linter.unusedSimpArgs false
set_option maxRecDepth 20000
noncomputable def Eq_ : FuncId → Option (Spc U)
  | 111 => some sCallC
  | f => Ep f
theorem Eq_ok : ∀ f S, Eq_ f = some S → SpecOk Try.prog f S := fun f S h => by
  unfold Eq_ at h
  split at h
  · cases h; exact sCallC_ok
  · exact Ep_ok _ _ h
def an68 : Ann := ⟨fun _ => 0, fun _ => 0, fun _ => [], false⟩
def an59 : Ann := ⟨fun | 0 => 54 | _ => 0, fun | 0 => 20 | _ => 0, fun _ => [], false⟩
theorem e68 (c : CS) (e : R112) (m : Int) (a : Int) : (evFn X Eq_ an68 lp0 Try.f109 [] [c.tv, e.tv, TV.v (Value.int IntKind.i64 m), TV.v (Value.int IntKind.i64 a)] fun (o : List (TO X.U)) (v : TV X.U) => some (o, v)) = bif decide (e.Kind = 2) then if True then some ([], (c.want 2 m a).tv) else none else bif decide (e.Kind = 6) then if True then some ([], (c.want 2 m a).tv) else none else bif decide (e.Kind = 3) then if Sn c.V.length then if True then some ([], ((c.typ c.V e.A a).fst.want (c.typ c.V e.A a).snd m a).tv) else none else none else bif decide (e.Kind = 4) then if Sn c.G.length then if True then some ([], ((c.typ c.G e.A a).fst.want (c.typ c.G e.A a).snd m a).tv) else none else none else bif decide (e.Kind = 5) then if Sn c.V.length then if Sn c.F.length then if True then some ([], (((c.var e.A 2 a).typ c.F e.B a).fst.want ((c.var e.A 2 a).typ c.F e.B a).snd m a).tv) else none else none else none else bif decide (e.Kind = 7) then if Sn c.N.length then bif decide (fnI c.N e.A < 0) then if True then if True then some ([], ((c.fail 183 a).want 3 m a).tv) else none else none else if True then some ([], (c.want 3 m a).tv) else none else none else bif decide (e.Kind = 8) then if Sn c.V.length then if Sn (c.var e.A 1 a).V.length then if True then some ([], (((c.var e.A 1 a).var e.B 1 a).want 1 m a).tv) else none else none else none else bif decide (e.Kind = 9) then if Sn c.V.length then if True then some ([], ((c.var e.A 1 a).want 1 m a).tv) else none else none else bif decide (e.Kind = 10) then if PreC c e then if True then some ([], ((c.call e a).fst.want (c.call e a).snd m a).tv) else none else none else bif decide (e.Kind = 11) then if PreC c e then if True then some ([], ((c.call e a).fst.want m m a).tv) else none else none else if True then some ([], (c.want 1 m a).tv) else none := by kernel_rfl
def CS.expr (c : CS) (e : R112) (m a : Int) : CS :=
  cond (decide (e.Kind = 2)) (c.want 2 m a) (cond (decide (e.Kind = 6)) (c.want 2 m a) (cond (decide (e.Kind = 3)) ((c.typ c.V e.A a).1.want (c.typ c.V e.A a).2 m a)
    (cond (decide (e.Kind = 4)) ((c.typ c.G e.A a).1.want (c.typ c.G e.A a).2 m a) (cond (decide (e.Kind = 5)) (((c.var e.A 2 a).typ c.F e.B a).1.want ((c.var e.A 2 a).typ c.F e.B a).2 m a)
      (cond (decide (e.Kind = 7)) (cond (decide (fnI c.N e.A < 0)) ((c.fail 183 a).want 3 m a) (c.want 3 m a)) (cond (decide (e.Kind = 8)) (((c.var e.A 1 a).var e.B 1 a).want 1 m a)
        (cond (decide (e.Kind = 9)) ((c.var e.A 1 a).want 1 m a) (cond (decide (e.Kind = 10)) ((c.call e a).1.want (c.call e a).2 m a) (cond (decide (e.Kind = 11)) ((c.call e a).1.want m m a) (c.want 1 m a))))))))))
theorem CS.Lk.cond {c x y : CS} (b : Bool) (h1 : c.Lk x) (h2 : c.Lk y) : c.Lk (cond b x y) := by cases b <;> assumption
theorem CS.Lk.expr (c : CS) (e : R112) (m a : Int) : c.Lk (c.expr e m a) := by
  unfold CS.expr
  refine .cond _ (.want _ _ _ _) (.cond _ (.want _ _ _ _) (.cond _ ((CS.Lk.typ _ _ _ _).trans (.want _ _ _ _)) (.cond _ ((CS.Lk.typ _ _ _ _).trans (.want _ _ _ _)) (.cond _ (((CS.Lk.var _ _ _ _).trans (.typ _ _ _ _)).trans (.want _ _ _ _))
    (.cond _ (.cond _ ((CS.Lk.fail _ _ _).trans (.want _ _ _ _)) (.want _ _ _ _)) (.cond _ (((CS.Lk.var _ _ _ _).trans (.var _ _ _ _)).trans (.want _ _ _ _)) (.cond _ ((CS.Lk.var _ _ _ _).trans (.want _ _ _ _))
      (.cond _ ((CS.Lk.call _ _ _).trans (.want _ _ _ _)) (.cond _ ((CS.Lk.call _ _ _).trans (.want _ _ _ _)) (.want _ _ _ _))))))))))
theorem tv_cond (b : Bool) (x y : CS) : cond b (some (([] : List (TO U)), x.tv)) (some ([], y.tv)) = some ([], (cond b x y).tv) := by cases b <;> rfl
/-- Nothing in it is too long. -/
def CSz (c : CS) : Prop := Sn c.G.length ∧ Sn c.F.length ∧ Sn c.N.length ∧ Sn c.V.length
theorem CS.Lk.csz {c d : CS} (h : c.Lk d) (hs : CSz c) : CSz d := by obtain ⟨k, a, rfl⟩ := h; exact hs
def PreE (c : CS) (n : Nat) : Prop := CSz c ∧ Sn n
noncomputable instance (c : CS) (n : Nat) : Decidable (PreE c n) := Classical.propDecidable _
def dCeii (objs : List (TO U)) (args : List (TV U)) : Option (CS × R112 × Int × Int) := match objs, args with
  | [], [a0, a1, a2, a3] =>
    match a0 with
    | .agg [q0, q1, q2, q3, q4, q5, q6] =>
      match q0 with
      | .lst .t82 c_G =>
        match q1 with
        | .lst .t82 c_F =>
          match q2 with
          | .lst .t90 c_N =>
            match q3 with
            | .lst .t82 c_V =>
              match q4 with
              | .v (.int .i64 c_Ret) =>
                match q5 with
                | .v (.int .i64 c_Code) =>
                  match q6 with
                  | .v (.int .i64 c_FAt) =>
                    match a1 with
                    | .agg [q7, q8, q9, q10, q11, q12] =>
                      match q7 with
                      | .v (.int .i64 e_Kind) =>
                        match q8 with
                        | .v (.string e_A) =>
                          match q9 with
                          | .v (.string e_B) =>
                            match q10 with
                            | .v (.int .i64 e_Op) =>
                              match q11 with
                              | .v (.int .i64 e_N) =>
                                match q12 with
                                | .lst .str e_Args =>
                                  match a2 with
                                  | .v (.int .i64 m) =>
                                    match a3 with
                                    | .v (.int .i64 a) =>
                                      some ((⟨c_G, c_F, c_N, c_V, c_Ret, c_Code, c_FAt⟩ : CS), (⟨e_Kind, e_A, e_B, e_Op, e_N, e_Args⟩ : R112), m, a)
                                    | _ => none
                                  | _ => none
                                | _ => none
                              | _ => none
                            | _ => none
                          | _ => none
                        | _ => none
                      | _ => none
                    | _ => none
                  | _ => none
                | _ => none
              | _ => none
            | _ => none
          | _ => none
        | _ => none
      | _ => none
    | _ => none
  | _, _ => none
theorem dCeii_ok {objs : List (TO U)} {args : List (TV U)} {c : CS} {e : R112} {m : Int} {a : Int} (h : dCeii objs args = some (c, e, m, a)) : objs = [] ∧ args = [c.tv, e.tv, .v (.int .i64 m), .v (.int .i64 a)] := by
  unfold dCeii at h
  repeat' split at h
  all_goals first | (cases h; done) | (cases h; exact ⟨rfl, rfl⟩)
noncomputable def sExprC : Spc U := .of dCeii (fun (c, e, m, a) => PreE c e.Args.length) (fun _ => []) fun (c, e, m, a) => (c.expr e m a).tv
theorem sExprC_ok : SpecOk Try.prog 109 sExprC := by
  refine fn_ok X_ok mixed Eq_ok an68 lp0 Try.func109 (by kernel_rfl) (by kernel_rfl) (lp0_ok (by kernel_rfl)) fun objs args x hx hp => ?_
  obtain ⟨c, e, m, a⟩ := x
  obtain ⟨rfl, rfl⟩ := dCeii_ok hx
  dsimp only at hp ⊢
  obtain ⟨⟨h1, h2, h3, h4⟩, h5⟩ := hp
  have h6 : PreC c e := ⟨h4, h3, h5⟩
  have h7 : Sn (c.var e.A 1 a).V.length := by rw [(CS.Lk.var c e.A 1 a).V]; exact h4
  rw [e68]
  simp only [h1, h2, h3, h4, h6, h7, if_true, tv_cond]
  rfl
def dCL (objs : List (TO U)) (args : List (TV U)) : Option (CS × List R114) := match objs, args with
  | [], [a0, a1] =>
    match a0 with
    | .agg [q0, q1, q2, q3, q4, q5, q6] =>
      match q0 with
      | .lst .t82 c_G =>
        match q1 with
        | .lst .t82 c_F =>
          match q2 with
          | .lst .t90 c_N =>
            match q3 with
            | .lst .t82 c_V =>
              match q4 with
              | .v (.int .i64 c_Ret) =>
                match q5 with
                | .v (.int .i64 c_Code) =>
                  match q6 with
                  | .v (.int .i64 c_FAt) =>
                    match a1 with
                    | .lst .t114 l =>
                      some ((⟨c_G, c_F, c_N, c_V, c_Ret, c_Code, c_FAt⟩ : CS), l)
                    | _ => none
                  | _ => none
                | _ => none
              | _ => none
            | _ => none
          | _ => none
        | _ => none
      | _ => none
    | _ => none
  | _, _ => none
theorem dCL_ok {objs : List (TO U)} {args : List (TV U)} {c : CS} {l : List R114} (h : dCL objs args = some (c, l)) : objs = [] ∧ args = [c.tv, .lst .t114 l] := by
  unfold dCL at h
  repeat' split at h
  all_goals first | (cases h; done) | (cases h; exact ⟨rfl, rfl⟩)
mutual
def stC : R114 → CS → CS
  | .mk k a to fi fr e b l, c => cond (decide (k = 1)) ((c.typ c.V to a).1.expr e (c.typ c.V to a).2 a) (cond (decide (k = 2)) ((c.typ c.G to a).1.var fr (c.typ c.G to a).2 a)
    (cond (decide (k = 3)) (((c.var to 2 a).typ c.F fi a).1.var fr ((c.var to 2 a).typ c.F fi a).2 a) (cond (decide (k = 4)) (stCL l (stCL b (c.var fr 1 a))) (cond (decide (k = 5)) (stCL l (stCL b (c.var fr 1 a)))
      (cond (decide (k = 6)) (c.var fr 2 a) (cond (decide (k = 7)) (c.var fr 2 a) (cond (decide (k = 8)) (c.call e a).1 (cond (decide (k = 9)) (c.call e a).1
        (cond (decide (k = 10)) (cond (!(fr.toList == (⟨#[]⟩ : ByteArray).toList)) ((c.typ c.V fr a).1.want (c.typ c.V fr a).2 (c.typ c.V fr a).1.Ret a) (c.want 0 c.Ret a)) c)))))))))
def stCL : List R114 → CS → CS
  | [], c => c
  | x :: l, c => stCL l (stC x c)
end
noncomputable def sStmtsC (n : Nat) : Spc U := .of dCL (fun (c, l) => PreE c (cntL l) ∧ cntL l < n) (fun _ => []) fun (c, l) => (stCL l c).tv
noncomputable def Er (n : Nat) : FuncId → Option (Spc U)
  | 59 => some (sStmtsC n)
  | 109 => some sExprC
  | f => Eq_ f
def S59 (l : List R114) (c : CS) (v : Int) : TS U := mkS 147 [(1, .lst .t114 l), (2, .ref 0 0 0), (4, .ref 1 0 0), (5, .v (.int .i64 v))] [c.ob, zC] 0
def E59 (c : CS) : Exit × TS U := (.exit 0, mkS 147 [(2, .ref 0 0 0), (4, .ref 1 0 0)] [c.ob, zC] 0)
theorem r59 (n : Nat) (lp : Lp U) (N : Nat) (l : List R114) (c : CS) (v : Int) : (fnLoop X (Er n) an59 lp Try.f59 0 N.succ (S59 l c v)) = bif decide (v < (↑l.length : Int)) then (getI l v).bind fun (z : X.U.T C.t114) => bif decide (R114.Kind z = 1) then if Sn c.V.length then if PreE (c.typ c.V (R114.To z) (R114.At z)).fst (R114.Expr z).Args.length then fnLoop X (Er n) an59 lp Try.f59 0 N (S59 l ((c.typ c.V (R114.To z) (R114.At z)).fst.expr (R114.Expr z) (c.typ c.V (R114.To z) (R114.At z)).snd (R114.At z)) (IntKind.i64.wrap (v + 1))) else none else none else bif decide (R114.Kind z = 2) then if Sn c.G.length then if Sn (c.typ c.G (R114.To z) (R114.At z)).fst.V.length then fnLoop X (Er n) an59 lp Try.f59 0 N (S59 l ((c.typ c.G (R114.To z) (R114.At z)).fst.var (R114.From z) (c.typ c.G (R114.To z) (R114.At z)).snd (R114.At z)) (IntKind.i64.wrap (v + 1))) else none else none else bif decide (R114.Kind z = 3) then if Sn c.V.length then if Sn c.F.length then if Sn ((c.var (R114.To z) 2 (R114.At z)).typ c.F (R114.Field z) (R114.At z)).fst.V.length then fnLoop X (Er n) an59 lp Try.f59 0 N (S59 l (((c.var (R114.To z) 2 (R114.At z)).typ c.F (R114.Field z) (R114.At z)).fst.var (R114.From z) ((c.var (R114.To z) 2 (R114.At z)).typ c.F (R114.Field z) (R114.At z)).snd (R114.At z)) (IntKind.i64.wrap (v + 1))) else none else none else none else bif decide (R114.Kind z = 4) then if Sn c.V.length then if PreE (c.var (R114.From z) 1 (R114.At z)) (cntL (R114.Body z)) ∧ cntL (R114.Body z) < n then if PreE (stCL (R114.Body z) (c.var (R114.From z) 1 (R114.At z))) (cntL (R114.Else z)) ∧ cntL (R114.Else z) < n then fnLoop X (Er n) an59 lp Try.f59 0 N (S59 l (stCL (R114.Else z) (stCL (R114.Body z) (c.var (R114.From z) 1 (R114.At z)))) (IntKind.i64.wrap (v + 1))) else none else none else none else bif decide (R114.Kind z = 5) then if Sn c.V.length then if PreE (c.var (R114.From z) 1 (R114.At z)) (cntL (R114.Body z)) ∧ cntL (R114.Body z) < n then if PreE (stCL (R114.Body z) (c.var (R114.From z) 1 (R114.At z))) (cntL (R114.Else z)) ∧ cntL (R114.Else z) < n then fnLoop X (Er n) an59 lp Try.f59 0 N (S59 l (stCL (R114.Else z) (stCL (R114.Body z) (c.var (R114.From z) 1 (R114.At z)))) (IntKind.i64.wrap (v + 1))) else none else none else none else bif decide (R114.Kind z = 6) then if Sn c.V.length then fnLoop X (Er n) an59 lp Try.f59 0 N (S59 l (c.var (R114.From z) 2 (R114.At z)) (IntKind.i64.wrap (v + 1))) else none else bif decide (R114.Kind z = 7) then if Sn c.V.length then fnLoop X (Er n) an59 lp Try.f59 0 N (S59 l (c.var (R114.From z) 2 (R114.At z)) (IntKind.i64.wrap (v + 1))) else none else bif decide (R114.Kind z = 8) then if PreC c (R114.Expr z) then fnLoop X (Er n) an59 lp Try.f59 0 N (S59 l (c.call (R114.Expr z) (R114.At z)).fst (IntKind.i64.wrap (v + 1))) else none else bif decide (R114.Kind z = 9) then if PreC c (R114.Expr z) then fnLoop X (Er n) an59 lp Try.f59 0 N (S59 l (c.call (R114.Expr z) (R114.At z)).fst (IntKind.i64.wrap (v + 1))) else none else bif decide (R114.Kind z = 10) then bif !(R114.From z).toList == (⟨#[]⟩ : ByteArray).toList then if Sn c.V.length then if True then fnLoop X (Er n) an59 lp Try.f59 0 N (S59 l ((c.typ c.V (R114.From z) (R114.At z)).fst.want (c.typ c.V (R114.From z) (R114.At z)).snd (c.typ c.V (R114.From z) (R114.At z)).fst.Ret (R114.At z)) (IntKind.i64.wrap (v + 1))) else none else none else if True then fnLoop X (Er n) an59 lp Try.f59 0 N (S59 l (c.want 0 c.Ret (R114.At z)) (IntKind.i64.wrap (v + 1))) else none else fnLoop X (Er n) an59 lp Try.f59 0 N (S59 l c (IntKind.i64.wrap (v + 1))) else some (Exit.exit 0, mkS 147 [(2, TV.ref 0 0 0), (4, TV.ref 1 0 0)] [c.ob, TO.cells [TV.v (Value.slice none 0 0), TV.v (Value.slice none 0 0), TV.v (Value.slice none 0 0), TV.v (Value.slice none 0 0), TV.v (Value.int IntKind.i64 0), TV.v (Value.int IntKind.i64 0), TV.v (Value.int IntKind.i64 0)] false] 0) := by kernel_rfl
mutual
theorem stC_lk : ∀ (z : R114) (c : CS), c.Lk (stC z c)
  | .mk k a to fi fr e b l, c => by
    unfold stC
    exact .cond _ ((CS.Lk.typ _ _ _ _).trans (.expr _ _ _ _)) (.cond _ ((CS.Lk.typ _ _ _ _).trans (.var _ _ _ _)) (.cond _ (((CS.Lk.var _ _ _ _).trans (.typ _ _ _ _)).trans (.var _ _ _ _))
      (.cond _ (((CS.Lk.var _ _ _ _).trans (stCL_lk b _)).trans (stCL_lk l _)) (.cond _ (((CS.Lk.var _ _ _ _).trans (stCL_lk b _)).trans (stCL_lk l _)) (.cond _ (.var _ _ _ _) (.cond _ (.var _ _ _ _) (.cond _ (.call _ _ _) (.cond _ (.call _ _ _)
        (.cond _ (.cond _ ((CS.Lk.typ _ _ _ _).trans (.want _ _ _ _)) (.want _ _ _ _)) (.refl _))))))))))
theorem stCL_lk : ∀ (l : List R114) (c : CS), c.Lk (stCL l c)
  | [], c => .refl c
  | x :: l, c => by
    unfold stCL
    exact (stC_lk x c).trans (stCL_lk l _)
end
theorem stCL_fold : ∀ (l : List R114) (c : CS), stCL l c = l.foldl (fun c z => stC z c) c
  | [], c => rfl
  | x :: l, c => by rw [stCL, stCL_fold l, List.foldl_cons]
theorem cntL_at : ∀ (l : List R114) (i : Nat) (z : R114), l[i]? = some z → cntS z ≤ cntL l
  | [], i, z, h => by simp at h
  | x :: l, 0, z, h => by
    simp at h
    subst h
    rw [cntL]
    omega
  | x :: l, i + 1, z, h => by
    have := cntL_at l i z (by simpa using h)
    rw [cntL]
    omega
theorem cntS_eq (z : R114) : cntS z = 1 + (z.Expr.Args.length + (cntL z.Body + cntL z.Else)) := by cases z; rw [cntS]; rfl
theorem stC_eq (z : R114) (c : CS) : stC z c = cond (decide (z.Kind = 1)) ((c.typ c.V z.To z.At).1.expr z.Expr (c.typ c.V z.To z.At).2 z.At) (cond (decide (z.Kind = 2)) ((c.typ c.G z.To z.At).1.var z.From (c.typ c.G z.To z.At).2 z.At)
    (cond (decide (z.Kind = 3)) (((c.var z.To 2 z.At).typ c.F z.Field z.At).1.var z.From ((c.var z.To 2 z.At).typ c.F z.Field z.At).2 z.At) (cond (decide (z.Kind = 4)) (stCL z.Else (stCL z.Body (c.var z.From 1 z.At))) (cond (decide (z.Kind = 5)) (stCL z.Else (stCL z.Body (c.var z.From 1 z.At)))
      (cond (decide (z.Kind = 6)) (c.var z.From 2 z.At) (cond (decide (z.Kind = 7)) (c.var z.From 2 z.At) (cond (decide (z.Kind = 8)) (c.call z.Expr z.At).1 (cond (decide (z.Kind = 9)) (c.call z.Expr z.At).1
        (cond (decide (z.Kind = 10)) (cond (!(z.From.toList == (⟨#[]⟩ : ByteArray).toList)) ((c.typ c.V z.From z.At).1.want (c.typ c.V z.From z.At).2 (c.typ c.V z.From z.At).1.Ret z.At) (c.want 0 c.Ret z.At)) c))))))))) := by cases z; rw [stC]; rfl
theorem rounds59 {n : Nat} (lp : Lp U) (l : List R114) (c : CS) (hc : CSz c) (hl : cntL l ≤ 3000000) (hn : cntL l ≤ n) : fnLoop X (Er n) an59 lp Try.f59 0 (l.length + 1) (S59 l c 0) = some (E59 (stCL l c)) := by
  have hlen := cntL_len l
  rw [stCL_fold, ← ixL_all]
  refine ixL_rounds (S59 l) E59 (fun d _ => c.Lk d) (fun d v N hd h0 h1 => ?_) (fun d v N _ h0 h1 => by rw [r59, decide_eq_false h1]; rfl) l.length c 0 (Int.le_refl 0) (by omega) (.refl c)
  obtain ⟨z, hz, hz2⟩ := getI_lt h0 h1
  have hw : IntKind.i64.wrap (v + 1) = v + 1 := wrap_i64 (by omega) (by omega)
  have hcz := cntL_at l v.toNat z hz2
  have hst : stepI l (fun c z => stC z c) d v = stC z d := by unfold stepI; rw [hz]
  rw [hst]
  refine ⟨?_, hd.trans (stC_lk z d)⟩
  rw [r59, decide_eq_true h1, hz, hw, cond_true, Option.bind_some]
  rw [cntS_eq] at hcz
  have hs := hd.csz hc
  obtain ⟨s1, s2, s3, s4⟩ := hs
  have hs : CSz d := ⟨s1, s2, s3, s4⟩
  have g1 : PreE (d.typ d.V z.To z.At).1 z.Expr.Args.length := ⟨(CS.Lk.typ d d.V z.To z.At).csz hs, by show _ ≤ _; omega⟩
  have g2 : Sn (d.typ d.G z.To z.At).1.V.length := ((CS.Lk.typ d d.G z.To z.At).csz hs).2.2.2
  have g3 : Sn ((d.var z.To 2 z.At).typ d.F z.Field z.At).1.V.length := (((CS.Lk.var d z.To 2 z.At).trans (.typ _ d.F z.Field z.At)).csz hs).2.2.2
  have g4 : PreE (d.var z.From 1 z.At) (cntL z.Body) ∧ cntL z.Body < n := ⟨⟨(CS.Lk.var d z.From 1 z.At).csz hs, by show _ ≤ _; omega⟩, by omega⟩
  have g5 : PreE (stCL z.Body (d.var z.From 1 z.At)) (cntL z.Else) ∧ cntL z.Else < n := ⟨⟨((CS.Lk.var d z.From 1 z.At).trans (stCL_lk z.Body _)).csz hs, by show _ ≤ _; omega⟩, by omega⟩
  have g6 : PreC d z.Expr := ⟨s4, s3, by show _ ≤ _; omega⟩
  simp only [s1, s2, s4, g1, g2, g3, g4, g5, g6, and_self, if_true]
  rw [stC_eq]
  cases decide (z.Kind = 1) with
  | true => rfl
  | false =>
  cases decide (z.Kind = 2) with
  | true => rfl
  | false =>
  cases decide (z.Kind = 3) with
  | true => rfl
  | false =>
  cases decide (z.Kind = 4) with
  | true => rfl
  | false =>
  cases decide (z.Kind = 5) with
  | true => rfl
  | false =>
  cases decide (z.Kind = 6) with
  | true => rfl
  | false =>
  cases decide (z.Kind = 7) with
  | true => rfl
  | false =>
  cases decide (z.Kind = 8) with
  | true => rfl
  | false =>
  cases decide (z.Kind = 9) with
  | true => rfl
  | false =>
  cases decide (z.Kind = 10) with
  | false => rfl
  | true => cases z.From.toList == (⟨#[]⟩ : ByteArray).toList <;> rfl
theorem Er_ok {n : Nat} (h0 : SpecOk Try.prog 59 (sStmtsC n)) : ∀ f S, Er n f = some S → SpecOk Try.prog f S := fun f S h => by
  unfold Er at h
  split at h
  · cases h; exact h0
  · cases h; exact sExprC_ok
  · exact Eq_ok _ _ h
def dl59 (s : TS U) : Option (CS × Int × Int × Int × List R114 × Int) := match told s 147 [1, 2, 4, 5] 0, s.objs with
  | some [a0, a1, a2, a3], [o0, o1] =>
    match o0 with
    | .cells [q0, q1, q2, q3, q4, q5, q6] false =>
      match q0 with
      | .lst .t82 c_G =>
        match q1 with
        | .lst .t82 c_F =>
          match q2 with
          | .lst .t90 c_N =>
            match q3 with
            | .lst .t82 c_V =>
              match q4 with
              | .v (.int .i64 c_Ret) =>
                match q5 with
                | .v (.int .i64 c_Code) =>
                  match q6 with
                  | .v (.int .i64 c_FAt) =>
                    match o1 with
                    | .cells [q7, q8, q9, q10, q11, q12, q13] false =>
                      match q7 with
                      | .v (.slice none 0 0) =>
                        match q8 with
                        | .v (.slice none 0 0) =>
                          match q9 with
                          | .v (.slice none 0 0) =>
                            match q10 with
                            | .v (.slice none 0 0) =>
                              match q11 with
                              | .v (.int .i64 z1) =>
                                match q12 with
                                | .v (.int .i64 z2) =>
                                  match q13 with
                                  | .v (.int .i64 z3) =>
                                    match a0 with
                                    | .lst .t114 l =>
                                      match a1 with
                                      | .ref 0 0 0 =>
                                        match a2 with
                                        | .ref 1 0 0 =>
                                          match a3 with
                                          | .v (.int .i64 v) =>
                                            some ((⟨c_G, c_F, c_N, c_V, c_Ret, c_Code, c_FAt⟩ : CS), z1, z2, z3, l, v)
                                          | _ => none
                                        | _ => none
                                      | _ => none
                                    | _ => none
                                  | _ => none
                                | _ => none
                              | _ => none
                            | _ => none
                          | _ => none
                        | _ => none
                      | _ => none
                    | _ => none
                  | _ => none
                | _ => none
              | _ => none
            | _ => none
          | _ => none
        | _ => none
      | _ => none
    | _ => none
  | _, _ => none
theorem dl59_ok {s : TS U} {c : CS} {z1 : Int} {z2 : Int} {z3 : Int} {l : List R114} {v : Int} (h : dl59 s = some (c, z1, z2, z3, l, v)) : s = mkS (U := U) 147 ([1, 2, 4, 5].zip ([.lst .t114 l, .ref 0 0 0, .ref 1 0 0, .v (.int .i64 v)] : List (TV U))) ([c.ob, .cells [.v (.slice none 0 0), .v (.slice none 0 0), .v (.slice none 0 0), .v (.slice none 0 0), .v (.int .i64 z1), .v (.int .i64 z2), .v (.int .i64 z3)] false] : List (TO U)) 0 := by
  unfold dl59 at h
  split at h <;> try (cases h; done)
  rename_i ht ho
  have hs := told_ok ht
  rw [ho] at hs
  repeat' split at h
  all_goals first | (cases h; done) | (cases h; exact hs)
def Pre59 (n : Nat) (c : CS) (m : Nat) (v z1 z2 z3 : Int) : Prop := (CSz c ∧ m ≤ 3000000 ∧ m ≤ n) ∧ v = 0 ∧ z1 = 0 ∧ z2 = 0 ∧ z3 = 0
noncomputable instance (n : Nat) (c : CS) (m : Nat) (v z1 z2 z3 : Int) : Decidable (Pre59 n c m v z1 z2 z3) := Classical.propDecidable _
noncomputable def lc59 (n : Nat) : LC U := .of dl59 (fun (c, z1, z2, z3, l, v) => Pre59 n c (cntL l) v z1 z2 z3) (.exit 0) (fun (c, z1, z2, z3, l, v) => (E59 (stCL l c)).2)
noncomputable def lp59 (n : Nat) : Lp U := lpL [(0, lc59 n)]
theorem lp59_ok (n : Nat) : ∀ c, Try.f59.body = some c → LpOk X (Er n) an59 (lp59 n) (loops c 0) := lpL_ok (by kernel_rfl) fun b L hm st p hs => by
  cases hm with
  | tail _ h => cases h
  | head =>
    obtain ⟨⟨c, z1, z2, z3, l, v⟩, hx, ⟨⟨h1, h2, h3⟩, rfl, rfl, rfl, rfl⟩, rfl⟩ := LC.of_some hs
    obtain rfl := dl59_ok hx
    exact ⟨_, rounds59 _ l c h1 h2 h3⟩
theorem e59 (n : Nat) (c : CS) (l : List R114) : (evFn X (Er n) an59 (lp59 n) Try.f59 [] [c.tv, TV.lst C.t114 l] fun (o : List (TO X.U)) (v : TV X.U) => some (o, v)) = if Pre59 n c (cntL l) 0 0 0 0 then some ([], (stCL l c).tv) else none := by kernel_rfl
def lp0' : Lp U := lpL [(0, .of dl59 (fun _ => False) .ret (fun _ => mkS 0 [] [] 0))]
theorem lp0'_ok : ∀ c, Try.f59.body = some c → LpOk X (fun _ => none) an59 lp0' (loops c 0) := lpL_ok (by kernel_rfl) fun b L hm st p hs => by
  cases hm with
  | tail _ h => cases h
  | head =>
    obtain ⟨_, _, h, _⟩ := LC.of_some hs
    exact absurd h id
theorem stmtsC_lt : ∀ n : Nat, SpecOk Try.prog 59 (sStmtsC n)
  | 0 => by
    refine fn_ok X_ok mixed E0_ok an59 lp0' Try.func59 (by kernel_rfl) (by kernel_rfl) lp0'_ok fun objs args x hx h => ?_
    exact absurd h.2 (Nat.not_lt_zero _)
  | n + 1 => by
    refine fn_ok X_ok mixed (Er_ok (stmtsC_lt n)) an59 (lp59 n) Try.func59 (by kernel_rfl) (by kernel_rfl) (lp59_ok n) fun objs args x hx hp => ?_
    obtain ⟨c, l⟩ := x
    obtain ⟨rfl, rfl⟩ := dCL_ok hx
    obtain ⟨⟨h1, h2⟩, h3⟩ := hp
    dsimp only at h1 h2 h3 ⊢
    have h4 : Pre59 n c (cntL l) 0 0 0 0 := ⟨⟨h1, h2, by omega⟩, rfl, rfl, rfl, rfl⟩
    rw [e59, if_pos h4]
noncomputable def sStC : Spc U := .of dCL (fun (c, l) => PreE c (cntL l)) (fun _ => []) fun (c, l) => (stCL l c).tv
theorem sStC_ok : SpecOk Try.prog 59 sStC := SpecOk.lim (fun x => cntL x.2) fun n => by
  refine SpecOk.of (stmtsC_lt n) fun objs args x hp hx => ?_
  unfold sStmtsC Spc.of
  dsimp only
  rw [hp]
  dsimp only
  rw [if_pos hx]
end Go.Proofs.Ytpkgikchphgfaaa.Fl
/- The references' checks. -/
namespace Go.Proofs.Ytpkgikchphgfaaa.Fl
open Go Go.RowKit Go.Proofs.Ytpkgikchphgfaaa.Eng
set_option linter.unusedVariables false
set_option linter.unusedSimpArgs false
set_option maxRecDepth 20000
def wC : Lw U := .a [.no, .no, .no, .l .t82, .no, .no, .no]
noncomputable def Es : FuncId → Option (Spc U)
  | 56 => some (sTwice.wkA [wC])
  | 57 => some (sFnC.wkA [wC])
  | 58 => some (sFailC.wkA [wC])
  | 59 => some sStC
  | _ => none
theorem Es_ok : ∀ f S, Es f = some S → SpecOk Try.prog f S := fun f S h => by
  unfold Es at h
  split at h
  · cases h; exact sTwice_ok.wkA _
  · cases h; exact sFnC_ok.wkA _
  · cases h; exact sFailC_ok.wkA _
  · cases h; exact sStC_ok
  · cases h
def an35 : Ann := ⟨fun | 0 => 30 | 2 => 46 | _ => 0, fun | 0 => 14 | 2 => 14 | _ => 0, fun | 12 => [60] | _ => [], false⟩
def TR.ob (t : TR) : TO U := .cells [.lst .t82 t.G, .lst .t82 t.F, .lst .t90 t.N] false
def fz0 : TO U := .cells [.v (.int .i64 0), .v (.int .i64 0)] false
def S35a (t : TR) (c : CS) (v : Int) : TS U := mkS 99 [(1, .ref 0 0 0), (2, .ref 1 0 0), (3, .ref 2 0 0), (4, .v (.int .i64 v))] [t.ob, fz0, c.ob] 0
def E35 (t : TR) (b : Nat) (c : CS) : Exit × TS U := (.exit b, mkS 99 [(1, .ref 0 0 0), (2, .ref 1 0 0), (3, .ref 2 0 0)] [t.ob, fz0, c.ob] 0)
def S35b (t : TR) (c : CS) (v : Int) : TS U := mkS 99 [(1, .ref 0 0 0), (2, .ref 1 0 0), (3, .ref 2 0 0), (5, .v (.int .i64 v))] [t.ob, fz0, c.ob] 0
theorem r35a (lp : Lp U) (N : Nat) (t : TR) (c : CS) (v : Int) : fnLoop X Es an35 lp Try.f27 0 (N + 1) (S35a t c v) = cond (decide (v < (t.N.length : Int))) ((getI t.N v).bind fun z => if Sn c.N.length then cond (decide (fnI c.N z.Name < v)) ((getI t.N v).bind fun z => if True then fnLoop X Es an35 lp Try.f27 0 N (S35a t (c.fail 183 z.At) (IntKind.i64.wrap (v + 1))) else none) (fnLoop X Es an35 lp Try.f27 0 N (S35a t c (IntKind.i64.wrap (v + 1)))) else none) (some (E35 t 0 c)) := by kernel_rfl
def CS.set (c : CS) (z : R90) : CS := { c with V := [] ++ z.Params ++ z.Vars, Ret := z.Ret }
theorem r35b (lp : Lp U) (N : Nat) (t : TR) (c : CS) (v : Int) : fnLoop X Es an35 lp Try.f27 2 (N + 1) (S35b t c v) = cond (decide (v < (t.N.length : Int))) ((getI t.N v).bind fun z => if (0 + z.Params.length) * 32 ≤ 140737488355328 then (if (([] ++ z.Params).length + z.Vars.length) * 32 ≤ 140737488355328 then (if Sn ([] ++ z.Params ++ z.Vars).length then (if PreE ((c.set z).twice ([] ++ z.Params ++ z.Vars)) (cntL z.Body) then fnLoop X Es an35 lp Try.f27 2 N (S35b t (stCL z.Body ((c.set z).twice ([] ++ z.Params ++ z.Vars))) (IntKind.i64.wrap (v + 1))) else none) else none) else none) else none) (some (E35 t 2 c)) := by kernel_rfl
def chA (t : TR) (c : CS) (v : Int) : CS := match getI t.N v with
  | some z => cond (decide (fnI c.N z.Name < v)) (c.fail 183 z.At) c
  | none => c
def chB (t : TR) (c : CS) (v : Int) : CS := match getI t.N v with
  | some z => stCL z.Body ((c.set z).twice ([] ++ z.Params ++ z.Vars))
  | none => c
/-- Not too long. -/
def TrOk (t : TR) : Prop := t.G.length ≤ 1000000 ∧ t.F.length ≤ 1000000 ∧ fnsW t.N ≤ 1000000
noncomputable instance (t : TR) : Decidable (TrOk t) := Classical.propDecidable _
def IC (t : TR) (c : CS) : Prop := CSz c ∧ c.G = t.G ∧ c.F = t.F ∧ c.N = t.N
theorem IC.lk {t : TR} {c d : CS} (h : IC t c) (hl : c.Lk d) : IC t d := by obtain ⟨k, a, rfl⟩ := hl; exact h
theorem fnsW_at : ∀ (l : List R90) (i : Nat) (z : R90), l[i]? = some z → fnW z ≤ fnsW l
  | [], i, z, h => by simp at h
  | x :: l, 0, z, h => by
    simp at h
    subst h
    rw [fnsW]
    omega
  | x :: l, i + 1, z, h => by
    have := fnsW_at l i z (by simpa using h)
    rw [fnsW]
    omega
theorem rounds35a (lp : Lp U) {t : TR} (ht : TrOk t) (c : CS) (hc : IC t c) : fnLoop X Es an35 lp Try.f27 0 (t.N.length + 1) (S35a t c 0) = some (E35 t 0 (ixL t.N.length (chA t) (t.N.length + 1) c 0)) ∧ IC t (ixL t.N.length (chA t) (t.N.length + 1) c 0) := by
  have hn := fnsW_len t.N
  obtain ⟨t1, t2, t3⟩ := ht
  have step : ∀ d v, IC t d → IC t (chA t d v) := fun d v hd => by
    unfold chA
    split
    · rename_i z _
      cases decide (fnI d.N z.Name < v) with
      | true => exact hd.lk (.fail _ _ _)
      | false => exact hd
    · exact hd
  refine ⟨ixL_rounds (S35a t) (E35 t 0) (fun d _ => IC t d) (fun d v N hd h0 h1 => ?_) (fun d v N _ h0 h1 => by rw [r35a, decide_eq_false h1]; rfl) t.N.length c 0 (Int.le_refl 0) (by omega) hc, ixL_inv (fun d v hd _ _ => step d v hd) _ _ _ (Int.le_refl 0) hc⟩
  obtain ⟨z, hz, _⟩ := getI_lt h0 h1
  have hw : IntKind.i64.wrap (v + 1) = v + 1 := wrap_i64 (by omega) (by omega)
  refine ⟨?_, step d v hd⟩
  rw [r35a, decide_eq_true h1, hz, hw, cond_true, Option.bind_some, Option.bind_some, if_pos hd.1.2.2.1, if_pos trivial]
  unfold chA
  rw [hz]
  dsimp only
  cases decide (fnI d.N z.Name < v) <;> rfl
theorem chB_ok {t : TR} (ht : TrOk t) {d : CS} (hd : IC t d) {v : Int} {z : R90} (hz2 : t.N[v.toNat]? = some z) : Sn ([] ++ z.Params ++ z.Vars).length ∧ PreE ((d.set z).twice ([] ++ z.Params ++ z.Vars)) (cntL z.Body) ∧ IC t (stCL z.Body ((d.set z).twice ([] ++ z.Params ++ z.Vars))) ∧ z.Params.length + z.Vars.length ≤ 1000000 := by
  obtain ⟨t1, t2, t3⟩ := ht
  have hw := fnsW_at t.N v.toNat z hz2
  unfold fnW at hw
  have hl : ([] ++ z.Params ++ z.Vars).length = z.Params.length + z.Vars.length := by simp
  have h1 : Sn ([] ++ z.Params ++ z.Vars).length := by show _ ≤ _; omega
  have h2 : IC t (d.set z) := ⟨⟨hd.1.1, hd.1.2.1, hd.1.2.2.1, h1⟩, hd.2.1, hd.2.2.1, hd.2.2.2⟩
  have h3 := h2.lk (.twice _ ([] ++ z.Params ++ z.Vars))
  exact ⟨h1, ⟨h3.1, by show _ ≤ _; omega⟩, h3.lk (stCL_lk _ _), by omega⟩
theorem rounds35b (lp : Lp U) {t : TR} (ht : TrOk t) (c : CS) (hc : IC t c) : fnLoop X Es an35 lp Try.f27 2 (t.N.length + 1) (S35b t c 0) = some (E35 t 2 (ixL t.N.length (chB t) (t.N.length + 1) c 0)) ∧ IC t (ixL t.N.length (chB t) (t.N.length + 1) c 0) := by
  have hn := fnsW_len t.N
  have ht' := ht
  obtain ⟨t1, t2, t3⟩ := ht'
  have step : ∀ (d : CS) (v : Int), IC t d → 0 ≤ v → v < (t.N.length : Int) → IC t (chB t d v) := fun d v hd h0 h1 => by
    obtain ⟨z, hz, hz2⟩ := getI_lt h0 h1
    unfold chB
    rw [hz]
    exact (chB_ok ht hd hz2).2.2.1
  refine ⟨ixL_rounds (S35b t) (E35 t 2) (fun d _ => IC t d) (fun d v N hd h0 h1 => ?_) (fun d v N _ h0 h1 => by rw [r35b, decide_eq_false h1]; rfl) t.N.length c 0 (Int.le_refl 0) (by omega) hc, ixL_inv step _ _ _ (Int.le_refl 0) hc⟩
  obtain ⟨z, hz, hz2⟩ := getI_lt h0 h1
  have hw : IntKind.i64.wrap (v + 1) = v + 1 := wrap_i64 (by omega) (by omega)
  obtain ⟨g1, g2, g3, g4⟩ := chB_ok ht hd hz2
  have l1 : (0 + z.Params.length) * 32 ≤ 140737488355328 := by omega
  have l2 : (([] ++ z.Params).length + z.Vars.length) * 32 ≤ 140737488355328 := by rw [List.nil_append]; omega
  refine ⟨?_, step d v hd h0 h1⟩
  rw [r35b, decide_eq_true h1, hz, hw, cond_true, Option.bind_some, if_pos l1, if_pos l2, if_pos g1, if_pos g2]
  unfold chB
  rw [hz]
def TR.tv (t : TR) : TV U := treeV t
def d35a (s : TS U) : Option (TR × Int × Int × CS × Int) := match told s 99 [1, 2, 3, 4] 0, s.objs with
  | some [a0, a1, a2, a3], [o0, o1, o2] =>
    match o0 with
    | .cells [q0, q1, q2] false =>
      match q0 with
      | .lst .t82 t_G =>
        match q1 with
        | .lst .t82 t_F =>
          match q2 with
          | .lst .t90 t_N =>
            match o1 with
            | .cells [q3, q4] false =>
              match q3 with
              | .v (.int .i64 z1) =>
                match q4 with
                | .v (.int .i64 z2) =>
                  match o2 with
                  | .cells [q5, q6, q7, q8, q9, q10, q11] false =>
                    match q5 with
                    | .lst .t82 c_G =>
                      match q6 with
                      | .lst .t82 c_F =>
                        match q7 with
                        | .lst .t90 c_N =>
                          match q8 with
                          | .lst .t82 c_V =>
                            match q9 with
                            | .v (.int .i64 c_Ret) =>
                              match q10 with
                              | .v (.int .i64 c_Code) =>
                                match q11 with
                                | .v (.int .i64 c_FAt) =>
                                  match a0 with
                                  | .ref 0 0 0 =>
                                    match a1 with
                                    | .ref 1 0 0 =>
                                      match a2 with
                                      | .ref 2 0 0 =>
                                        match a3 with
                                        | .v (.int .i64 v) =>
                                          some ((⟨t_G, t_F, t_N⟩ : TR), z1, z2, (⟨c_G, c_F, c_N, c_V, c_Ret, c_Code, c_FAt⟩ : CS), v)
                                        | _ => none
                                      | _ => none
                                    | _ => none
                                  | _ => none
                                | _ => none
                              | _ => none
                            | _ => none
                          | _ => none
                        | _ => none
                      | _ => none
                    | _ => none
                  | _ => none
                | _ => none
              | _ => none
            | _ => none
          | _ => none
        | _ => none
      | _ => none
    | _ => none
  | _, _ => none
theorem d35a_ok {s : TS U} {t : TR} {z1 : Int} {z2 : Int} {c : CS} {v : Int} (h : d35a s = some (t, z1, z2, c, v)) : s = mkS (U := U) 99 ([1, 2, 3, 4].zip ([.ref 0 0 0, .ref 1 0 0, .ref 2 0 0, .v (.int .i64 v)] : List (TV U))) ([t.ob, .cells [.v (.int .i64 z1), .v (.int .i64 z2)] false, c.ob] : List (TO U)) 0 := by
  unfold d35a at h
  split at h <;> try (cases h; done)
  rename_i ht ho
  have hs := told_ok ht
  rw [ho] at hs
  repeat' split at h
  all_goals first | (cases h; done) | (cases h; exact hs)
def d35b (s : TS U) : Option (TR × Int × Int × CS × Int) := match told s 99 [1, 2, 3, 5] 0, s.objs with
  | some [a0, a1, a2, a3], [o0, o1, o2] =>
    match o0 with
    | .cells [q0, q1, q2] false =>
      match q0 with
      | .lst .t82 t_G =>
        match q1 with
        | .lst .t82 t_F =>
          match q2 with
          | .lst .t90 t_N =>
            match o1 with
            | .cells [q3, q4] false =>
              match q3 with
              | .v (.int .i64 z1) =>
                match q4 with
                | .v (.int .i64 z2) =>
                  match o2 with
                  | .cells [q5, q6, q7, q8, q9, q10, q11] false =>
                    match q5 with
                    | .lst .t82 c_G =>
                      match q6 with
                      | .lst .t82 c_F =>
                        match q7 with
                        | .lst .t90 c_N =>
                          match q8 with
                          | .lst .t82 c_V =>
                            match q9 with
                            | .v (.int .i64 c_Ret) =>
                              match q10 with
                              | .v (.int .i64 c_Code) =>
                                match q11 with
                                | .v (.int .i64 c_FAt) =>
                                  match a0 with
                                  | .ref 0 0 0 =>
                                    match a1 with
                                    | .ref 1 0 0 =>
                                      match a2 with
                                      | .ref 2 0 0 =>
                                        match a3 with
                                        | .v (.int .i64 v) =>
                                          some ((⟨t_G, t_F, t_N⟩ : TR), z1, z2, (⟨c_G, c_F, c_N, c_V, c_Ret, c_Code, c_FAt⟩ : CS), v)
                                        | _ => none
                                      | _ => none
                                    | _ => none
                                  | _ => none
                                | _ => none
                              | _ => none
                            | _ => none
                          | _ => none
                        | _ => none
                      | _ => none
                    | _ => none
                  | _ => none
                | _ => none
              | _ => none
            | _ => none
          | _ => none
        | _ => none
      | _ => none
    | _ => none
  | _, _ => none
theorem d35b_ok {s : TS U} {t : TR} {z1 : Int} {z2 : Int} {c : CS} {v : Int} (h : d35b s = some (t, z1, z2, c, v)) : s = mkS (U := U) 99 ([1, 2, 3, 5].zip ([.ref 0 0 0, .ref 1 0 0, .ref 2 0 0, .v (.int .i64 v)] : List (TV U))) ([t.ob, .cells [.v (.int .i64 z1), .v (.int .i64 z2)] false, c.ob] : List (TO U)) 0 := by
  unfold d35b at h
  split at h <;> try (cases h; done)
  rename_i ht ho
  have hs := told_ok ht
  rw [ho] at hs
  repeat' split at h
  all_goals first | (cases h; done) | (cases h; exact hs)
def Pre35 (t : TR) (c : CS) (v z1 z2 : Int) : Prop := (TrOk t ∧ IC t c) ∧ v = 0 ∧ z1 = 0 ∧ z2 = 0
noncomputable instance (t : TR) (c : CS) (v z1 z2 : Int) : Decidable (Pre35 t c v z1 z2) := Classical.propDecidable _
def allA (t : TR) (c : CS) : CS := ixL t.N.length (chA t) (t.N.length + 1) c 0
def allB (t : TR) (c : CS) : CS := ixL t.N.length (chB t) (t.N.length + 1) c 0
noncomputable def lc35a : LC U := .of d35a (fun (t, z1, z2, c, v) => Pre35 t c v z1 z2) (.exit 0) (fun (t, z1, z2, c, v) => (E35 t 0 (allA t c)).2)
noncomputable def lc35b : LC U := .of d35b (fun (t, z1, z2, c, v) => Pre35 t c v z1 z2) (.exit 2) (fun (t, z1, z2, c, v) => (E35 t 2 (allB t c)).2)
noncomputable def lp35 : Lp U := lpL [(0, lc35a), (2, lc35b)]
theorem lp35_ok : ∀ c, Try.f27.body = some c → LpOk X Es an35 lp35 (loops c 0) := lpL_ok (by kernel_rfl) fun b L hm st p hs => by
  cases hm with
  | head =>
    obtain ⟨⟨t, z1, z2, c, v⟩, hx, ⟨⟨h1, h2⟩, rfl, rfl, rfl⟩, rfl⟩ := LC.of_some hs
    obtain rfl := d35a_ok hx
    exact ⟨_, (rounds35a _ h1 c h2).1⟩
  | tail _ hm => cases hm with
    | head =>
      obtain ⟨⟨t, z1, z2, c, v⟩, hx, ⟨⟨h1, h2⟩, rfl, rfl, rfl⟩, rfl⟩ := LC.of_some hs
      obtain rfl := d35b_ok hx
      exact ⟨_, (rounds35b _ h1 c h2).1⟩
    | tail _ hm => cases hm
def ck0 (t : TR) : CS := (({ G := t.G, F := t.F, N := t.N, V := [], Ret := 0, Code := 0, FAt := 0 } : CS).twice t.G).twice t.F
def ckC (t : TR) : CS := allB t (allA t (ck0 t))
def flV (c : CS) : TV U := .agg [.v (.int .i64 c.Code), .v (.int .i64 c.FAt)]
def bMain : ByteArray := ⟨#[109, 97, 105, 110]⟩
theorem e35 (t : TR) : evFn X Es an35 lp35 Try.f27 [] [t.tv] (fun o v => some (o, v)) = if Sn t.G.length then (if Sn t.F.length then (if Pre35 t (ck0 t) 0 0 0 then (if Pre35 t (allA t (ck0 t)) 0 0 0 then (if Sn (ckC t).N.length then cond (decide (fnI (ckC t).N bMain < 0)) (if True then some ([], flV ((ckC t).fail 183 0)) else none) ((getI t.N (fnI (ckC t).N bMain)).bind fun z => cond (decide (0 < (z.Params.length : Int))) (if True then some ([], flV ((ckC t).fail 182 z.At)) else none) (cond (!decide (z.Ret = 0)) (if True then some ([], flV ((ckC t).fail 182 z.At)) else none) (some ([], flV (ckC t))))) else none) else none) else none) else none) else none := by kernel_rfl
/-- What is wrong of a program. -/
def chk (t : TR) : CS := cond (decide (fnI t.N bMain < 0)) ((ckC t).fail 183 0) (match getI t.N (fnI t.N bMain) with
  | some z => cond (decide (0 < (z.Params.length : Int)) || !decide (z.Ret = 0)) ((ckC t).fail 182 z.At) (ckC t)
  | none => ckC t)
def dT (objs : List (TO U)) (args : List (TV U)) : Option (TR) := match objs, args with
  | [], [a0] =>
    match a0 with
    | .agg [q0, q1, q2] =>
      match q0 with
      | .lst .t82 t_G =>
        match q1 with
        | .lst .t82 t_F =>
          match q2 with
          | .lst .t90 t_N =>
            some (⟨t_G, t_F, t_N⟩ : TR)
          | _ => none
        | _ => none
      | _ => none
    | _ => none
  | _, _ => none
theorem dT_ok {objs : List (TO U)} {args : List (TV U)} {t : TR} (h : dT objs args = some t) : objs = [] ∧ args = [t.tv] := by
  unfold dT at h
  repeat' split at h
  all_goals first | (cases h; done) | (cases h; exact ⟨rfl, rfl⟩)
noncomputable def sCheck : Spc U := .of dT (fun t => TrOk t) (fun _ => []) fun t => flV (chk t)
theorem sCheck_ok : SpecOk Try.prog 27 sCheck := by
  refine fn_ok X_ok mixed Es_ok an35 lp35 Try.func27 (by kernel_rfl) (by kernel_rfl) lp35_ok fun objs args t hx hp => ?_
  obtain ⟨rfl, rfl⟩ := dT_ok hx
  dsimp only at hp ⊢
  have hn := fnsW_len t.N
  have hp' := hp
  obtain ⟨t1, t2, t3⟩ := hp'
  have s1 : Sn t.G.length := by show _ ≤ _; omega
  have s2 : Sn t.F.length := by show _ ≤ _; omega
  have s3 : Sn t.N.length := by show _ ≤ _; omega
  have i0 : IC t ({ G := t.G, F := t.F, N := t.N, V := [], Ret := 0, Code := 0, FAt := 0 } : CS) := ⟨⟨s1, s2, s3, Nat.zero_le _⟩, rfl, rfl, rfl⟩
  have i1 : IC t (ck0 t) := (i0.lk (.twice _ t.G)).lk (.twice _ t.F)
  have i2 : IC t (allA t (ck0 t)) := (rounds35a lp35 hp (ck0 t) i1).2
  have i3 : IC t (ckC t) := (rounds35b lp35 hp _ i2).2
  rw [e35, if_pos s1, if_pos s2, if_pos ⟨⟨hp, i1⟩, rfl, rfl, rfl⟩, if_pos ⟨⟨hp, i2⟩, rfl, rfl, rfl⟩, i3.2.2.2, if_pos s3]
  unfold chk
  rcases fnI_in t.N bMain with h | h
  · rw [h]; rfl
  · obtain ⟨z, hz, _⟩ := getI_lt h.1 h.2
    rw [decide_eq_false (by omega), hz, cond_false, Option.bind_some]
    simp only [cond_false]
    cases decide (0 < (z.Params.length : Int)) <;> cases decide (z.Ret = 0) <;> rfl
end Go.Proofs.Ytpkgikchphgfaaa.Fl

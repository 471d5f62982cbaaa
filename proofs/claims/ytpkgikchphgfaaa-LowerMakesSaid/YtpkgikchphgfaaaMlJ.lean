/- Texts of this claim, put together: part 10. -/
import Derived.Test.YtpkgikchphgfaaaMlI
/- The references' instructions: names, calls. -/
namespace Go.Proofs.Ytpkgikchphgfaaa.Fl
open Go Go.RowKit Go.Proofs.Ytpkgikchphgfaaa.Eng
set_option linter.unusedVariables false
set_option linter.unusedSimpArgs false
set_option maxRecDepth 20000
structure BS where
  G : List R82
  F : List R82
  N : List R90
  Fn : Int
  V : List R82
  Base : Int
  First : Int
  C : List R65
def BS.tv (b : BS) : TV U := .agg [.lst .t82 b.G, .lst .t82 b.F, .lst .t90 b.N, .v (.int .i64 b.Fn), .lst .t82 b.V, .v (.int .i64 b.Base), .v (.int .i64 b.First), .lst .t65 b.C]
def BS.ob (b : BS) : TO U := .cells [.lst .t82 b.G, .lst .t82 b.F, .lst .t90 b.N, .v (.int .i64 b.Fn), .lst .t82 b.V, .v (.int .i64 b.Base), .v (.int .i64 b.First), .lst .t65 b.C] false
def insV (x : R65) : TV U := .agg [.v (.int .i64 x.Fn), .v (.int .i64 x.At), .v (.int .i64 x.Op), .v (.int .i64 x.A), .v (.int .i64 x.B), .v (.int .i64 x.C), .v (.int .i64 x.Do), .v (.int .i64 x.N), .lst .i64 x.Args]
def an77 : Ann := ⟨fun | 0 => 35 | _ => 0, fun | 0 => 16 | _ => 0, fun _ => [], false⟩
def an82 : Ann := ⟨fun | 0 => 38 | _ => 0, fun | 0 => 16 | _ => 0, fun _ => [], false⟩
def an79 : Ann := ⟨fun | 0 => 1936 | _ => 0, fun | 0 => 912 | _ => 0, fun _ => [], false⟩
theorem e72 (b : BS) : (evFn X (fun (x : FuncId) => none) an0 lp0 Try.f115 [] [b.tv] fun (o : List (TO X.U)) (v : TV X.U) => some (o, v)) = some ([], TV.v (Value.int IntKind.i64 (IntKind.i64.wrap (b.First + (↑b.C.length : Int))))) := by kernel_rfl
theorem e61 (b : BS) (a : Int) (x : R65) : (evFn X (fun (x : FuncId) => none) an0 lp0 Try.f66 [] [b.tv, TV.v (Value.int IntKind.i64 a), insV x] fun (o : List (TO X.U)) (v : TV X.U) => some (o, v)) = if (0 + b.C.length) * 88 ≤ 140737488355328 then if (([] ++ b.C).length + 1) * 88 ≤ 140737488355328 then some ([], TV.agg [TV.lst C.t82 b.G, TV.lst C.t82 b.F, TV.lst C.t90 b.N, TV.v (Value.int IntKind.i64 b.Fn), TV.lst C.t82 b.V, TV.v (Value.int IntKind.i64 b.Base), TV.v (Value.int IntKind.i64 b.First), TV.lst C.t65 ([] ++ b.C ++ [{ Fn := b.Fn, At := a, Op := x.Op, A := x.A, B := x.B, C := x.C, Do := x.Do, N := x.N, Args := x.Args }])]) else none else none := by kernel_rfl
theorem upx_rounds {α T B : Type} {nm : α → ByteArray} {l : List α} {s : ByteArray} {fnl : Nat → T → Option B} {S : Int → T} {rt : Int → B} {ex : B} (hl : l.length ≤ 3000000)
    (hr : ∀ (N : Nat) (v : Int), fnl (N + 1) (S v) = cond (decide (v < (l.length : Int))) ((getI l v).bind fun z => cond ((nm z).toList == s.toList) (some (rt v)) (fnl N (S (IntKind.i64.wrap (v + 1))))) (some ex)) :
    ∀ (N : Nat) (v : Int), 0 ≤ v → (l.length : Int) ≤ v + N → fnl (N + 1) (S v) = some (cond (decide (0 ≤ upx nm l s (-1) (N + 1) v)) (rt (upx nm l s (-1) (N + 1) v)) ex) := by
  intro N
  induction N with
  | zero =>
    intro v h0 h1
    have hv : ¬ v < (l.length : Int) := by omega
    rw [hr, upx, if_neg hv, decide_eq_false hv]
    rfl
  | succ N ih =>
    intro v h0 h1
    rw [hr, upx]
    by_cases hv : v < (l.length : Int)
    · obtain ⟨z, hz, _⟩ := getI_lt h0 hv
      have hw : IntKind.i64.wrap (v + 1) = v + 1 := wrap_i64 (by omega) (by omega)
      rw [if_pos hv, decide_eq_true hv, hw, ih (v + 1) (by omega) (by omega), hz, cond_true, Option.bind_some]
      dsimp only
      rcases Bool.eq_false_or_eq_true ((nm z).toList == s.toList) with hb | hb
      · simp only [hb, cond_true, decide_eq_true h0]
      · simp only [hb, cond_false]
    · rw [if_neg hv, decide_eq_false hv]
      rfl
def S77 (l : List R82) (s : ByteArray) (v : Int) : TS U := mkS 20 [(0, .lst .t82 l), (1, .v (.string s)), (5, .v (.int .i64 v))] [] 0
theorem r77 (lp : Lp U) (l : List R82) (s : ByteArray) (N : Nat) (v : Int) : fnLoop X (fun _ => none) an77 lp Try.f150 0 (N + 1) (S77 l s v) = cond (decide (v < (l.length : Int))) ((getI l v).bind fun z => cond (z.Name.toList == s.toList) (some (.ret, mkS 20 [(4, .v (.int .i64 v))] [] 0)) (fnLoop X (fun _ => none) an77 lp Try.f150 0 N (S77 l s (IntKind.i64.wrap (v + 1))))) (some (.exit 0, mkS 20 [] [] 0)) := by kernel_rfl
def S82 (b : BS) (s : ByteArray) (v : Int) : TS U := mkS 24 [(1, .v (.string s)), (2, .ref 0 0 0), (5, .v (.int .i64 v))] [b.ob] 0
theorem r82 (lp : Lp U) (b : BS) (s : ByteArray) (N : Nat) (v : Int) : fnLoop X (fun _ => none) an82 lp Try.f163 0 (N + 1) (S82 b s v) = cond (decide (v < (b.N.length : Int))) ((getI b.N v).bind fun z => cond (z.Name.toList == s.toList) (some (.ret, mkS 24 [(4, .v (.int .i64 v))] [] 0)) (fnLoop X (fun _ => none) an82 lp Try.f163 0 N (S82 b s (IntKind.i64.wrap (v + 1))))) (some (.exit 0, mkS 24 [] [] 0)) := by kernel_rfl
def atI (l : List R82) (s : ByteArray) : Int := upx R82.Name l s (-1) (l.length + 1) 0
theorem atI_in (l : List R82) (s : ByteArray) : atI l s = -1 ∨ 0 ≤ atI l s ∧ atI l s < l.length := upx_in _ _ _ _ _ _ (Int.le_refl 0)
def dl77 (s : TS U) : Option (List R82 × ByteArray × Int) := match told s 20 [0, 1, 5] 0, s.objs with
  | some [a0, a1, a2], [] =>
    match a0 with
    | .lst .t82 l =>
      match a1 with
      | .v (.string t) =>
        match a2 with
        | .v (.int .i64 v) =>
          some (l, t, v)
        | _ => none
      | _ => none
    | _ => none
  | _, _ => none
theorem dl77_ok {s : TS U} {l : List R82} {t : ByteArray} {v : Int} (h : dl77 s = some (l, t, v)) : s = mkS (U := U) 20 ([0, 1, 5].zip ([.lst .t82 l, .v (.string t), .v (.int .i64 v)] : List (TV U))) ([] : List (TO U)) 0 := by
  unfold dl77 at h
  split at h <;> try (cases h; done)
  rename_i ht ho
  have hs := told_ok ht
  rw [ho] at hs
  repeat' split at h
  all_goals first | (cases h; done) | (cases h; exact hs)
def dl82 (s : TS U) : Option (BS × ByteArray × Int) := match told s 24 [1, 2, 5] 0, s.objs with
  | some [a0, a1, a2], [o0] =>
    match o0 with
    | .cells [q0, q1, q2, q3, q4, q5, q6, q7] false =>
      match q0 with
      | .lst .t82 b_G =>
        match q1 with
        | .lst .t82 b_F =>
          match q2 with
          | .lst .t90 b_N =>
            match q3 with
            | .v (.int .i64 b_Fn) =>
              match q4 with
              | .lst .t82 b_V =>
                match q5 with
                | .v (.int .i64 b_Base) =>
                  match q6 with
                  | .v (.int .i64 b_First) =>
                    match q7 with
                    | .lst .t65 b_C =>
                      match a0 with
                      | .v (.string t) =>
                        match a1 with
                        | .ref 0 0 0 =>
                          match a2 with
                          | .v (.int .i64 v) =>
                            some ((⟨b_G, b_F, b_N, b_Fn, b_V, b_Base, b_First, b_C⟩ : BS), t, v)
                          | _ => none
                        | _ => none
                      | _ => none
                    | _ => none
                  | _ => none
                | _ => none
              | _ => none
            | _ => none
          | _ => none
        | _ => none
      | _ => none
    | _ => none
  | _, _ => none
theorem dl82_ok {s : TS U} {b : BS} {t : ByteArray} {v : Int} (h : dl82 s = some (b, t, v)) : s = mkS (U := U) 24 ([1, 2, 5].zip ([.v (.string t), .ref 0 0 0, .v (.int .i64 v)] : List (TV U))) ([b.ob] : List (TO U)) 0 := by
  unfold dl82 at h
  split at h <;> try (cases h; done)
  rename_i ht ho
  have hs := told_ok ht
  rw [ho] at hs
  repeat' split at h
  all_goals first | (cases h; done) | (cases h; exact hs)
def lc77 : LC U := .of2 dl77 (fun (l, t, v) => Pre57 l.length v) (fun (l, t, v) => decide (0 ≤ atI l t)) .ret (fun (l, t, v) => mkS 20 [(4, .v (.int .i64 (atI l t)))] [] 0) (.exit 0) (fun x => mkS 20 [] [] 0)
def lc82 : LC U := .of2 dl82 (fun (b, t, v) => Pre57 b.N.length v) (fun (b, t, v) => decide (0 ≤ fnI b.N t)) .ret (fun (b, t, v) => mkS 24 [(4, .v (.int .i64 (fnI b.N t)))] [] 0) (.exit 0) (fun x => mkS 24 [] [] 0)
def lp77 : Lp U := lpL [(0, lc77)]
def lp82 : Lp U := lpL [(0, lc82)]
theorem lp77_ok : ∀ c, Try.f150.body = some c → LpOk X (fun _ => none) an77 lp77 (loops c 0) := lpL_ok (by kernel_rfl) fun b L hm st p hs => by
  cases hm with
  | tail _ h => cases h
  | head =>
    obtain ⟨⟨l, t, v⟩, hx, ⟨h1, rfl⟩, rfl⟩ := LC.of2_some hs
    obtain rfl := dl77_ok hx
    exact ⟨_, upx_rounds (nm := R82.Name) (S := S77 l t) h1 (fun N v => r77 _ l t N v) l.length 0 (Int.le_refl 0) (by omega)⟩
theorem lp82_ok : ∀ c, Try.f163.body = some c → LpOk X (fun _ => none) an82 lp82 (loops c 0) := lpL_ok (by kernel_rfl) fun b L hm st p hs => by
  cases hm with
  | tail _ h => cases h
  | head =>
    obtain ⟨⟨b, t, v⟩, hx, ⟨h1, rfl⟩, rfl⟩ := LC.of2_some hs
    obtain rfl := dl82_ok hx
    exact ⟨_, upx_rounds (nm := R90.Name) (S := S82 b t) h1 (fun N v => r82 _ b t N v) b.N.length 0 (Int.le_refl 0) (by omega)⟩
theorem e77 (l : List R82) (s : ByteArray) : (evFn X (fun (x : FuncId) => none) an77 lp77 Try.f150 [] [TV.lst C.t82 l, TV.v (Value.string s)] fun (o : List (TO X.U)) (v : TV X.U) => some (o, v)) = if Pre57 l.length 0 then bif decide (0 ≤ atI l s) then some ([], TV.v (Value.int IntKind.i64 (atI l s))) else some ([], TV.v (Value.int IntKind.i64 0)) else none := by kernel_rfl
theorem e82 (b : BS) (s : ByteArray) : (evFn X (fun (x : FuncId) => none) an82 lp82 Try.f163 [] [b.tv, TV.v (Value.string s)] fun (o : List (TO X.U)) (v : TV X.U) => some (o, v)) = if Pre57 b.N.length 0 then bif decide (0 ≤ fnI b.N s) then some ([], TV.v (Value.int IntKind.i64 (fnI b.N s))) else some ([], TV.v (Value.int IntKind.i64 0)) else none := by kernel_rfl
def dBs (objs : List (TO U)) (args : List (TV U)) : Option (BS × ByteArray) := match objs, args with
  | [], [a0, a1] =>
    match a0 with
    | .agg [q0, q1, q2, q3, q4, q5, q6, q7] =>
      match q0 with
      | .lst .t82 b_G =>
        match q1 with
        | .lst .t82 b_F =>
          match q2 with
          | .lst .t90 b_N =>
            match q3 with
            | .v (.int .i64 b_Fn) =>
              match q4 with
              | .lst .t82 b_V =>
                match q5 with
                | .v (.int .i64 b_Base) =>
                  match q6 with
                  | .v (.int .i64 b_First) =>
                    match q7 with
                    | .lst .t65 b_C =>
                      match a1 with
                      | .v (.string s) =>
                        some ((⟨b_G, b_F, b_N, b_Fn, b_V, b_Base, b_First, b_C⟩ : BS), s)
                      | _ => none
                    | _ => none
                  | _ => none
                | _ => none
              | _ => none
            | _ => none
          | _ => none
        | _ => none
      | _ => none
    | _ => none
  | _, _ => none
theorem dBs_ok {objs : List (TO U)} {args : List (TV U)} {b : BS} {s : ByteArray} (h : dBs objs args = some (b, s)) : objs = [] ∧ args = [b.tv, .v (.string s)] := by
  unfold dBs at h
  repeat' split at h
  all_goals first | (cases h; done) | (cases h; exact ⟨rfl, rfl⟩)
/-- The place of a name; the first one, if it has none. -/
def atP (l : List R82) (s : ByteArray) : Int := cond (decide (0 ≤ atI l s)) (atI l s) 0
theorem atP_in (l : List R82) (s : ByteArray) : 0 ≤ atP l s ∧ (atP l s < l.length ∨ atP l s = 0) := by
  unfold atP
  rcases atI_in l s with h | h
  · rw [h]; exact ⟨Int.le_refl 0, .inr rfl⟩
  · rw [decide_eq_true h.1]; exact ⟨h.1, .inl h.2⟩
def sAt : Spc U := .of dls (fun x => Sn x.1.length) (fun _ => []) fun x => .v (.int .i64 (atP x.1 x.2))
theorem sAt_ok : SpecOk Try.prog 150 sAt := by
  refine fn_ok X_ok mixed E0_ok an77 lp77 Try.func150 (by kernel_rfl) (by kernel_rfl) lp77_ok fun objs args x hx hp => ?_
  obtain ⟨l, s⟩ := x
  obtain ⟨rfl, rfl⟩ := dls_ok hx
  dsimp only at hp ⊢
  have hpre : Pre57 l.length 0 := ⟨hp, rfl⟩
  rw [e77, if_pos hpre]
  unfold atP
  cases decide (0 ≤ atI l s) <;> rfl
def BS.fnP (b : BS) (s : ByteArray) : Int := cond (decide (0 ≤ fnI b.N s)) (fnI b.N s) 0
def sFnB : Spc U := .of dBs (fun (b, s) => Sn b.N.length) (fun _ => []) fun (b, s) => .v (.int .i64 (b.fnP s))
theorem sFnB_ok : SpecOk Try.prog 163 sFnB := by
  refine fn_ok X_ok mixed E0_ok an82 lp82 Try.func163 (by kernel_rfl) (by kernel_rfl) lp82_ok fun objs args x hx hp => ?_
  obtain ⟨b, s⟩ := x
  obtain ⟨rfl, rfl⟩ := dBs_ok hx
  dsimp only at hp ⊢
  have hpre : Pre57 b.N.length 0 := ⟨hp, rfl⟩
  rw [e82, if_pos hpre]
  unfold BS.fnP
  cases decide (0 ≤ fnI b.N s) <;> rfl
noncomputable def Et : FuncId → Option (Spc U)
  | 150 => some sAt
  | 163 => some sFnB
  | _ => none
theorem Et_ok : ∀ f S, Et f = some S → SpecOk Try.prog f S := fun f S h => by
  unfold Et at h
  split at h
  · cases h; exact sAt_ok
  · cases h; exact sFnB_ok
  · cases h
theorem e74 (b : BS) (s : ByteArray) : (evFn X Et an0 lp0 Try.f117 [] [b.tv, TV.v (Value.string s)] fun (o : List (TO X.U)) (v : TV X.U) => some (o, v)) = if Sn b.V.length then some ([], TV.v (Value.int IntKind.i64 (IntKind.i64.wrap (b.Base + atP b.V s)))) else none := by kernel_rfl
def BS.v (b : BS) (s : ByteArray) : Int := IntKind.i64.wrap (b.Base + atP b.V s)
def sV : Spc U := .of dBs (fun (b, s) => Sn b.V.length) (fun _ => []) fun (b, s) => .v (.int .i64 (b.v s))
theorem sV_ok : SpecOk Try.prog 117 sV := by
  refine fn_ok X_ok mixed Et_ok an0 lp0 Try.func117 (by kernel_rfl) (by kernel_rfl) (lp0_ok (by kernel_rfl)) fun objs args x hx hp => ?_
  obtain ⟨b, s⟩ := x
  obtain ⟨rfl, rfl⟩ := dBs_ok hx
  dsimp only at hp ⊢
  rw [e74, if_pos hp]
  rfl
end Go.Proofs.Ytpkgikchphgfaaa.Fl
/- The references' instructions: one. -/
namespace Go.Proofs.Ytpkgikchphgfaaa.Fl
open Go Go.RowKit Go.Proofs.Ytpkgikchphgfaaa.Eng
set_option linter.unusedVariables false
set_option linter.unusedSimpArgs false
set_option maxRecDepth 20000
def R65.tv (x : R65) : TV U := insV x
def BS.put (b : BS) (a : Int) (x : R65) : BS := { b with C := [] ++ b.C ++ [⟨b.Fn, a, x.Op, x.A, x.B, x.C, x.Do, x.N, x.Args⟩] }
def dBix (objs : List (TO U)) (args : List (TV U)) : Option (BS × Int × R65) := match objs, args with
  | [], [a0, a1, a2] =>
    match a0 with
    | .agg [q0, q1, q2, q3, q4, q5, q6, q7] =>
      match q0 with
      | .lst .t82 b_G =>
        match q1 with
        | .lst .t82 b_F =>
          match q2 with
          | .lst .t90 b_N =>
            match q3 with
            | .v (.int .i64 b_Fn) =>
              match q4 with
              | .lst .t82 b_V =>
                match q5 with
                | .v (.int .i64 b_Base) =>
                  match q6 with
                  | .v (.int .i64 b_First) =>
                    match q7 with
                    | .lst .t65 b_C =>
                      match a1 with
                      | .v (.int .i64 a) =>
                        match a2 with
                        | .agg [q8, q9, q10, q11, q12, q13, q14, q15, q16] =>
                          match q8 with
                          | .v (.int .i64 x_Fn) =>
                            match q9 with
                            | .v (.int .i64 x_At) =>
                              match q10 with
                              | .v (.int .i64 x_Op) =>
                                match q11 with
                                | .v (.int .i64 x_A) =>
                                  match q12 with
                                  | .v (.int .i64 x_B) =>
                                    match q13 with
                                    | .v (.int .i64 x_C) =>
                                      match q14 with
                                      | .v (.int .i64 x_Do) =>
                                        match q15 with
                                        | .v (.int .i64 x_N) =>
                                          match q16 with
                                          | .lst .i64 x_Args =>
                                            some ((⟨b_G, b_F, b_N, b_Fn, b_V, b_Base, b_First, b_C⟩ : BS), a, (⟨x_Fn, x_At, x_Op, x_A, x_B, x_C, x_Do, x_N, x_Args⟩ : R65))
                                          | _ => none
                                        | _ => none
                                      | _ => none
                                    | _ => none
                                  | _ => none
                                | _ => none
                              | _ => none
                            | _ => none
                          | _ => none
                        | _ => none
                      | _ => none
                    | _ => none
                  | _ => none
                | _ => none
              | _ => none
            | _ => none
          | _ => none
        | _ => none
      | _ => none
    | _ => none
  | _, _ => none
theorem dBix_ok {objs : List (TO U)} {args : List (TV U)} {b : BS} {a : Int} {x : R65} (h : dBix objs args = some (b, a, x)) : objs = [] ∧ args = [b.tv, .v (.int .i64 a), x.tv] := by
  unfold dBix at h
  repeat' split at h
  all_goals first | (cases h; done) | (cases h; exact ⟨rfl, rfl⟩)
def sPut : Spc U := .of dBix (fun (b, a, x) => Sn b.C.length) (fun _ => []) fun (b, a, x) => (b.put a x).tv
theorem sPut_ok : SpecOk Try.prog 66 sPut := by
  refine fn_ok X_ok mixed E0_ok an0 lp0 Try.func66 (by kernel_rfl) (by kernel_rfl) (lp0_ok (by kernel_rfl)) fun objs args x hx hp => ?_
  obtain ⟨b, a, x⟩ := x
  obtain ⟨rfl, rfl⟩ := dBix_ok hx
  dsimp only at hp ⊢
  have hp : b.C.length ≤ 3000000 := hp
  refine (e61 b a x).trans ?_
  rw [if_pos (by omega), if_pos (by rw [List.nil_append]; omega)]
  rfl
noncomputable def Eu : FuncId → Option (Spc U)
  | 117 => some sV
  | f => Et f
theorem Eu_ok : ∀ f S, Eu f = some S → SpecOk Try.prog f S := fun f S h => by
  unfold Eu at h
  split at h
  · cases h; exact sV_ok
  · exact Et_ok _ _ h
def rwI : List Int → List (TO U)
  | [] => []
  | x :: l => [.row .i64 (x :: l) false]
def zIns : TO U := .cells [.v (.int .i64 0), .v (.int .i64 0), .v (.int .i64 0), .v (.int .i64 0), .v (.int .i64 0), .v (.int .i64 0), .v (.int .i64 0), .v (.int .i64 0), nl] false
def cIns (op a : Int) (xs : List Int) (k : Nat) : TO U := .cells [.v (.int .i64 0), .v (.int .i64 0), .v (.int .i64 op), .v (.int .i64 a), .v (.int .i64 (-1)), .v (.int .i64 (-1)), .v (.int .i64 0), .v (.int .i64 0), nvl xs k] false
def S79 (b : BS) (op a : Int) (e : R112) (xs : List Int) (v : Int) : TS U := mkS 47 [(4, .ref 0 0 0), (7, .ref 1 0 0), (8, .ref 2 0 0), (9, .ref 3 0 0), (10, .v (.int .i64 v))] ([b.ob, e.ob, zIns, cIns op a xs 4] ++ rwI xs) 0
def E79 (b : BS) (op a : Int) (e : R112) (xs : List Int) : Exit × TS U := (.exit 0, mkS 47 [(4, .ref 0 0 0), (7, .ref 1 0 0), (8, .ref 2 0 0), (9, .ref 3 0 0)] ([b.ob, e.ob, zIns, cIns op a xs 4] ++ rwI xs) 0)
theorem r79 (lp : Lp U) (N : Nat) (b : BS) (op a : Int) (e : R112) (xs : List Int) (v : Int) : fnLoop X Eu an79 lp Try.f152 0 (N + 1) (S79 b op a e xs v) = cond (decide (v < (e.Args.length : Int))) ((getI e.Args v).bind fun z => if Sn b.V.length then (if (xs.length + 1) * 8 ≤ 140737488355328 then fnLoop X Eu an79 lp Try.f152 0 N (S79 b op a e (xs ++ [b.v z]) (IntKind.i64.wrap (v + 1))) else none) else none) (some (E79 b op a e xs)) := by cases xs <;> kernel_rfl
def ag79 (b : BS) (l : List ByteArray) : List Int := l.map b.v
def st79 (b : BS) (xs : List Int) (z : ByteArray) : List Int := xs ++ [b.v z]
theorem fold79 (b : BS) : ∀ (l : List ByteArray) (xs : List Int), l.foldl (st79 b) xs = xs ++ ag79 b l
  | [], xs => by simp [ag79]
  | z :: l, xs => by rw [List.foldl_cons, fold79 b l]; simp [ag79, st79]
theorem rounds79 (lp : Lp U) (b : BS) (op a : Int) (e : R112) (hb : Sn b.V.length) (he : e.Args.length ≤ 3000000) : fnLoop X Eu an79 lp Try.f152 0 (e.Args.length + 1) (S79 b op a e [] 0) = some (E79 b op a e (ag79 b e.Args)) := by
  have h := ixL_rounds (fnl := fun n st => fnLoop X Eu an79 lp Try.f152 0 n st) (S79 b op a e) (E79 b op a e) (len := e.Args.length) (step := stepI e.Args (st79 b)) (fun xs v => (xs.length : Int) = v) (fun xs v N hx h0 h1 => by
    obtain ⟨z, hz, _⟩ := getI_lt h0 h1
    have hw : IntKind.i64.wrap (v + 1) = v + 1 := wrap_i64 (by omega) (by omega)
    have hl : (xs.length + 1) * 8 ≤ 140737488355328 := by omega
    have hst : stepI e.Args (st79 b) xs v = xs ++ [b.v z] := by unfold stepI; rw [hz]; rfl
    rw [hst]
    refine ⟨?_, by rw [List.length_append]; simp only [List.length_singleton]; omega⟩
    dsimp only
    rw [r79, decide_eq_true h1, hz, hw, cond_true, Option.bind_some, if_pos hb, if_pos hl]) (fun xs v N _ h0 h1 => by dsimp only; rw [r79, decide_eq_false h1]; rfl) e.Args.length [] 0 (Int.le_refl 0) (by omega) rfl
  rw [ixL_all, fold79, List.nil_append] at h
  exact h
def d79 (s : TS U) : Option (BS × R112 × Int × Int × Int × Int × Int × Int × Int × Int × Int × Int × Int × Int × Int × Int × Int × Int × Int) := match told s 47 [4, 7, 8, 9, 10] 0, s.objs with
  | some [a0, a1, a2, a3, a4], [o0, o1, o2, o3] =>
    match o0 with
    | .cells [q0, q1, q2, q3, q4, q5, q6, q7] false =>
      match q0 with
      | .lst .t82 b_G =>
        match q1 with
        | .lst .t82 b_F =>
          match q2 with
          | .lst .t90 b_N =>
            match q3 with
            | .v (.int .i64 b_Fn) =>
              match q4 with
              | .lst .t82 b_V =>
                match q5 with
                | .v (.int .i64 b_Base) =>
                  match q6 with
                  | .v (.int .i64 b_First) =>
                    match q7 with
                    | .lst .t65 b_C =>
                      match o1 with
                      | .cells [q8, q9, q10, q11, q12, q13] false =>
                        match q8 with
                        | .v (.int .i64 e_Kind) =>
                          match q9 with
                          | .v (.string e_A) =>
                            match q10 with
                            | .v (.string e_B) =>
                              match q11 with
                              | .v (.int .i64 e_Op) =>
                                match q12 with
                                | .v (.int .i64 e_N) =>
                                  match q13 with
                                  | .lst .str e_Args =>
                                    match o2 with
                                    | .cells [q14, q15, q16, q17, q18, q19, q20, q21, q22] false =>
                                      match q14 with
                                      | .v (.int .i64 y0) =>
                                        match q15 with
                                        | .v (.int .i64 y1) =>
                                          match q16 with
                                          | .v (.int .i64 y2) =>
                                            match q17 with
                                            | .v (.int .i64 y3) =>
                                              match q18 with
                                              | .v (.int .i64 y4) =>
                                                match q19 with
                                                | .v (.int .i64 y5) =>
                                                  match q20 with
                                                  | .v (.int .i64 y6) =>
                                                    match q21 with
                                                    | .v (.int .i64 y7) =>
                                                      match q22 with
                                                      | .v (.slice none 0 0) =>
                                                        match o3 with
                                                        | .cells [q23, q24, q25, q26, q27, q28, q29, q30, q31] false =>
                                                          match q23 with
                                                          | .v (.int .i64 z0) =>
                                                            match q24 with
                                                            | .v (.int .i64 z1) =>
                                                              match q25 with
                                                              | .v (.int .i64 z2) =>
                                                                match q26 with
                                                                | .v (.int .i64 z3) =>
                                                                  match q27 with
                                                                  | .v (.int .i64 z4) =>
                                                                    match q28 with
                                                                    | .v (.int .i64 z5) =>
                                                                      match q29 with
                                                                      | .v (.int .i64 z6) =>
                                                                        match q30 with
                                                                        | .v (.int .i64 z7) =>
                                                                          match q31 with
                                                                          | .v (.slice none 0 0) =>
                                                                            match a0 with
                                                                            | .ref 0 0 0 =>
                                                                              match a1 with
                                                                              | .ref 1 0 0 =>
                                                                                match a2 with
                                                                                | .ref 2 0 0 =>
                                                                                  match a3 with
                                                                                  | .ref 3 0 0 =>
                                                                                    match a4 with
                                                                                    | .v (.int .i64 v) =>
                                                                                      some ((⟨b_G, b_F, b_N, b_Fn, b_V, b_Base, b_First, b_C⟩ : BS), (⟨e_Kind, e_A, e_B, e_Op, e_N, e_Args⟩ : R112), y0, y1, y2, y3, y4, y5, y6, y7, z0, z1, z2, z3, z4, z5, z6, z7, v)
                                                                                    | _ => none
                                                                                  | _ => none
                                                                                | _ => none
                                                                              | _ => none
                                                                            | _ => none
                                                                          | _ => none
                                                                        | _ => none
                                                                      | _ => none
                                                                    | _ => none
                                                                  | _ => none
                                                                | _ => none
                                                              | _ => none
                                                            | _ => none
                                                          | _ => none
                                                        | _ => none
                                                      | _ => none
                                                    | _ => none
                                                  | _ => none
                                                | _ => none
                                              | _ => none
                                            | _ => none
                                          | _ => none
                                        | _ => none
                                      | _ => none
                                    | _ => none
                                  | _ => none
                                | _ => none
                              | _ => none
                            | _ => none
                          | _ => none
                        | _ => none
                      | _ => none
                    | _ => none
                  | _ => none
                | _ => none
              | _ => none
            | _ => none
          | _ => none
        | _ => none
      | _ => none
    | _ => none
  | _, _ => none
theorem d79_ok {s : TS U} {b : BS} {e : R112} {y0 : Int} {y1 : Int} {y2 : Int} {y3 : Int} {y4 : Int} {y5 : Int} {y6 : Int} {y7 : Int} {z0 : Int} {z1 : Int} {z2 : Int} {z3 : Int} {z4 : Int} {z5 : Int} {z6 : Int} {z7 : Int} {v : Int} (h : d79 s = some (b, e, y0, y1, y2, y3, y4, y5, y6, y7, z0, z1, z2, z3, z4, z5, z6, z7, v)) : s = mkS (U := U) 47 ([4, 7, 8, 9, 10].zip ([.ref 0 0 0, .ref 1 0 0, .ref 2 0 0, .ref 3 0 0, .v (.int .i64 v)] : List (TV U))) ([b.ob, e.ob, .cells [.v (.int .i64 y0), .v (.int .i64 y1), .v (.int .i64 y2), .v (.int .i64 y3), .v (.int .i64 y4), .v (.int .i64 y5), .v (.int .i64 y6), .v (.int .i64 y7), .v (.slice none 0 0)] false, .cells [.v (.int .i64 z0), .v (.int .i64 z1), .v (.int .i64 z2), .v (.int .i64 z3), .v (.int .i64 z4), .v (.int .i64 z5), .v (.int .i64 z6), .v (.int .i64 z7), .v (.slice none 0 0)] false] : List (TO U)) 0 := by
  unfold d79 at h
  split at h <;> try (cases h; done)
  rename_i ht ho
  have hs := told_ok ht
  rw [ho] at hs
  repeat' split at h
  all_goals first | (cases h; done) | (cases h; exact hs)
def Pre79 (b : BS) (e : R112) (y0 y1 y2 y3 y4 y5 y6 y7 z0 z1 z4 z5 z6 z7 v : Int) : Prop := (Sn b.V.length ∧ e.Args.length ≤ 3000000) ∧ (y0 = 0 ∧ y1 = 0 ∧ y2 = 0 ∧ y3 = 0 ∧ y4 = 0 ∧ y5 = 0 ∧ y6 = 0 ∧ y7 = 0) ∧ (z0 = 0 ∧ z1 = 0 ∧ z4 = -1 ∧ z5 = -1 ∧ z6 = 0 ∧ z7 = 0) ∧ v = 0
noncomputable instance (b : BS) (e : R112) (y0 y1 y2 y3 y4 y5 y6 y7 z0 z1 z4 z5 z6 z7 v : Int) : Decidable (Pre79 b e y0 y1 y2 y3 y4 y5 y6 y7 z0 z1 z4 z5 z6 z7 v) := Classical.propDecidable _
noncomputable def lc79 : LC U := .ofG d79 (fun (b, e, y0, y1, y2, y3, y4, y5, y6, y7, z0, z1, z2, z3, z4, z5, z6, z7, v) => Pre79 b e y0 y1 y2 y3 y4 y5 y6 y7 z0 z1 z4 z5 z6 z7 v)
  (fun (b, e, y0, y1, y2, y3, y4, y5, y6, y7, z0, z1, z2, z3, z4, z5, z6, z7, v) K => lsp (ag79 b e.Args) fun xs => K (.exit 0) (E79 b z2 z3 e xs).2) (fun _ => .exit 0)
  (fun (b, e, y0, y1, y2, y3, y4, y5, y6, y7, z0, z1, z2, z3, z4, z5, z6, z7, v) => (E79 b z2 z3 e (ag79 b e.Args)).2) fun x K => lsp_eq _ _
noncomputable def lp79 : Lp U := lpL [(0, lc79)]
theorem lp79_ok : ∀ c, Try.f152.body = some c → LpOk X Eu an79 lp79 (loops c 0) := lpL_ok (by kernel_rfl) fun b L hm st p hs => by
  cases hm with
  | tail _ h => cases h
  | head =>
    obtain ⟨⟨b, e, y0, y1, y2, y3, y4, y5, y6, y7, z0, z1, z2, z3, z4, z5, z6, z7, v⟩, hx, ⟨⟨h1, h2⟩, ⟨rfl, rfl, rfl, rfl, rfl, rfl, rfl, rfl⟩, ⟨rfl, rfl, rfl, rfl, rfl, rfl⟩, rfl⟩, rfl⟩ := LC.ofG_some (fun x K => lsp_eq _ _) hs
    obtain rfl := d79_ok hx
    exact ⟨_, rounds79 _ b z2 z3 e h1 h2⟩
def wkI : Lw U := .a [.no, .no, .no, .no, .no, .no, .no, .no, .l .i64]
theorem e79 (b : BS) (op : Int) (a : Int) (e : R112) : (evFn X Eu an79 lp79 Try.f152 [] [b.tv, TV.v (Value.int IntKind.i64 op), TV.v (Value.int IntKind.i64 a), e.tv] fun (o : List (TO X.U)) (v : TV X.U) => some (o, wkI.f v)) = if Pre79 b e 0 0 0 0 0 0 0 0 0 0 (-1) (-1) 0 0 0 then bif (ag79 b e.Args).isEmpty then bif decide (e.Kind = 11) then if Sn b.V.length then some ([], TV.agg [TV.v (Value.int IntKind.i64 0), TV.v (Value.int IntKind.i64 0), TV.v (Value.int IntKind.i64 op), TV.v (Value.int IntKind.i64 a), TV.v (Value.int IntKind.i64 (-1)), TV.v (Value.int IntKind.i64 (b.v e.A)), TV.v (Value.int IntKind.i64 0), TV.v (Value.int IntKind.i64 0), TV.lst C.i64 []]) else none else if Sn b.N.length then some ([], TV.agg [TV.v (Value.int IntKind.i64 0), TV.v (Value.int IntKind.i64 0), TV.v (Value.int IntKind.i64 op), TV.v (Value.int IntKind.i64 a), TV.v (Value.int IntKind.i64 (b.fnP e.A)), TV.v (Value.int IntKind.i64 (-1)), TV.v (Value.int IntKind.i64 0), TV.v (Value.int IntKind.i64 0), TV.lst C.i64 []]) else none else (unc (ag79 b e.Args)).bind fun (x : Int × List Int) => bif decide (e.Kind = 11) then if Sn b.V.length then some ([], TV.agg [TV.v (Value.int IntKind.i64 0), TV.v (Value.int IntKind.i64 0), TV.v (Value.int IntKind.i64 op), TV.v (Value.int IntKind.i64 a), TV.v (Value.int IntKind.i64 (-1)), TV.v (Value.int IntKind.i64 (b.v e.A)), TV.v (Value.int IntKind.i64 0), TV.v (Value.int IntKind.i64 0), TV.lst C.i64 (x.fst :: x.snd)]) else none else if Sn b.N.length then some ([], TV.agg [TV.v (Value.int IntKind.i64 0), TV.v (Value.int IntKind.i64 0), TV.v (Value.int IntKind.i64 op), TV.v (Value.int IntKind.i64 a), TV.v (Value.int IntKind.i64 (b.fnP e.A)), TV.v (Value.int IntKind.i64 (-1)), TV.v (Value.int IntKind.i64 0), TV.v (Value.int IntKind.i64 0), TV.lst C.i64 (x.fst :: x.snd)]) else none else none := by kernel_rfl
def BS.call (b : BS) (op a : Int) (e : R112) : R65 := cond (decide (e.Kind = 11)) ⟨0, 0, op, a, -1, b.v e.A, 0, 0, ag79 b e.Args⟩ ⟨0, 0, op, a, b.fnP e.A, -1, 0, 0, ag79 b e.Args⟩
end Go.Proofs.Ytpkgikchphgfaaa.Fl
/- The references' instructions: one of a statement. -/
namespace Go.Proofs.Ytpkgikchphgfaaa.Fl
open Go Go.RowKit Go.Proofs.Ytpkgikchphgfaaa.Eng
set_option linter.unusedVariables false
set_option linter.unusedSimpArgs false
set_option maxRecDepth 20000
def BSz (b : BS) : Prop := Sn b.G.length ∧ Sn b.F.length ∧ Sn b.N.length ∧ Sn b.V.length
def PreI (b : BS) (n : Nat) : Prop := BSz b ∧ Sn n
noncomputable instance (b : BS) (n : Nat) : Decidable (PreI b n) := Classical.propDecidable _
def dBiie (objs : List (TO U)) (args : List (TV U)) : Option (BS × Int × Int × R112) := match objs, args with
  | [], [a0, a1, a2, a3] =>
    match a0 with
    | .agg [q0, q1, q2, q3, q4, q5, q6, q7] =>
      match q0 with
      | .lst .t82 b_G =>
        match q1 with
        | .lst .t82 b_F =>
          match q2 with
          | .lst .t90 b_N =>
            match q3 with
            | .v (.int .i64 b_Fn) =>
              match q4 with
              | .lst .t82 b_V =>
                match q5 with
                | .v (.int .i64 b_Base) =>
                  match q6 with
                  | .v (.int .i64 b_First) =>
                    match q7 with
                    | .lst .t65 b_C =>
                      match a1 with
                      | .v (.int .i64 op) =>
                        match a2 with
                        | .v (.int .i64 a) =>
                          match a3 with
                          | .agg [q8, q9, q10, q11, q12, q13] =>
                            match q8 with
                            | .v (.int .i64 e_Kind) =>
                              match q9 with
                              | .v (.string e_A) =>
                                match q10 with
                                | .v (.string e_B) =>
                                  match q11 with
                                  | .v (.int .i64 e_Op) =>
                                    match q12 with
                                    | .v (.int .i64 e_N) =>
                                      match q13 with
                                      | .lst .str e_Args =>
                                        some ((⟨b_G, b_F, b_N, b_Fn, b_V, b_Base, b_First, b_C⟩ : BS), op, a, (⟨e_Kind, e_A, e_B, e_Op, e_N, e_Args⟩ : R112))
                                      | _ => none
                                    | _ => none
                                  | _ => none
                                | _ => none
                              | _ => none
                            | _ => none
                          | _ => none
                        | _ => none
                      | _ => none
                    | _ => none
                  | _ => none
                | _ => none
              | _ => none
            | _ => none
          | _ => none
        | _ => none
      | _ => none
    | _ => none
  | _, _ => none
theorem dBiie_ok {objs : List (TO U)} {args : List (TV U)} {b : BS} {op : Int} {a : Int} {e : R112} (h : dBiie objs args = some (b, op, a, e)) : objs = [] ∧ args = [b.tv, .v (.int .i64 op), .v (.int .i64 a), e.tv] := by
  unfold dBiie at h
  repeat' split at h
  all_goals first | (cases h; done) | (cases h; exact ⟨rfl, rfl⟩)
def dBie (objs : List (TO U)) (args : List (TV U)) : Option (BS × Int × R112) := match objs, args with
  | [], [a0, a1, a2] =>
    match a0 with
    | .agg [q0, q1, q2, q3, q4, q5, q6, q7] =>
      match q0 with
      | .lst .t82 b_G =>
        match q1 with
        | .lst .t82 b_F =>
          match q2 with
          | .lst .t90 b_N =>
            match q3 with
            | .v (.int .i64 b_Fn) =>
              match q4 with
              | .lst .t82 b_V =>
                match q5 with
                | .v (.int .i64 b_Base) =>
                  match q6 with
                  | .v (.int .i64 b_First) =>
                    match q7 with
                    | .lst .t65 b_C =>
                      match a1 with
                      | .v (.int .i64 a) =>
                        match a2 with
                        | .agg [q8, q9, q10, q11, q12, q13] =>
                          match q8 with
                          | .v (.int .i64 e_Kind) =>
                            match q9 with
                            | .v (.string e_A) =>
                              match q10 with
                              | .v (.string e_B) =>
                                match q11 with
                                | .v (.int .i64 e_Op) =>
                                  match q12 with
                                  | .v (.int .i64 e_N) =>
                                    match q13 with
                                    | .lst .str e_Args =>
                                      some ((⟨b_G, b_F, b_N, b_Fn, b_V, b_Base, b_First, b_C⟩ : BS), a, (⟨e_Kind, e_A, e_B, e_Op, e_N, e_Args⟩ : R112))
                                    | _ => none
                                  | _ => none
                                | _ => none
                              | _ => none
                            | _ => none
                          | _ => none
                        | _ => none
                      | _ => none
                    | _ => none
                  | _ => none
                | _ => none
              | _ => none
            | _ => none
          | _ => none
        | _ => none
      | _ => none
    | _ => none
  | _, _ => none
theorem dBie_ok {objs : List (TO U)} {args : List (TV U)} {b : BS} {a : Int} {e : R112} (h : dBie objs args = some (b, a, e)) : objs = [] ∧ args = [b.tv, .v (.int .i64 a), e.tv] := by
  unfold dBie at h
  repeat' split at h
  all_goals first | (cases h; done) | (cases h; exact ⟨rfl, rfl⟩)
noncomputable def sCallB : Spc U := .of dBiie (fun (b, op, a, e) => PreI b e.Args.length) (fun _ => []) fun (b, op, a, e) => (b.call op a e).tv
theorem sCallB_ok : SpecOk Try.prog 152 sCallB := by
  refine fn_okw wkI X_ok mixed Eu_ok an79 lp79 Try.func152 (by kernel_rfl) (by kernel_rfl) lp79_ok fun objs args x hx hp => ?_
  obtain ⟨b, op, a, e⟩ := x
  obtain ⟨rfl, rfl⟩ := dBiie_ok hx
  dsimp only at hp ⊢
  obtain ⟨⟨h1, h2, h3, h4⟩, h5⟩ := hp
  have h6 : Pre79 b e 0 0 0 0 0 0 0 0 0 0 (-1) (-1) 0 0 0 := ⟨⟨h4, h5⟩, ⟨rfl, rfl, rfl, rfl, rfl, rfl, rfl, rfl⟩, ⟨rfl, rfl, rfl, rfl, rfl, rfl⟩, rfl⟩
  refine (e79 b op a e).trans ?_
  rw [if_pos h6, if_pos h4, if_pos h3]
  simp only [if_pos h4, if_pos h3]
  unfold BS.call R65.tv insV
  generalize ag79 b e.Args = xs
  cases xs <;> cases decide (e.Kind = 11) <;> rfl
noncomputable def Ev : FuncId → Option (Spc U)
  | 152 => some sCallB
  | f => Eu f
theorem Ev_ok : ∀ f S, Ev f = some S → SpecOk Try.prog f S := fun f S h => by
  unfold Ev at h
  split at h
  · cases h; exact sCallB_ok
  · exact Eu_ok _ _ h
def an78 : Ann := ⟨fun _ => 0, fun _ => 0, fun _ => [], false⟩
def an75 : Ann := ⟨fun _ => 0, fun _ => 0, fun _ => [], false⟩
theorem e78 (b : BS) (a : Int) (e : R112) : (evFn X Ev an78 lp0 Try.f151 [] [b.tv, TV.v (Value.int IntKind.i64 a), e.tv] fun (o : List (TO X.U)) (v : TV X.U) => some (o, wkI.f v)) = bif decide (e.Kind = 1) then some ([], TV.agg [TV.v (Value.int IntKind.i64 0), TV.v (Value.int IntKind.i64 0), TV.v (Value.int IntKind.i64 1), TV.v (Value.int IntKind.i64 a), TV.v (Value.int IntKind.i64 0), TV.v (Value.int IntKind.i64 0), TV.v (Value.int IntKind.i64 0), TV.v (Value.int IntKind.i64 e.N), TV.lst C.i64 []]) else bif decide (e.Kind = 2) then some ([], TV.agg [TV.v (Value.int IntKind.i64 0), TV.v (Value.int IntKind.i64 0), TV.v (Value.int IntKind.i64 2), TV.v (Value.int IntKind.i64 a), TV.v (Value.int IntKind.i64 0), TV.v (Value.int IntKind.i64 0), TV.v (Value.int IntKind.i64 0), TV.v (Value.int IntKind.i64 0), TV.lst C.i64 []]) else bif decide (e.Kind = 3) then if Sn b.V.length then some ([], TV.agg [TV.v (Value.int IntKind.i64 0), TV.v (Value.int IntKind.i64 0), TV.v (Value.int IntKind.i64 3), TV.v (Value.int IntKind.i64 a), TV.v (Value.int IntKind.i64 (b.v e.A)), TV.v (Value.int IntKind.i64 0), TV.v (Value.int IntKind.i64 0), TV.v (Value.int IntKind.i64 0), TV.lst C.i64 []]) else none else bif decide (e.Kind = 4) then if Sn b.G.length then some ([], TV.agg [TV.v (Value.int IntKind.i64 0), TV.v (Value.int IntKind.i64 0), TV.v (Value.int IntKind.i64 8), TV.v (Value.int IntKind.i64 a), TV.v (Value.int IntKind.i64 (atP b.G e.A)), TV.v (Value.int IntKind.i64 0), TV.v (Value.int IntKind.i64 0), TV.v (Value.int IntKind.i64 0), TV.lst C.i64 []]) else none else bif decide (e.Kind = 5) then if Sn b.V.length then if Sn b.F.length then some ([], TV.agg [TV.v (Value.int IntKind.i64 0), TV.v (Value.int IntKind.i64 0), TV.v (Value.int IntKind.i64 10), TV.v (Value.int IntKind.i64 a), TV.v (Value.int IntKind.i64 (b.v e.A)), TV.v (Value.int IntKind.i64 (atP b.F e.B)), TV.v (Value.int IntKind.i64 0), TV.v (Value.int IntKind.i64 0), TV.lst C.i64 []]) else none else none else bif decide (e.Kind = 6) then some ([], TV.agg [TV.v (Value.int IntKind.i64 0), TV.v (Value.int IntKind.i64 0), TV.v (Value.int IntKind.i64 6), TV.v (Value.int IntKind.i64 a), TV.v (Value.int IntKind.i64 0), TV.v (Value.int IntKind.i64 0), TV.v (Value.int IntKind.i64 0), TV.v (Value.int IntKind.i64 0), TV.lst C.i64 []]) else bif decide (e.Kind = 7) then if Sn b.N.length then some ([], TV.agg [TV.v (Value.int IntKind.i64 0), TV.v (Value.int IntKind.i64 0), TV.v (Value.int IntKind.i64 7), TV.v (Value.int IntKind.i64 a), TV.v (Value.int IntKind.i64 (b.fnP e.A)), TV.v (Value.int IntKind.i64 0), TV.v (Value.int IntKind.i64 0), TV.v (Value.int IntKind.i64 0), TV.lst C.i64 []]) else none else bif decide (e.Kind = 8) then if Sn b.V.length then if Sn b.V.length then some ([], TV.agg [TV.v (Value.int IntKind.i64 0), TV.v (Value.int IntKind.i64 0), TV.v (Value.int IntKind.i64 4), TV.v (Value.int IntKind.i64 a), TV.v (Value.int IntKind.i64 (b.v e.A)), TV.v (Value.int IntKind.i64 (b.v e.B)), TV.v (Value.int IntKind.i64 e.Op), TV.v (Value.int IntKind.i64 0), TV.lst C.i64 []]) else none else none else bif decide (e.Kind = 9) then if Sn b.V.length then some ([], TV.agg [TV.v (Value.int IntKind.i64 0), TV.v (Value.int IntKind.i64 0), TV.v (Value.int IntKind.i64 5), TV.v (Value.int IntKind.i64 a), TV.v (Value.int IntKind.i64 (b.v e.A)), TV.v (Value.int IntKind.i64 0), TV.v (Value.int IntKind.i64 e.Op), TV.v (Value.int IntKind.i64 e.N), TV.lst C.i64 []]) else none else if PreI b e.Args.length then some ([], insV (b.call 12 a e)) else none := by kernel_rfl
def ins3 (op a b c d n : Int) : R65 := ⟨0, 0, op, a, b, c, d, n, []⟩
def BS.set (b : BS) (a : Int) (e : R112) : R65 :=
  cond (decide (e.Kind = 1)) (ins3 1 a 0 0 0 e.N) (cond (decide (e.Kind = 2)) (ins3 2 a 0 0 0 0) (cond (decide (e.Kind = 3)) (ins3 3 a (b.v e.A) 0 0 0) (cond (decide (e.Kind = 4)) (ins3 8 a (atP b.G e.A) 0 0 0)
    (cond (decide (e.Kind = 5)) (ins3 10 a (b.v e.A) (atP b.F e.B) 0 0) (cond (decide (e.Kind = 6)) (ins3 6 a 0 0 0 0) (cond (decide (e.Kind = 7)) (ins3 7 a (b.fnP e.A) 0 0 0) (cond (decide (e.Kind = 8)) (ins3 4 a (b.v e.A) (b.v e.B) e.Op 0)
      (cond (decide (e.Kind = 9)) (ins3 5 a (b.v e.A) 0 e.Op e.N) (b.call 12 a e)))))))))
noncomputable def sSet : Spc U := .of dBie (fun (b, a, e) => PreI b e.Args.length) (fun _ => []) fun (b, a, e) => (b.set a e).tv
theorem sSet_ok : SpecOk Try.prog 151 sSet := by
  refine fn_okw wkI X_ok mixed Ev_ok an78 lp0 Try.func151 (by kernel_rfl) (by kernel_rfl) (lp0_ok (by kernel_rfl)) fun objs args x hx hp => ?_
  obtain ⟨b, a, e⟩ := x
  obtain ⟨rfl, rfl⟩ := dBie_ok hx
  dsimp only at hp ⊢
  have hp' := hp
  obtain ⟨⟨h1, h2, h3, h4⟩, h5⟩ := hp'
  refine (e78 b a e).trans ?_
  unfold BS.set
  simp only [h1, h2, h3, h4, hp, if_true]
  cases decide (e.Kind = 1) with
  | true => rfl
  | false =>
  cases decide (e.Kind = 2) with
  | true => rfl
  | false =>
  cases decide (e.Kind = 3) with
  | true => rfl
  | false =>
  cases decide (e.Kind = 4) with
  | true => rfl
  | false =>
  cases decide (e.Kind = 5) with
  | true => rfl
  | false =>
  cases decide (e.Kind = 6) with
  | true => rfl
  | false =>
  cases decide (e.Kind = 7) with
  | true => rfl
  | false =>
  cases decide (e.Kind = 8) with
  | true => rfl
  | false =>
  cases decide (e.Kind = 9) <;> rfl
noncomputable def Ew : FuncId → Option (Spc U)
  | 151 => some sSet
  | f => Ev f
theorem Ew_ok : ∀ f S, Ew f = some S → SpecOk Try.prog f S := fun f S h => by
  unfold Ew at h
  split at h
  · cases h; exact sSet_ok
  · exact Ev_ok _ _ h
theorem e75 (b : BS) (s : R114) : (evFn X Ew an75 lp0 Try.f118 [] [b.tv, stV s] fun (o : List (TO X.U)) (v : TV X.U) => some (o, wkI.f v)) = bif decide (s.Kind = 1) then if Sn b.V.length then if PreI b s.Expr.Args.length then some ([], insV (b.set (b.v s.To) s.Expr)) else none else none else bif decide (s.Kind = 2) then if Sn b.G.length then if Sn b.V.length then some ([], TV.agg [TV.v (Value.int IntKind.i64 0), TV.v (Value.int IntKind.i64 0), TV.v (Value.int IntKind.i64 9), TV.v (Value.int IntKind.i64 (atP b.G s.To)), TV.v (Value.int IntKind.i64 (b.v s.From)), TV.v (Value.int IntKind.i64 0), TV.v (Value.int IntKind.i64 0), TV.v (Value.int IntKind.i64 0), TV.lst C.i64 []]) else none else none else bif decide (s.Kind = 3) then if Sn b.V.length then if Sn b.V.length then if Sn b.F.length then some ([], TV.agg [TV.v (Value.int IntKind.i64 0), TV.v (Value.int IntKind.i64 0), TV.v (Value.int IntKind.i64 11), TV.v (Value.int IntKind.i64 (b.v s.To)), TV.v (Value.int IntKind.i64 (b.v s.From)), TV.v (Value.int IntKind.i64 (atP b.F s.Field)), TV.v (Value.int IntKind.i64 0), TV.v (Value.int IntKind.i64 0), TV.lst C.i64 []]) else none else none else none else bif decide (s.Kind = 6) then if Sn b.V.length then some ([], TV.agg [TV.v (Value.int IntKind.i64 0), TV.v (Value.int IntKind.i64 0), TV.v (Value.int IntKind.i64 14), TV.v (Value.int IntKind.i64 (b.v s.From)), TV.v (Value.int IntKind.i64 0), TV.v (Value.int IntKind.i64 0), TV.v (Value.int IntKind.i64 0), TV.v (Value.int IntKind.i64 0), TV.lst C.i64 []]) else none else bif decide (s.Kind = 7) then if Sn b.V.length then some ([], TV.agg [TV.v (Value.int IntKind.i64 0), TV.v (Value.int IntKind.i64 0), TV.v (Value.int IntKind.i64 15), TV.v (Value.int IntKind.i64 (b.v s.From)), TV.v (Value.int IntKind.i64 0), TV.v (Value.int IntKind.i64 0), TV.v (Value.int IntKind.i64 0), TV.v (Value.int IntKind.i64 0), TV.lst C.i64 []]) else none else bif decide (s.Kind = 8) then if PreI b s.Expr.Args.length then some ([], insV (b.call 13 (-1) s.Expr)) else none else bif decide (s.Kind = 9) then if PreI b s.Expr.Args.length then some ([], insV (b.call 12 (-1) s.Expr)) else none else bif decide (s.Kind = 10) then bif s.From.toList == (⟨#[]⟩ : ByteArray).toList then some ([], TV.agg [TV.v (Value.int IntKind.i64 0), TV.v (Value.int IntKind.i64 0), TV.v (Value.int IntKind.i64 16), TV.v (Value.int IntKind.i64 (-1)), TV.v (Value.int IntKind.i64 0), TV.v (Value.int IntKind.i64 0), TV.v (Value.int IntKind.i64 0), TV.v (Value.int IntKind.i64 0), TV.lst C.i64 []]) else if Sn b.V.length then some ([], TV.agg [TV.v (Value.int IntKind.i64 0), TV.v (Value.int IntKind.i64 0), TV.v (Value.int IntKind.i64 16), TV.v (Value.int IntKind.i64 (b.v s.From)), TV.v (Value.int IntKind.i64 0), TV.v (Value.int IntKind.i64 0), TV.v (Value.int IntKind.i64 0), TV.v (Value.int IntKind.i64 0), TV.lst C.i64 []]) else none else some ([], TV.agg [TV.v (Value.int IntKind.i64 0), TV.v (Value.int IntKind.i64 0), TV.v (Value.int IntKind.i64 0), TV.v (Value.int IntKind.i64 0), TV.v (Value.int IntKind.i64 0), TV.v (Value.int IntKind.i64 0), TV.v (Value.int IntKind.i64 0), TV.v (Value.int IntKind.i64 0), TV.lst C.i64 []]) := by kernel_rfl
def BS.one (b : BS) (s : R114) : R65 :=
  cond (decide (s.Kind = 1)) (b.set (b.v s.To) s.Expr) (cond (decide (s.Kind = 2)) (ins3 9 (atP b.G s.To) (b.v s.From) 0 0 0) (cond (decide (s.Kind = 3)) (ins3 11 (b.v s.To) (b.v s.From) (atP b.F s.Field) 0 0)
    (cond (decide (s.Kind = 6)) (ins3 14 (b.v s.From) 0 0 0 0) (cond (decide (s.Kind = 7)) (ins3 15 (b.v s.From) 0 0 0 0) (cond (decide (s.Kind = 8)) (b.call 13 (-1) s.Expr) (cond (decide (s.Kind = 9)) (b.call 12 (-1) s.Expr)
      (cond (decide (s.Kind = 10)) (cond (s.From.toList == (⟨#[]⟩ : ByteArray).toList) (ins3 16 (-1) 0 0 0 0) (ins3 16 (b.v s.From) 0 0 0 0)) (ins3 0 0 0 0 0 0))))))))
def dBst0 (objs : List (TO U)) (args : List (TV U)) : Option (BS × Int × Int × ByteArray × ByteArray × ByteArray × Int × ByteArray × ByteArray × Int × Int × List ByteArray × List R114 × List R114) := match objs, args with
  | [], [a0, a1] =>
    match a0 with
    | .agg [q0, q1, q2, q3, q4, q5, q6, q7] =>
      match q0 with
      | .lst .t82 b_G =>
        match q1 with
        | .lst .t82 b_F =>
          match q2 with
          | .lst .t90 b_N =>
            match q3 with
            | .v (.int .i64 b_Fn) =>
              match q4 with
              | .lst .t82 b_V =>
                match q5 with
                | .v (.int .i64 b_Base) =>
                  match q6 with
                  | .v (.int .i64 b_First) =>
                    match q7 with
                    | .lst .t65 b_C =>
                      match a1 with
                      | .agg [q8, q9, q10, q11, q12, q13, q14, q15, q16, q17, q18, q19, q20] =>
                        match q8 with
                        | .v (.int .i64 k) =>
                          match q9 with
                          | .v (.int .i64 at') =>
                            match q10 with
                            | .v (.string to) =>
                              match q11 with
                              | .v (.string fi) =>
                                match q12 with
                                | .v (.string fr) =>
                                  match q13 with
                                  | .v (.int .i64 ek) =>
                                    match q14 with
                                    | .v (.string ea) =>
                                      match q15 with
                                      | .v (.string eb) =>
                                        match q16 with
                                        | .v (.int .i64 eo) =>
                                          match q17 with
                                          | .v (.int .i64 en) =>
                                            match q18 with
                                            | .lst .str ar =>
                                              match q19 with
                                              | .lst .t114 bd =>
                                                match q20 with
                                                | .lst .t114 el =>
                                                  some ((⟨b_G, b_F, b_N, b_Fn, b_V, b_Base, b_First, b_C⟩ : BS), k, at', to, fi, fr, ek, ea, eb, eo, en, ar, bd, el)
                                                | _ => none
                                              | _ => none
                                            | _ => none
                                          | _ => none
                                        | _ => none
                                      | _ => none
                                    | _ => none
                                  | _ => none
                                | _ => none
                              | _ => none
                            | _ => none
                          | _ => none
                        | _ => none
                      | _ => none
                    | _ => none
                  | _ => none
                | _ => none
              | _ => none
            | _ => none
          | _ => none
        | _ => none
      | _ => none
    | _ => none
  | _, _ => none
theorem dBst0_ok {objs : List (TO U)} {args : List (TV U)} {b : BS} {k : Int} {at' : Int} {to : ByteArray} {fi : ByteArray} {fr : ByteArray} {ek : Int} {ea : ByteArray} {eb : ByteArray} {eo : Int} {en : Int} {ar : List ByteArray} {bd : List R114} {el : List R114} (h : dBst0 objs args = some (b, k, at', to, fi, fr, ek, ea, eb, eo, en, ar, bd, el)) : objs = [] ∧ args = [b.tv, .agg [.v (.int .i64 k), .v (.int .i64 at'), .v (.string to), .v (.string fi), .v (.string fr), .v (.int .i64 ek), .v (.string ea), .v (.string eb), .v (.int .i64 eo), .v (.int .i64 en), .lst .str ar, .lst .t114 bd, .lst .t114 el]] := by
  unfold dBst0 at h
  repeat' split at h
  all_goals first | (cases h; done) | (cases h; exact ⟨rfl, rfl⟩)
def dBst (objs : List (TO U)) (args : List (TV U)) : Option (BS × R114) := (dBst0 objs args).map fun (b, k, a, to, fi, fr, ek, ea, eb, eo, en, ar, bd, el) => (b, .mk k a to fi fr ⟨ek, ea, eb, eo, en, ar⟩ bd el)
theorem dBst_ok {objs : List (TO U)} {args : List (TV U)} {x : BS × R114} (h : dBst objs args = some x) : objs = [] ∧ args = [x.1.tv, stV x.2] := by
  unfold dBst at h
  rw [Option.map_eq_some_iff] at h
  obtain ⟨⟨b, k, a, to, fi, fr, ek, ea, eb, eo, en, ar, bd, el⟩, h1, rfl⟩ := h
  exact dBst0_ok h1
noncomputable def sOne : Spc U := .of dBst (fun (b, s) => PreI b s.Expr.Args.length) (fun _ => []) fun (b, s) => (b.one s).tv
theorem sOne_ok : SpecOk Try.prog 118 sOne := by
  refine fn_okw wkI X_ok mixed Ew_ok an75 lp0 Try.func118 (by kernel_rfl) (by kernel_rfl) (lp0_ok (by kernel_rfl)) fun objs args x hx hp => ?_
  obtain ⟨b, s⟩ := x
  obtain ⟨rfl, rfl⟩ := dBst_ok hx
  dsimp only at hp ⊢
  have hp' := hp
  obtain ⟨⟨h1, h2, h3, h4⟩, h5⟩ := hp'
  refine (e75 b s).trans ?_
  unfold BS.one
  simp only [h1, h2, h3, h4, hp, if_true]
  cases decide (s.Kind = 1) with
  | true => rfl
  | false =>
  cases decide (s.Kind = 2) with
  | true => rfl
  | false =>
  cases decide (s.Kind = 3) with
  | true => rfl
  | false =>
  cases decide (s.Kind = 6) with
  | true => rfl
  | false =>
  cases decide (s.Kind = 7) with
  | true => rfl
  | false =>
  cases decide (s.Kind = 8) with
  | true => rfl
  | false =>
  cases decide (s.Kind = 9) with
  | true => rfl
  | false =>
  cases decide (s.Kind = 10) with
  | false => rfl
  | true => cases s.From.toList == (⟨#[]⟩ : ByteArray).toList <;> rfl
end Go.Proofs.Ytpkgikchphgfaaa.Fl
/- The references' instructions: how many there are. -/
namespace Go.Proofs.Ytpkgikchphgfaaa.Fl
open Go Go.RowKit Go.Proofs.Ytpkgikchphgfaaa.Eng
set_option linter.unusedVariables false
set_option linter.unusedSimpArgs false
set_option maxRecDepth 20000
mutual
def szS : R114 → Int
  | .mk k _ _ _ _ _ b l => 1 + szL b + szL l + cond (decide (k = 5) || (decide (k = 4) && decide (0 < (l.length : Int)))) 1 0
def szL : List R114 → Int
  | [] => 0
  | x :: l => szS x + szL l
end
mutual
theorem szS_le : ∀ z : R114, 1 ≤ szS z ∧ szS z ≤ 2 * cntS z
  | .mk k a to fi fr e b l => by
    have h1 := szL_le b
    have h2 := szL_le l
    rw [szS, cntS]
    have h3 : ∀ c : Bool, (0 : Int) ≤ cond c 1 0 ∧ (cond c 1 0 : Int) ≤ 1 := fun c => by cases c <;> decide
    have := h3 (decide (k = 5) || (decide (k = 4) && decide (0 < (l.length : Int))))
    omega
theorem szL_le : ∀ l : List R114, 0 ≤ szL l ∧ szL l ≤ 2 * cntL l
  | [] => ⟨Int.le_refl 0, Int.le_refl 0⟩
  | x :: l => by
    have h1 := szS_le x
    have h2 := szL_le l
    rw [szL, cntL]
    omega
end
theorem szS_eq (z : R114) : szS z = 1 + szL z.Body + szL z.Else + cond (decide (z.Kind = 5) || (decide (z.Kind = 4) && decide (0 < (z.Else.length : Int)))) 1 0 := by cases z; rw [szS]; rfl
def dL (objs : List (TO U)) (args : List (TV U)) : Option (List R114) := match objs, args with
  | [], [a0] =>
    match a0 with
    | .lst .t114 l =>
      some l
    | _ => none
  | _, _ => none
theorem dL_ok {objs : List (TO U)} {args : List (TV U)} {l : List R114} (h : dL objs args = some l) : objs = [] ∧ args = [.lst .t114 l] := by
  unfold dL at h
  repeat' split at h
  all_goals first | (cases h; done) | (cases h; exact ⟨rfl, rfl⟩)
def PreZ (m n : Nat) : Prop := m ≤ 3000000 ∧ m < n
instance (m n : Nat) : Decidable (PreZ m n) := by unfold PreZ; infer_instance
def sSizeLt (n : Nat) : Spc U := .of dL (fun l => PreZ (cntL l) n) (fun _ => []) fun l => .v (.int .i64 (szL l))
def Ex (n : Nat) : FuncId → Option (Spc U)
  | 116 => some (sSizeLt n)
  | _ => none
theorem Ex_ok {n : Nat} (h0 : SpecOk Try.prog 116 (sSizeLt n)) : ∀ f S, Ex n f = some S → SpecOk Try.prog f S := fun f S h => by
  unfold Ex at h
  split at h
  · cases h; exact h0
  · cases h
def an73 : Ann := ⟨fun | 0 => 25 | _ => 0, fun | 0 => 12 | _ => 0, fun _ => [], false⟩
def g73_S0 (l : List
  R114) (v1 : Int) (v2 : Int) : TS U := mkS 53
  [(0, TV.lst C.t114 l), (3, TV.v (Value.int IntKind.i64 v1)), (4, TV.v (Value.int IntKind.i64 v2))] [] 0
theorem g73_e0 (n : Nat) (lp : Lp U) (l : List R114) (N : Nat) (v1 : Int) (v2 : Int) : fnLoop X (Ex n) an73 lp Try.f116 0 N.succ (g73_S0 l v1 v2) = bif decide (v2 < (↑l.length : Int)) then (getI l v2).bind fun (z : X.U.T C.t114) => if PreZ (cntL (R114.Body z)) n then (getI l v2).bind fun (z_1 : X.U.T C.t114) => if PreZ (cntL (R114.Else z_1)) n then (getI l v2).bind fun (z_2 : X.U.T C.t114) => bif decide (R114.Kind z_2 = 5) then fnLoop X (Ex n) an73 lp Try.f116 0 N (g73_S0 l (IntKind.i64.wrap (IntKind.i64.wrap (v1 + IntKind.i64.wrap (IntKind.i64.wrap (1 + szL (R114.Body z)) + szL (R114.Else z_1))) + 1)) (IntKind.i64.wrap (v2 + 1))) else (getI l v2).bind fun (z_3 : X.U.T C.t114) => bif decide (R114.Kind z_3 = 4) then (getI l v2).bind fun (z_4 : X.U.T C.t114) => bif decide (0 < (↑(R114.Else z_4).length : Int)) then fnLoop X (Ex n) an73 lp Try.f116 0 N (g73_S0 l (IntKind.i64.wrap (IntKind.i64.wrap (v1 + IntKind.i64.wrap (IntKind.i64.wrap (1 + szL (R114.Body z)) + szL (R114.Else z_1))) + 1)) (IntKind.i64.wrap (v2 + 1))) else fnLoop X (Ex n) an73 lp Try.f116 0 N (g73_S0 l (IntKind.i64.wrap (v1 + IntKind.i64.wrap (IntKind.i64.wrap (1 + szL (R114.Body z)) + szL (R114.Else z_1)))) (IntKind.i64.wrap (v2 + 1))) else fnLoop X (Ex n) an73 lp Try.f116 0 N (g73_S0 l (IntKind.i64.wrap (v1 + IntKind.i64.wrap (IntKind.i64.wrap (1 + szL (R114.Body z)) + szL (R114.Else z_1)))) (IntKind.i64.wrap (v2 + 1))) else none else none else some (Exit.exit 0, mkS 53 [(3, TV.v (Value.int IntKind.i64 v1))] [] 0) := by kernel_rfl
theorem szL_fold : ∀ (l : List R114) (n : Int), l.foldl (fun n z => n + szS z) n = n + szL l
  | [], n => by rw [List.foldl_nil, szL, Int.add_zero]
  | x :: l, n => by rw [List.foldl_cons, szL_fold l, szL, Int.add_assoc]
def E73 (n : Int) : Exit × TS U := (.exit 0, mkS 53 [(3, .v (.int .i64 n))] [] 0)
theorem rounds73 {m : Nat} (lp : Lp U) (l : List R114) (hl : cntL l ≤ 3000000) (hm : cntL l ≤ m) : fnLoop X (Ex m) an73 lp Try.f116 0 (l.length + 1) (g73_S0 l 0 0) = some (E73 (szL l)) := by
  have hlen := cntL_len l
  have h := ixL_rounds (fnl := fun k st => fnLoop X (Ex m) an73 lp Try.f116 0 k st) (fun n v => g73_S0 l n v) E73 (len := l.length) (step := stepI l (fun n z => n + szS z)) (fun n v => 0 ≤ n ∧ n + szL (l.drop v.toNat) ≤ 6000000) (fun n v N hn h0 h1 => by
    obtain ⟨z, hz, hz2⟩ := getI_lt h0 h1
    have hx : l[v.toNat]? = some l[v.toNat] := List.getElem?_eq_getElem (by omega)
    have hzz : l[v.toNat] = z := by rw [hz2] at hx; cases hx; rfl
    have hd : l.drop v.toNat = l[v.toNat] :: l.drop (v.toNat + 1) := List.drop_eq_getElem_cons (by omega)
    have hw : IntKind.i64.wrap (v + 1) = v + 1 := wrap_i64 (by omega) (by omega)
    have hcz := cntL_at l v.toNat z hz2
    rw [cntS_eq] at hcz
    have hst : stepI l (fun n z => n + szS z) n v = n + szS z := by unfold stepI; rw [hz]
    have b1 := szL_le z.Body
    have b2 := szL_le z.Else
    have b3 := szS_le z
    have b4 := szL_le (l.drop (v.toNat + 1))
    have hn' := hn.2
    rw [hd, hzz, szL] at hn'
    have hn0 := hn.1
    have w1 : IntKind.i64.wrap (1 + szL z.Body) = 1 + szL z.Body := wrap_i64 (by omega) (by omega)
    have w2 : IntKind.i64.wrap (1 + szL z.Body + szL z.Else) = 1 + szL z.Body + szL z.Else := wrap_i64 (by omega) (by omega)
    have w3 : IntKind.i64.wrap (n + (1 + szL z.Body + szL z.Else)) = n + (1 + szL z.Body + szL z.Else) := wrap_i64 (by omega) (by omega)
    have w4 : IntKind.i64.wrap (n + (1 + szL z.Body + szL z.Else) + 1) = n + (1 + szL z.Body + szL z.Else) + 1 := wrap_i64 (by omega) (by omega)
    have p1 : PreZ (cntL z.Body) m := ⟨by omega, by omega⟩
    have p2 : PreZ (cntL z.Else) m := ⟨by omega, by omega⟩
    have e1 : szS z = 1 + szL z.Body + szL z.Else + cond (decide (z.Kind = 5) || (decide (z.Kind = 4) && decide (0 < (z.Else.length : Int)))) 1 0 := szS_eq z
    rw [hst]
    refine ⟨?_, by omega, by rw [show (v + 1).toNat = v.toNat + 1 by omega]; omega⟩
    dsimp only
    rw [g73_e0, decide_eq_true h1, hz]
    simp only [cond_true, Option.bind_some, p1, p2, if_true, hw, w1, w2, w3, w4]
    rw [e1]
    cases decide (z.Kind = 5) with
    | true => simp only [cond_true, Bool.true_or, Int.add_assoc]
    | false =>
      cases decide (z.Kind = 4) with
      | true =>
        cases decide (0 < (z.Else.length : Int)) with
        | true => simp only [cond_true, cond_false, Bool.false_or, Bool.and_self, Int.add_assoc]
        | false => simp only [cond_true, cond_false, Bool.false_or, Bool.and_false, Int.add_zero]
      | false => simp only [cond_false, Bool.false_or, Bool.false_and, Int.add_zero]) (fun n v N _ h0 h1 => by dsimp only; rw [g73_e0, decide_eq_false h1]; rfl) l.length 0 0 (Int.le_refl 0) (by omega) ⟨Int.le_refl 0, by
      have := szL_le l
      show 0 + szL l ≤ _
      omega⟩
  rw [ixL_all, szL_fold, Int.zero_add] at h
  exact h
def d73 (s : TS U) : Option (List R114 × Int × Int) := match told s 53 [0, 3, 4] 0, s.objs with
  | some [a0, a1, a2], [] =>
    match a0 with
    | .lst .t114 l =>
      match a1 with
      | .v (.int .i64 n) =>
        match a2 with
        | .v (.int .i64 v) =>
          some (l, n, v)
        | _ => none
      | _ => none
    | _ => none
  | _, _ => none
theorem d73_ok {s : TS U} {l : List R114} {n : Int} {v : Int} (h : d73 s = some (l, n, v)) : s = mkS (U := U) 53 ([0, 3, 4].zip ([.lst .t114 l, .v (.int .i64 n), .v (.int .i64 v)] : List (TV U))) ([] : List (TO U)) 0 := by
  unfold d73 at h
  split at h <;> try (cases h; done)
  rename_i ht ho
  have hs := told_ok ht
  rw [ho] at hs
  repeat' split at h
  all_goals first | (cases h; done) | (cases h; exact hs)
def Pre73 (m k : Nat) (n v : Int) : Prop := (m ≤ 3000000 ∧ m ≤ k) ∧ n = 0 ∧ v = 0
instance (m k : Nat) (n v : Int) : Decidable (Pre73 m k n v) := by unfold Pre73; infer_instance
def lc73 (k : Nat) : LC U := .of d73 (fun (l, n, v) => Pre73 (cntL l) k n v) (.exit 0) (fun (l, n, v) => (E73 (szL l)).2)
def lp73 (k : Nat) : Lp U := lpL [(0, lc73 k)]
theorem lp73_ok (k : Nat) : ∀ c, Try.f116.body = some c → LpOk X (Ex k) an73 (lp73 k) (loops c 0) := lpL_ok (by kernel_rfl) fun b L hm st p hs => by
  cases hm with
  | tail _ h => cases h
  | head =>
    obtain ⟨⟨l, n, v⟩, hx, ⟨⟨h1, h2⟩, rfl, rfl⟩, rfl⟩ := LC.of_some hs
    obtain rfl := d73_ok hx
    exact ⟨_, rounds73 _ l h1 h2⟩
theorem e73 (k : Nat) (l : List R114) : (evFn X (Ex k) an73 (lp73 k) Try.f116 [] [TV.lst C.t114 l] fun (o : List (TO X.U)) (v : TV X.U) => some (o, v)) = if Pre73 (cntL l) k 0 0 then some ([], TV.v (Value.int IntKind.i64 (szL l))) else none := by kernel_rfl
def lpF73 : Lp U := lpL [(0, .of d73 (fun _ => False) .ret (fun _ => mkS 0 [] [] 0))]
theorem lpF73_ok : ∀ c, Try.f116.body = some c → LpOk X (fun _ => none) an73 lpF73 (loops c 0) := lpL_ok (by kernel_rfl) fun b L hm st p hs => by
  cases hm with
  | tail _ h => cases h
  | head =>
    obtain ⟨_, _, h, _⟩ := LC.of_some hs
    exact absurd h id
theorem size_lt : ∀ n : Nat, SpecOk Try.prog 116 (sSizeLt n)
  | 0 => by
    refine fn_ok X_ok mixed E0_ok an73 lpF73 Try.func116 (by kernel_rfl) (by kernel_rfl) lpF73_ok fun objs args x hx h => ?_
    exact absurd h.2 (Nat.not_lt_zero _)
  | n + 1 => by
    refine fn_ok X_ok mixed (Ex_ok (size_lt n)) an73 (lp73 n) Try.func116 (by kernel_rfl) (by kernel_rfl) (lp73_ok n) fun objs args l hx hp => ?_
    obtain ⟨rfl, rfl⟩ := dL_ok hx
    dsimp only at hp ⊢
    have h4 : Pre73 (cntL l) n 0 0 := ⟨⟨hp.1, by have := hp.2; omega⟩, rfl, rfl⟩
    rw [e73, if_pos h4]
def sSize : Spc U := .of dL (fun l => Sn (cntL l)) (fun _ => []) fun l => .v (.int .i64 (szL l))
theorem sSize_ok : SpecOk Try.prog 116 sSize := SpecOk.lim cntL fun n => by
  refine SpecOk.of (size_lt n) fun objs args x hp hx => ?_
  unfold sSizeLt Spc.of
  dsimp only
  rw [hp]
  dsimp only
  rw [if_pos ⟨hx.1, hx.2⟩]
end Go.Proofs.Ytpkgikchphgfaaa.Fl
/- The references' instructions: of statements. -/
namespace Go.Proofs.Ytpkgikchphgfaaa.Fl
open Go Go.RowKit Go.Proofs.Ytpkgikchphgfaaa.Eng
set_option linter.unusedVariables false
set_option linter.unusedSimpArgs false
set_option maxRecDepth 20000
def dB (objs : List (TO U)) (args : List (TV U)) : Option (BS) := match objs, args with
  | [], [a0] =>
    match a0 with
    | .agg [q0, q1, q2, q3, q4, q5, q6, q7] =>
      match q0 with
      | .lst .t82 b_G =>
        match q1 with
        | .lst .t82 b_F =>
          match q2 with
          | .lst .t90 b_N =>
            match q3 with
            | .v (.int .i64 b_Fn) =>
              match q4 with
              | .lst .t82 b_V =>
                match q5 with
                | .v (.int .i64 b_Base) =>
                  match q6 with
                  | .v (.int .i64 b_First) =>
                    match q7 with
                    | .lst .t65 b_C =>
                      some (⟨b_G, b_F, b_N, b_Fn, b_V, b_Base, b_First, b_C⟩ : BS)
                    | _ => none
                  | _ => none
                | _ => none
              | _ => none
            | _ => none
          | _ => none
        | _ => none
      | _ => none
    | _ => none
  | _, _ => none
theorem dB_ok {objs : List (TO U)} {args : List (TV U)} {b : BS} (h : dB objs args = some b) : objs = [] ∧ args = [b.tv] := by
  unfold dB at h
  repeat' split at h
  all_goals first | (cases h; done) | (cases h; exact ⟨rfl, rfl⟩)
def dBL (objs : List (TO U)) (args : List (TV U)) : Option (BS × List R114) := match objs, args with
  | [], [a0, a1] =>
    match a0 with
    | .agg [q0, q1, q2, q3, q4, q5, q6, q7] =>
      match q0 with
      | .lst .t82 b_G =>
        match q1 with
        | .lst .t82 b_F =>
          match q2 with
          | .lst .t90 b_N =>
            match q3 with
            | .v (.int .i64 b_Fn) =>
              match q4 with
              | .lst .t82 b_V =>
                match q5 with
                | .v (.int .i64 b_Base) =>
                  match q6 with
                  | .v (.int .i64 b_First) =>
                    match q7 with
                    | .lst .t65 b_C =>
                      match a1 with
                      | .lst .t114 l =>
                        some ((⟨b_G, b_F, b_N, b_Fn, b_V, b_Base, b_First, b_C⟩ : BS), l)
                      | _ => none
                    | _ => none
                  | _ => none
                | _ => none
              | _ => none
            | _ => none
          | _ => none
        | _ => none
      | _ => none
    | _ => none
  | _, _ => none
theorem dBL_ok {objs : List (TO U)} {args : List (TV U)} {b : BS} {l : List R114} (h : dBL objs args = some (b, l)) : objs = [] ∧ args = [b.tv, .lst .t114 l] := by
  unfold dBL at h
  repeat' split at h
  all_goals first | (cases h; done) | (cases h; exact ⟨rfl, rfl⟩)
def BS.here (b : BS) : Int := IntKind.i64.wrap (b.First + b.C.length)
def sHere : Spc U := .of dB (fun _ => True) (fun _ => []) fun b => .v (.int .i64 b.here)
theorem sHere_ok : SpecOk Try.prog 115 sHere := by
  refine fn_ok X_ok mixed E0_ok an0 lp0 Try.func115 (by kernel_rfl) (by kernel_rfl) (lp0_ok (by kernel_rfl)) fun objs args b hx hp => ?_
  obtain ⟨rfl, rfl⟩ := dB_ok hx
  exact e72 b
def PreB (b : BS) (m n : Nat) : Prop := BSz b ∧ b.C.length + 2 * m ≤ 3000000 ∧ m < n
noncomputable instance (b : BS) (m n : Nat) : Decidable (PreB b m n) := Classical.propDecidable _
def i18 (a b c : Int) : R65 := ins3 18 a b c 0 0
def i17 (b : Int) : R65 := ins3 17 0 b 0 0 0
mutual
def blS : R114 → BS → BS
  | .mk k a to fi fr e b l, s => cond (decide (k = 4))
      (cond (decide ((l.length : Int) = 0)) (blL b (s.put a (i18 (s.v fr) (IntKind.i64.wrap (s.here + 1)) (IntKind.i64.wrap (IntKind.i64.wrap (s.here + 1) + szL b)))))
        (blL l ((blL b (s.put a (i18 (s.v fr) (IntKind.i64.wrap (s.here + 1)) (IntKind.i64.wrap (IntKind.i64.wrap (IntKind.i64.wrap (s.here + 1) + szL b) + 1))))).put a (i17 (IntKind.i64.wrap (IntKind.i64.wrap (IntKind.i64.wrap (IntKind.i64.wrap (s.here + 1) + szL b) + 1) + szL l))))))
      (cond (decide (k = 5)) ((blL b (s.put a (i18 (s.v fr) (IntKind.i64.wrap (s.here + 1)) (IntKind.i64.wrap (IntKind.i64.wrap (s.here + 2) + szL b))))).put a (i17 s.here)) (s.put a (s.one (.mk k a to fi fr e b l))))
def blL : List R114 → BS → BS
  | [], s => s
  | x :: l, s => blL l (blS x s)
end
noncomputable def sBlockB (n : Nat) : Spc U := .of dBL (fun (b, l) => PreB b (cntL l) n) (fun _ => []) fun (b, l) => (blL l b).tv
noncomputable def Ey (n : Nat) : FuncId → Option (Spc U)
  | 65 => some (sBlockB n)
  | 66 => some (sPut.wkA [.no, .no, wkI])
  | 115 => some sHere
  | 116 => some sSize
  | 117 => some sV
  | 118 => some sOne
  | _ => none
theorem Ey_ok {n : Nat} (h0 : SpecOk Try.prog 65 (sBlockB n)) : ∀ f S, Ey n f = some S → SpecOk Try.prog f S := fun f S h => by
  unfold Ey at h
  split at h
  · cases h; exact h0
  · cases h; exact sPut_ok.wkA _
  · cases h; exact sHere_ok
  · cases h; exact sSize_ok
  · cases h; exact sV_ok
  · cases h; exact sOne_ok
  · cases h
def an60 : Ann := ⟨fun | 0 => 54 | _ => 0, fun | 0 => 20 | _ => 0, fun _ => [], false⟩
def zB : TO U := .cells [nl, nl, nl, .v (.int .i64 0), nl, .v (.int .i64 0), .v (.int .i64 0), nl] false
def S60 (l : List R114) (b : BS) (v : Int) : TS U := mkS 116 [(1, .lst .t114 l), (2, .ref 0 0 0), (4, .ref 1 0 0), (5, .v (.int .i64 v))] [b.ob, zB] 0
def p4a (b : BS) (z : R114) : BS := b.put z.At (i18 (b.v z.From) (IntKind.i64.wrap (b.here + 1)) (IntKind.i64.wrap (IntKind.i64.wrap (b.here + 1) + szL z.Body)))
def p4b (b : BS) (z : R114) : BS := b.put z.At (i18 (b.v z.From) (IntKind.i64.wrap (b.here + 1)) (IntKind.i64.wrap (IntKind.i64.wrap (IntKind.i64.wrap (b.here + 1) + szL z.Body) + 1)))
def q4b (b : BS) (z : R114) : BS := (blL z.Body (p4b b z)).put z.At (i17 (IntKind.i64.wrap (IntKind.i64.wrap (IntKind.i64.wrap (IntKind.i64.wrap (b.here + 1) + szL z.Body) + 1) + szL z.Else)))
def p5 (b : BS) (z : R114) : BS := b.put z.At (i18 (b.v z.From) (IntKind.i64.wrap (b.here + 1)) (IntKind.i64.wrap (IntKind.i64.wrap (b.here + 2) + szL z.Body)))
def q5 (b : BS) (z : R114) : BS := (blL z.Body (p5 b z)).put z.At (i17 b.here)
theorem blS_eq (z : R114) (b : BS) : blS z b = cond (decide (z.Kind = 4)) (cond (decide ((z.Else.length : Int) = 0)) (blL z.Body (p4a b z)) (blL z.Else (q4b b z))) (cond (decide (z.Kind = 5)) (q5 b z) (b.put z.At (b.one z))) := by
  cases z
  rw [blS]
  rfl
def E60 (b : BS) : Exit × TS U := (.exit 0, mkS 116 [(2, .ref 0 0 0), (4, .ref 1 0 0)] [b.ob, zB] 0)
theorem r60 (n : Nat) (lp : Lp U) (N : Nat) (l : List R114) (b : BS) (v : Int) : fnLoop X (Ey n) an60 lp Try.f65 0 (N + 1) (S60 l b v) = cond (decide (v < (l.length : Int))) ((getI l v).bind fun z => if True then cond (decide (z.Kind = 4)) (if Sn (cntL z.Body) then cond (decide ((z.Else.length : Int) = 0)) (if Sn b.V.length then (if Sn b.C.length then (if PreB (p4a b z) (cntL z.Body) n then fnLoop X (Ey n) an60 lp Try.f65 0 N (S60 l (blL z.Body (p4a b z)) (IntKind.i64.wrap (v + 1))) else none) else none) else none) (if Sn b.V.length then (if Sn b.C.length then (if PreB (p4b b z) (cntL z.Body) n then (if Sn (cntL z.Else) then (if Sn (blL z.Body (p4b b z)).C.length then (if PreB (q4b b z) (cntL z.Else) n then fnLoop X (Ey n) an60 lp Try.f65 0 N (S60 l (blL z.Else (q4b b z)) (IntKind.i64.wrap (v + 1))) else none) else none) else none) else none) else none) else none) else none) (cond (decide (z.Kind = 5)) (if Sn b.V.length then (if Sn (cntL z.Body) then (if Sn b.C.length then (if PreB (p5 b z) (cntL z.Body) n then (if Sn (blL z.Body (p5 b z)).C.length then fnLoop X (Ey n) an60 lp Try.f65 0 N (S60 l (q5 b z) (IntKind.i64.wrap (v + 1))) else none) else none) else none) else none) else none) (if PreI b z.Expr.Args.length then (if Sn b.C.length then fnLoop X (Ey n) an60 lp Try.f65 0 N (S60 l (b.put z.At (b.one z)) (IntKind.i64.wrap (v + 1))) else none) else none)) else none) (some (E60 b)) := by kernel_rfl
/-- Only the instructions are others. -/
def BS.Lk (b d : BS) (n : Nat) : Prop := ∃ C, d = { b with C := C } ∧ C.length ≤ b.C.length + n
theorem BS.Lk.trans {b d e : BS} {n m : Nat} (h1 : b.Lk d n) (h2 : d.Lk e m) : b.Lk e (n + m) := by
  obtain ⟨C, rfl, hl⟩ := h1
  obtain ⟨D, rfl, hm⟩ := h2
  exact ⟨D, rfl, by dsimp only at hm; omega⟩
theorem BS.Lk.put (b : BS) (a : Int) (x : R65) : b.Lk (b.put a x) 1 := ⟨_, rfl, by simp⟩
theorem BS.Lk.mono {b d : BS} {n m : Nat} (h : b.Lk d n) (hnm : n ≤ m) : b.Lk d m := by
  obtain ⟨C, rfl, hl⟩ := h
  exact ⟨C, rfl, by omega⟩
theorem BS.Lk.bsz {b d : BS} {n : Nat} (h : b.Lk d n) (hs : BSz b) : BSz d := by obtain ⟨C, rfl, _⟩ := h; exact hs
theorem BS.Lk.len {b d : BS} {n : Nat} (h : b.Lk d n) : d.C.length ≤ b.C.length + n := by obtain ⟨C, rfl, h⟩ := h; exact h
mutual
theorem blS_lk : ∀ (z : R114) (b : BS), b.Lk (blS z b) (2 * cntS z)
  | .mk k a to fi fr e bd l, b => by
    have h1 := fun d => blL_lk bd d
    have h2 := fun d => blL_lk l d
    rw [cntS, blS]
    cases decide (k = 4) with
    | true =>
      cases decide ((l.length : Int) = 0) with
      | true => exact ((BS.Lk.put _ _ _).trans (h1 _)).mono (by omega)
      | false => exact ((((BS.Lk.put _ _ _).trans (h1 _)).trans (.put _ _ _)).trans (h2 _)).mono (by omega)
    | false =>
      cases decide (k = 5) with
      | true => exact (((BS.Lk.put _ _ _).trans (h1 _)).trans (.put _ _ _)).mono (by omega)
      | false => exact (BS.Lk.put _ _ _).mono (by omega)
theorem blL_lk : ∀ (l : List R114) (b : BS), b.Lk (blL l b) (2 * cntL l)
  | [], b => ⟨b.C, by rw [blL], Nat.le_add_right _ _⟩
  | x :: l, b => by
    rw [blL, cntL]
    exact ((blS_lk x b).trans (blL_lk l _)).mono (by omega)
end
theorem blL_fold : ∀ (l : List R114) (b : BS), blL l b = l.foldl (fun b z => blS z b) b
  | [], b => rfl
  | x :: l, b => by rw [blL, blL_fold l, List.foldl_cons]
theorem rounds60 {n : Nat} (lp : Lp U) (l : List R114) (b : BS) (hb : BSz b) (hl : b.C.length + 2 * cntL l ≤ 3000000) (hn : cntL l ≤ n) : fnLoop X (Ey n) an60 lp Try.f65 0 (l.length + 1) (S60 l b 0) = some (E60 (blL l b)) := by
  have hlen := cntL_len l
  rw [blL_fold, ← ixL_all]
  refine ixL_rounds (S60 l) E60 (fun d v => BSz d ∧ d.C.length + 2 * cntL (l.drop v.toNat) ≤ 3000000) (fun d v N hd h0 h1 => ?_) (fun d v N _ h0 h1 => by rw [r60, decide_eq_false h1]; rfl) l.length b 0 (Int.le_refl 0) (by omega) ⟨hb, hl⟩
  obtain ⟨z, hz, hz2⟩ := getI_lt h0 h1
  have hx : l[v.toNat]? = some l[v.toNat] := List.getElem?_eq_getElem (by omega)
  have hzz : l[v.toNat] = z := by rw [hz2] at hx; cases hx; rfl
  have hdr : l.drop v.toNat = l[v.toNat] :: l.drop (v.toNat + 1) := List.drop_eq_getElem_cons (by omega)
  have hw : IntKind.i64.wrap (v + 1) = v + 1 := wrap_i64 (by omega) (by omega)
  have hcz := cntL_at l v.toNat z hz2
  have hst : stepI l (fun b z => blS z b) d v = blS z d := by unfold stepI; rw [hz]
  obtain ⟨hs, hd2⟩ := hd
  rw [hdr, hzz, cntL] at hd2
  have hlk := blS_lk z d
  rw [hst]
  refine ⟨?_, hlk.bsz hs, by have := hlk.len; rw [show (v + 1).toNat = v.toNat + 1 by omega]; omega⟩
  rw [cntS_eq] at hcz hd2
  have k1 : d.Lk (p4a d z) 1 := .put _ _ _
  have k2 : d.Lk (p4b d z) 1 := .put _ _ _
  have k3 : d.Lk (q4b d z) (1 + 2 * cntL z.Body + 1) := (k2.trans (blL_lk z.Body _)).trans (.put _ _ _)
  have k4 : d.Lk (p5 d z) 1 := .put _ _ _
  have g1 : PreB (p4a d z) (cntL z.Body) n := ⟨k1.bsz hs, by have := k1.len; omega, by omega⟩
  have g2 : PreB (p4b d z) (cntL z.Body) n := ⟨k2.bsz hs, by have := k2.len; omega, by omega⟩
  have g3 : PreB (q4b d z) (cntL z.Else) n := ⟨k3.bsz hs, by have := k3.len; omega, by omega⟩
  have g4 : PreB (p5 d z) (cntL z.Body) n := ⟨k4.bsz hs, by have := k4.len; omega, by omega⟩
  have g5 : Sn (blL z.Body (p4b d z)).C.length := by have := (k2.trans (blL_lk z.Body _)).len; show _ ≤ _; omega
  have g6 : Sn (blL z.Body (p5 d z)).C.length := by have := (k4.trans (blL_lk z.Body _)).len; show _ ≤ _; omega
  have g7 : PreI d z.Expr.Args.length := ⟨hs, by show _ ≤ _; omega⟩
  have g8 : Sn d.C.length := by show _ ≤ _; omega
  have g9 : Sn (cntL z.Body) := by show _ ≤ _; omega
  have g10 : Sn (cntL z.Else) := by show _ ≤ _; omega
  rw [r60, decide_eq_true h1, hz, hw, cond_true, Option.bind_some]
  simp only [hs.2.2.2, g1, g2, g3, g4, g5, g6, g7, g8, g9, g10, if_true]
  rw [blS_eq]
  cases decide (z.Kind = 4) with
  | true => cases decide ((z.Else.length : Int) = 0) <;> rfl
  | false => cases decide (z.Kind = 5) <;> rfl
def d60 (s : TS U) : Option (BS × Int × Int × Int × List R114 × Int) := match told s 116 [1, 2, 4, 5] 0, s.objs with
  | some [a0, a1, a2, a3], [o0, o1] =>
    match o0 with
    | .cells [q0, q1, q2, q3, q4, q5, q6, q7] false =>
      match q0 with
      | .lst .t82 b_G =>
        match q1 with
        | .lst .t82 b_F =>
          match q2 with
          | .lst .t90 b_N =>
            match q3 with
            | .v (.int .i64 b_Fn) =>
              match q4 with
              | .lst .t82 b_V =>
                match q5 with
                | .v (.int .i64 b_Base) =>
                  match q6 with
                  | .v (.int .i64 b_First) =>
                    match q7 with
                    | .lst .t65 b_C =>
                      match o1 with
                      | .cells [q8, q9, q10, q11, q12, q13, q14, q15] false =>
                        match q8 with
                        | .v (.slice none 0 0) =>
                          match q9 with
                          | .v (.slice none 0 0) =>
                            match q10 with
                            | .v (.slice none 0 0) =>
                              match q11 with
                              | .v (.int .i64 z1) =>
                                match q12 with
                                | .v (.slice none 0 0) =>
                                  match q13 with
                                  | .v (.int .i64 z2) =>
                                    match q14 with
                                    | .v (.int .i64 z3) =>
                                      match q15 with
                                      | .v (.slice none 0 0) =>
                                        match a0 with
                                        | .lst .t114 l =>
                                          match a1 with
                                          | .ref 0 0 0 =>
                                            match a2 with
                                            | .ref 1 0 0 =>
                                              match a3 with
                                              | .v (.int .i64 v) =>
                                                some ((⟨b_G, b_F, b_N, b_Fn, b_V, b_Base, b_First, b_C⟩ : BS), z1, z2, z3, l, v)
                                              | _ => none
                                            | _ => none
                                          | _ => none
                                        | _ => none
                                      | _ => none
                                    | _ => none
                                  | _ => none
                                | _ => none
                              | _ => none
                            | _ => none
                          | _ => none
                        | _ => none
                      | _ => none
                    | _ => none
                  | _ => none
                | _ => none
              | _ => none
            | _ => none
          | _ => none
        | _ => none
      | _ => none
    | _ => none
  | _, _ => none
theorem d60_ok {s : TS U} {b : BS} {z1 : Int} {z2 : Int} {z3 : Int} {l : List R114} {v : Int} (h : d60 s = some (b, z1, z2, z3, l, v)) : s = mkS (U := U) 116 ([1, 2, 4, 5].zip ([.lst .t114 l, .ref 0 0 0, .ref 1 0 0, .v (.int .i64 v)] : List (TV U))) ([b.ob, .cells [.v (.slice none 0 0), .v (.slice none 0 0), .v (.slice none 0 0), .v (.int .i64 z1), .v (.slice none 0 0), .v (.int .i64 z2), .v (.int .i64 z3), .v (.slice none 0 0)] false] : List (TO U)) 0 := by
  unfold d60 at h
  split at h <;> try (cases h; done)
  rename_i ht ho
  have hs := told_ok ht
  rw [ho] at hs
  repeat' split at h
  all_goals first | (cases h; done) | (cases h; exact hs)
def Pre60 (b : BS) (m n : Nat) (v z1 z2 z3 : Int) : Prop := (BSz b ∧ b.C.length + 2 * m ≤ 3000000 ∧ m ≤ n) ∧ v = 0 ∧ z1 = 0 ∧ z2 = 0 ∧ z3 = 0
noncomputable instance (b : BS) (m n : Nat) (v z1 z2 z3 : Int) : Decidable (Pre60 b m n v z1 z2 z3) := Classical.propDecidable _
noncomputable def lc60 (n : Nat) : LC U := .of d60 (fun (b, z1, z2, z3, l, v) => Pre60 b (cntL l) n v z1 z2 z3) (.exit 0) (fun (b, z1, z2, z3, l, v) => (E60 (blL l b)).2)
noncomputable def lp60 (n : Nat) : Lp U := lpL [(0, lc60 n)]
theorem lp60_ok (n : Nat) : ∀ c, Try.f65.body = some c → LpOk X (Ey n) an60 (lp60 n) (loops c 0) := lpL_ok (by kernel_rfl) fun b L hm st p hs => by
  cases hm with
  | tail _ h => cases h
  | head =>
    obtain ⟨⟨b, z1, z2, z3, l, v⟩, hx, ⟨⟨h1, h2, h3⟩, rfl, rfl, rfl, rfl⟩, rfl⟩ := LC.of_some hs
    obtain rfl := d60_ok hx
    exact ⟨_, rounds60 _ l b h1 h2 h3⟩
theorem e60 (n : Nat) (b : BS) (l : List R114) : (evFn X (Ey n) an60 (lp60 n) Try.f65 [] [b.tv, TV.lst C.t114 l] fun (o : List (TO X.U)) (v : TV X.U) => some (o, v)) = if Pre60 b (cntL l) n 0 0 0 0 then some ([], (blL l b).tv) else none := by kernel_rfl
def lpF60 : Lp U := lpL [(0, .of d60 (fun _ => False) .ret (fun _ => mkS 0 [] [] 0))]
theorem lpF60_ok : ∀ c, Try.f65.body = some c → LpOk X (fun _ => none) an60 lpF60 (loops c 0) := lpL_ok (by kernel_rfl) fun b L hm st p hs => by
  cases hm with
  | tail _ h => cases h
  | head =>
    obtain ⟨_, _, h, _⟩ := LC.of_some hs
    exact absurd h id
theorem blockB_lt : ∀ n : Nat, SpecOk Try.prog 65 (sBlockB n)
  | 0 => by
    refine fn_ok X_ok mixed E0_ok an60 lpF60 Try.func65 (by kernel_rfl) (by kernel_rfl) lpF60_ok fun objs args x hx h => ?_
    exact absurd h.2.2 (Nat.not_lt_zero _)
  | n + 1 => by
    refine fn_ok X_ok mixed (Ey_ok (blockB_lt n)) an60 (lp60 n) Try.func65 (by kernel_rfl) (by kernel_rfl) (lp60_ok n) fun objs args x hx hp => ?_
    obtain ⟨b, l⟩ := x
    obtain ⟨rfl, rfl⟩ := dBL_ok hx
    obtain ⟨h1, h2, h3⟩ := hp
    dsimp only at h1 h2 h3 ⊢
    have h4 : Pre60 b (cntL l) n 0 0 0 0 := ⟨⟨h1, h2, by omega⟩, rfl, rfl, rfl, rfl⟩
    rw [e60, if_pos h4]
def PreBl (b : BS) (m : Nat) : Prop := BSz b ∧ b.C.length + 2 * m ≤ 3000000
noncomputable instance (b : BS) (m : Nat) : Decidable (PreBl b m) := Classical.propDecidable _
noncomputable def sBlB : Spc U := .of dBL (fun (b, l) => PreBl b (cntL l)) (fun _ => []) fun (b, l) => (blL l b).tv
theorem sBlB_ok : SpecOk Try.prog 65 sBlB := SpecOk.lim (fun x => cntL x.2) fun n => by
  refine SpecOk.of (blockB_lt n) fun objs args x hp hx => ?_
  unfold sBlockB Spc.of
  dsimp only
  rw [hp]
  dsimp only
  rw [if_pos ⟨hx.1.1, hx.1.2, hx.2⟩]
end Go.Proofs.Ytpkgikchphgfaaa.Fl
/- Loops that come to what they come to. -/
namespace Go.Proofs.Ytpkgikchphgfaaa.Eng
open Go Go.RowKit
set_option linter.unusedVariables false
theorem lpL_path {U : Univ} {l : List (Nat × LC U)} : ∀ (b : Nat) (s : TS U) (R : Type) (K : Exit → TS U → Option R) (r : R), (lpL l).F b s K = some r → ∃ ex s', K ex s' = some r ∧ ∀ {R' : Type} (K' : Exit → TS U → Option R'), (lpL l).F b s K' = K' ex s' := fun b s R K r h' => by
  obtain ⟨L, hL, h1, h2⟩ := lpLF_some h'
  obtain ⟨ex, s', hk, hall⟩ := L.path s K r h1
  exact ⟨ex, s', hk, fun K' => by show lpLF l b s K' = _; rw [h2]; exact hall K'⟩
section
variable {P : Program} {X : Cx} {E : FuncId → Option (Spc X.U)}
theorem fnLoop_more (hE : ∀ f S, E f = some S → SpecOk P f S) {an : Ann} {l : List (Nat × LC X.U)} {fn : Func} {b : Nat} : ∀ (n : Nat) (s : TS X.U) (p : Exit × TS X.U), fnLoop X E an (lpL l) fn b n s = some p → ∀ m, n ≤ m → fnLoop X E an (lpL l) fn b m s = some p := by
  intro n
  induction n with
  | zero => intro s p h; cases h
  | succ n ih =>
    intro s p h m hm
    obtain ⟨m, rfl⟩ : ∃ k, m = k + 1 := ⟨m - 1, by omega⟩
    rw [fnLoop_succ] at h ⊢
    obtain ⟨ex, s', hk, hp⟩ := evC_path hE lpL_path h
    rw [hp]
    cases ex with
    | normal =>
      dsimp only at hk ⊢
      cases hn : evNorm (an.live b) s' with
      | none => rw [hn] at hk; cases hk
      | some s1 =>
        rw [hn] at hk
        exact ih s1 p hk m (by omega)
    | _ => exact hk
theorem fnLoop_det (hE : ∀ f S, E f = some S → SpecOk P f S) {an : Ann} {l : List (Nat × LC X.U)} {fn : Func} {b n m : Nat} {s : TS X.U} {p q : Exit × TS X.U} (h1 : fnLoop X E an (lpL l) fn b n s = some p) (h2 : fnLoop X E an (lpL l) fn b m s = some q) : p = q := by
  have a := fnLoop_more hE n s p h1 (max n m) (Nat.le_max_left _ _)
  have b := fnLoop_more hE m s q h2 (max n m) (Nat.le_max_right _ _)
  rw [a] at b
  exact Option.some.inj b
open Classical in
/-- A loop, by what its rounds come to. -/
noncomputable def LC.run (X : Cx) (E : FuncId → Option (Spc X.U)) (an : Ann) (l : List (Nat × LC X.U)) (fn : Func) (b : Nat) : LC X.U := ⟨fun s K => if h : ∃ p, ∃ n, fnLoop X E an (lpL l) fn b n s = some p then K h.choose.1 h.choose.2 else none, fun s K r hr => by
  split at hr <;> try (cases hr; done)
  rename_i h
  exact ⟨_, _, hr, fun K' => dif_pos h⟩⟩
theorem run_F (hE : ∀ f S, E f = some S → SpecOk P f S) {an : Ann} {l : List (Nat × LC X.U)} {fn : Func} {b n : Nat} {s : TS X.U} {p : Exit × TS X.U} (h : fnLoop X E an (lpL l) fn b n s = some p) {R : Type} (K : Exit → TS X.U → Option R) : (LC.run X E an l fn b).F s K = K p.1 p.2 := by
  have hx : ∃ p, ∃ n, fnLoop X E an (lpL l) fn b n s = some p := ⟨p, n, h⟩
  unfold LC.run
  dsimp only
  rw [dif_pos hx]
  obtain ⟨m, hm⟩ := hx.choose_spec
  rw [fnLoop_det hE h hm]
theorem run_ok {an : Ann} {l l' : List (Nat × LC X.U)} {fn : Func} {b : Nat} (hag : ∀ q ∈ loops (loopAt fn b) b, ∀ (s : TS X.U) (K : Exit → TS X.U → Option (Exit × TS X.U)), (lpL l).F q.1 s K = (lpL l').F q.1 s K) {s : TS X.U} {p : Exit × TS X.U} (hs : (LC.run X E an l fn b).F s (fun e s => some (e, s)) = some p) : ∃ m, fnLoop X E an (lpL l') fn b m s = some p := by
  unfold LC.run at hs
  dsimp only at hs
  split at hs <;> try (cases hs; done)
  rename_i hx
  cases hs
  obtain ⟨m, hm⟩ := hx.choose_spec
  refine ⟨m, ?_⟩
  rw [← hm]
  unfold fnLoop
  rw [← loopK_R (X := X) (E := E) (lp := lpL l') (lp' := lpL l') (fun q hq s K => rfl), ← loopK_R (X := X) (E := E) (lp := lpL l') (lp' := lpL l) (fun q hq s K => (hag q hq s K).symm)]
/-- By the names of the blocks. -/
theorem ag_of {U : Univ} {l l' : List (Nat × LC U)} {c : Code} {b : Nat} {bs : List Nat} (hb : (loops c b).map (·.1) = bs) (h : ∀ i ∈ bs, ∀ {R : Type} (s : TS U) (K : Exit → TS U → Option R), (lpL l).F i s K = (lpL l').F i s K) {R : Type} : ∀ q ∈ loops c b, ∀ (s : TS U) (K : Exit → TS U → Option R), (lpL l).F q.1 s K = (lpL l').F q.1 s K := fun q hq s K => h q.1 (by rw [← hb]; exact List.mem_map.2 ⟨q, hq, rfl⟩) s K
/-- A loop that stands in code. -/
theorem evC_loop {an : Ann} {lp : Lp X.U} {x : Code} {b : Nat} {s : TS X.U} {R : Type} {K : Exit → TS X.U → Option R} : evC X E an lp (.loop x) b s K = match evNorm (an.live b) s with
    | some s1 => lp.F b s1 K
    | none => none := rfl
end
end Go.Proofs.Ytpkgikchphgfaaa.Eng
/- The references' instructions: of a program. -/
namespace Go.Proofs.Ytpkgikchphgfaaa.Fl
open Go Go.RowKit Go.Proofs.Ytpkgikchphgfaaa.Eng
set_option linter.unusedVariables false
set_option linter.unusedSimpArgs false
set_option maxRecDepth 20000
def wB : Lw U := .a [.no, .no, .no, .no, .no, .no, .no, .l .t65]
noncomputable def Ez : FuncId → Option (Spc U)
  | 65 => some (sBlB.wkA [wB])
  | 66 => some (sPut.wkA [.no, .no, wkI])
  | _ => none
theorem Ez_ok : ∀ f S, Ez f = some S → SpecOk Try.prog f S := fun f S h => by
  unfold Ez at h
  split at h
  · cases h; exact sBlB_ok.wkA _
  · cases h; exact sPut_ok.wkA _
  · cases h
def an36 : Ann := ⟨fun | 0 => 30 | 2 => 46 | 4 => 78 | 6 => 1998 | 8 => 3022 | 1011 => 9007199254741070 | 1012 => 78 | 1013 => 206 | 1015 => 462 | 1016 => 974 | 1017 => 1998 | 1021 => 3022 | 1025 => 718 | 1026 => 718 | 1027 => 206 | 1028 => 89202980794122492566142873090593446023921742 | 1029 => 78 | _ => 0, fun | 0 => 14 | 2 => 14 | 4 => 12 | 6 => 974 | 8 => 974 | _ => 0, fun | 15 => [69] | 27 => [1009] | _ => [], false⟩
/-- A program's instructions. -/
structure IRs where
  G : List Int
  F : List Int
  V : List Int
  Fs : List R69
  C : List R65
  Main : Int
def rw69 : List R69 → List (TO U)
  | [] => []
  | x :: l => [.row .t69 (x :: l) false]
def rw65 : List R65 → List (TO U)
  | [] => []
  | x :: l => [.row .t65 (x :: l) false]
def irN (o : IRs) : Nat := 3 + nne o.G + nne o.F + nne o.V + nne o.Fs + nne o.C
def irO (o : IRs) : TO U := .cells [nvl o.G 3, nvl o.F (3 + nne o.G), nvl o.V (3 + nne o.G + nne o.F), nvl o.Fs (3 + nne o.G + nne o.F + nne o.V), nvl o.C (3 + nne o.G + nne o.F + nne o.V + nne o.Fs), .v (.int .i64 o.Main)] false
def irR (o : IRs) : List (TO U) := rwI o.G ++ (rwI o.F ++ (rwI o.V ++ (rw69 o.Fs ++ rw65 o.C)))
def z26 : TO U := .cells [nl, nl, nl, nl, nl, .v (.int .i64 0)] false
def S36 (t : TR) (o : IRs) (k : Nat) (v : Int) : TS U := mkS 150 [(1, .ref 0 0 0), (2, .ref 1 0 0), (3, .ref 2 0 0), (k, .v (.int .i64 v))] ([t.ob, z26, irO o] ++ irR o) 0
def E36 (t : TR) (o : IRs) : TS U := mkS 150 [(1, .ref 0 0 0), (2, .ref 1 0 0), (3, .ref 2 0 0)] ([t.ob, z26, irO o] ++ irR o) 0
def E36' (o : IRs) : TS U := mkS 150 [(2, .ref 0 0 0), (3, .ref 1 0 0)] ([z26, .cells [nvl o.G 2, nvl o.F (2 + nne o.G), nvl o.V (2 + nne o.G + nne o.F), nvl o.Fs (2 + nne o.G + nne o.F + nne o.V), nvl o.C (2 + nne o.G + nne o.F + nne o.V + nne o.Fs), .v (.int .i64 o.Main)] false] ++ irR o) 0
/-! ### Globals, fields -/
theorem r36a (lp : Lp U) (N : Nat) (t : TR) (g : List Int) (v : Int) : fnLoop X Ez an36 lp Try.f29 0 (N + 1) (S36 t ⟨g, [], [], [], [], 0⟩ 4 v) = cond (decide (v < (t.G.length : Int))) ((getI t.G v).bind fun z => if (g.length + 1) * 8 ≤ 140737488355328 then fnLoop X Ez an36 lp Try.f29 0 N (S36 t ⟨g ++ [z.Type_], [], [], [], [], 0⟩ 4 (IntKind.i64.wrap (v + 1))) else none) (some (.exit 0, E36 t ⟨g, [], [], [], [], 0⟩)) := by cases g <;> kernel_rfl
theorem r36b (lp : Lp U) (N : Nat) (t : TR) (g f : List Int) (v : Int) : fnLoop X Ez an36 lp Try.f29 2 (N + 1) (S36 t ⟨g, f, [], [], [], 0⟩ 5 v) = cond (decide (v < (t.F.length : Int))) ((getI t.F v).bind fun z => if (f.length + 1) * 8 ≤ 140737488355328 then fnLoop X Ez an36 lp Try.f29 2 N (S36 t ⟨g, f ++ [z.Type_], [], [], [], 0⟩ 5 (IntKind.i64.wrap (v + 1))) else none) (some (.exit 2, E36 t ⟨g, f, [], [], [], 0⟩)) := by cases g <;> cases f <;> kernel_rfl
noncomputable def L4 : Code := loopAt Try.f29 4
noncomputable def B5 : Code := bB (sL (sR L4))
noncomputable def C16 : Code := sR (sR (sR (sR B5)))
def xO (nm : ByteArray) (ps : List Int) (r f l : Int) (k : Nat) : TO U := .cells [.v (.string nm), nvl ps k, .v (.int .i64 r), .v (.int .i64 f), .v (.int .i64 l)] false
def S36c (t : TR) (o : IRs) (v : Int) (z : R90) (b : BS) (ps : List Int) (f : Int) (l : List (Nat × TV U)) : TS U := mkS 150 ([(1, .ref 0 0 0), (2, .ref 1 0 0), (3, .ref 2 0 0), (6, .v (.int .i64 v)), (7, .ref (irN o) 0 0), (8, .ref (irN o + 1) 0 0), (9, .ref (irN o + 2) 0 0)] ++ l) ([t.ob, z26, irO o] ++ (irR o ++ ([z.ob, b.ob, xO z.Name ps z.Ret f 0 (irN o + 3)] ++ rwI ps))) 0
def lb0 (t : TR) (o : IRs) (v : Int) (z : R90) : BS := ⟨t.G, t.F, t.N, v, [] ++ z.Params ++ z.Vars, o.V.length, o.C.length, []⟩
def lb1 (t : TR) (o : IRs) (v : Int) (z : R90) : BS := (blL z.Body (lb0 t o v z)).put z.At (ins3 16 (-1) 0 0 0 0)
noncomputable def C25 : Code := sR (sR C16)
theorem hL4 : L4 = .seq (sL L4) (.seq (.block 5 B5) (sR (sR L4))) := by kernel_rfl
theorem hC16 : C16 = .seq (.seq (sL (sL C16)) (.block 6 (.loop (loopAt Try.f29 6)))) (.seq (.seq (sL (sL (sR C16))) (.block 8 (.loop (loopAt Try.f29 8)))) C25) := by kernel_rfl
def S36e (t : TR) (o : IRs) (v : Int) (z : R90) (ps : List Int) (f l : Int) : TS U := mkS 150 [(1, .ref 0 0 0), (2, .ref 1 0 0), (3, .ref 2 0 0), (6, .v (.int .i64 v)), (7, .ref (irN o) 0 0), (9, .ref (irN o + 1) 0 0)] ([t.ob, z26, irO o] ++ (irR o ++ ([z.ob, xO z.Name ps z.Ret f l (irN o + 2)] ++ rwI ps))) 0
def S36f (t : TR) (o : IRs) (v : Int) (z : R90) : TS U := mkS 150 [(1, .ref 0 0 0), (2, .ref 1 0 0), (3, .ref 2 0 0), (6, .v (.int .i64 v)), (7, .ref (irN o) 0 0)] ([t.ob, z26, irO o] ++ (irR o ++ [z.ob])) 0
def S36h (t : TR) (o : IRs) (v : Int) (b : Bool) : TS U := mkS 150 [(1, .ref 0 0 0), (2, .ref 1 0 0), (3, .ref 2 0 0), (6, .v (.int .i64 v)), (53, .v (.bool b))] ([t.ob, z26, irO o] ++ irR o) 0
def S36g (t : TR) (o : IRs) (v : Int) : TS U := mkS 150 [(1, .ref 0 0 0), (2, .ref 1 0 0), (3, .ref 2 0 0), (6, .v (.int .i64 v)), (146, .v (.bool false))] ([t.ob, z26, irO o] ++ irR o) 0
theorem hC25 : C25 = .seq (sL C25) (.seq (sL (sR C25)) (.seq (sL (sR (sR C25))) (sR (sR (sR C25))))) := by kernel_rfl
theorem if_eq {α : Type} {c : Prop} [Decidable c] {a x : α} {b : α} (h : x = if c then a else b) (hc : c) : x = a := h.trans (if_pos hc)
end Go.Proofs.Ytpkgikchphgfaaa.Fl

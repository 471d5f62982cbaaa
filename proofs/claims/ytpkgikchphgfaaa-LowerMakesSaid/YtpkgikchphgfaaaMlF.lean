/- Texts of this claim, put together: part 6. -/
import Derived.Test.YtpkgikchphgfaaaMlE
/- The references' parser: steps, told by where one stands. -/
namespace Go.Proofs.Ytpkgikchphgfaaa.Fl
open Go Go.RowKit Go.Proofs.Ytpkgikchphgfaaa.Eng
set_option linter.unusedVariables false
set_option linter.unusedSimpArgs false
set_option maxRecDepth 20000
def PS.is (p : PS) (s : ByteArray) : Bool := decide (3 ≤ p.now.Kind) && List.instBEq.1 p.now.S.toList s.toList
noncomputable def Eb : FuncId → Option (Spc U)
  | 42 => some sNow
  | _ => none
theorem Eb_ok : ∀ f S, Eb f = some S → SpecOk Try.prog f S := fun f S h => by
  unfold Eb at h
  split at h
  · cases h; exact sNow_ok
  · cases h
theorem e49 (p : PS) (s : ByteArray) : evFn X Eb an0 lp0 Try.f43 [] [p.tv, .v (.string s)] (fun o v => some (o, v)) = if p.Ok then cond (decide (3 ≤ p.now.Kind)) (if p.Ok then some ([], .v (.bool (List.instBEq.1 p.now.S.toList s.toList))) else none) (some ([], .v (.bool false))) else none := by kernel_rfl
def dPs0 (objs : List (TO U)) (args : List (TV U)) : Option (List R53 × Int × Int × Int × Int × Int × ByteArray) := match objs, args with
  | [], [a0, a1] =>
    match a0 with
    | .agg [q0, q1, q2, q3, q4, q5] =>
      match q0 with
      | .lst .t53 l =>
        match q1 with
        | .v (.int .i64 p) =>
          match q2 with
          | .v (.int .i64 d) =>
            match q3 with
            | .v (.int .i64 m) =>
              match q4 with
              | .v (.int .i64 c) =>
                match q5 with
                | .v (.int .i64 f) =>
                  match a1 with
                  | .v (.string s) =>
                    some (l, p, d, m, c, f, s)
                  | _ => none
                | _ => none
              | _ => none
            | _ => none
          | _ => none
        | _ => none
      | _ => none
    | _ => none
  | _, _ => none
theorem dPs0_ok {objs : List (TO U)} {args : List (TV U)} {l : List R53} {p : Int} {d : Int} {m : Int} {c : Int} {f : Int} {s : ByteArray} (h : dPs0 objs args = some (l, p, d, m, c, f, s)) : objs = [] ∧ args = [.agg [.lst .t53 l, .v (.int .i64 p), .v (.int .i64 d), .v (.int .i64 m), .v (.int .i64 c), .v (.int .i64 f)], .v (.string s)] := by
  unfold dPs0 at h
  repeat' split at h
  all_goals first | (cases h; done) | (cases h; exact ⟨rfl, rfl⟩)
def dPs (objs : List (TO U)) (args : List (TV U)) : Option (PS × ByteArray) := (dPs0 objs args).map fun (l, p, d, m, c, f, s) => (⟨l, p, d, m, c, f⟩, s)
theorem dPs_ok {objs : List (TO U)} {args : List (TV U)} {x : PS × ByteArray} (h : dPs objs args = some x) : objs = [] ∧ args = [x.1.tv, .v (.string x.2)] := by
  unfold dPs at h
  rw [Option.map_eq_some_iff] at h
  obtain ⟨⟨l, a, d, m, c, f, s⟩, h1, rfl⟩ := h
  exact dPs0_ok h1
noncomputable def sIs : Spc U := .of dPs (fun x => x.1.Ok) (fun _ => []) fun x => .v (.bool (x.1.is x.2))
theorem sIs_ok : SpecOk Try.prog 43 sIs := by
  refine fn_ok X_ok mixed Eb_ok an0 lp0 Try.func43 (by kernel_rfl) (by kernel_rfl) (lp0_ok (by kernel_rfl)) fun objs args x hx hp => ?_
  obtain ⟨p, s⟩ := x
  obtain ⟨rfl, rfl⟩ := dPs_ok hx
  dsimp only at hp ⊢
  rw [e49, if_pos hp, if_pos hp]
  unfold PS.is
  cases decide (3 ≤ p.now.Kind) <;> rfl
theorem e50 (p : PS) : evFn X Eb an0 lp0 Try.f44 [] [p.tv] (fun o v => some (o, v)) = cond (decide (p.Code = 0)) (if p.Ok then cond (!decide (p.now.Kind = 0)) (some ([], pv p.L (IntKind.i64.wrap (p.At + 1)) p.Deep p.Many p.Code p.FAt)) (some ([], p.tv)) else none) (some ([], p.tv)) := by kernel_rfl
noncomputable def sNext : Spc U := .of dP (fun p => p.Ok) (fun _ => []) fun p => p.next.tv
theorem sNext_ok : SpecOk Try.prog 44 sNext := by
  refine fn_ok X_ok mixed Eb_ok an0 lp0 Try.func44 (by kernel_rfl) (by kernel_rfl) (lp0_ok (by kernel_rfl)) fun objs args p hx hp => ?_
  obtain ⟨rfl, rfl⟩ := dP_ok hx
  dsimp only at hp ⊢
  rw [e50, if_pos hp]
  unfold PS.next
  by_cases hc : p.Code = 0
  · obtain ⟨h0, h1⟩ := hp.here hc
    have hl := hp.len
    have hw : IntKind.i64.wrap (p.At + 1) = p.At + 1 := wrap_i64 (by omega) (by omega)
    by_cases hk : p.now.Kind = 0
    · simp only [hc, hk, decide_true, cond_true, Bool.not_true, cond_false]
      rw [if_neg (fun h => h.2 rfl)]
    · rw [hw, if_pos ⟨hc, hk⟩]
      simp only [hc, hk, decide_true, decide_false, cond_true, Bool.not_false]
      rfl
  · rw [if_neg (fun h => hc h.1)]
    simp only [hc, decide_false, cond_false]
end Go.Proofs.Ytpkgikchphgfaaa.Fl
/- The references' parser: flaws. -/
namespace Go.Proofs.Ytpkgikchphgfaaa.Fl
open Go Go.RowKit Go.Proofs.Ytpkgikchphgfaaa.Eng
set_option linter.unusedVariables false
set_option linter.unusedSimpArgs false
set_option maxRecDepth 20000
theorem e55 (p : PS) (c a : Int) : evFn X (fun _ => none) an0 lp0 Try.f49 [] [p.tv, .v (.int .i64 c), .v (.int .i64 a)] (fun o v => some (o, v)) = cond (decide (p.Code = 0)) (some ([], pv p.L p.At p.Deep p.Many c a)) (some ([], p.tv)) := by kernel_rfl
def dPii0 (objs : List (TO U)) (args : List (TV U)) : Option (List R53 × Int × Int × Int × Int × Int × Int × Int) := match objs, args with
  | [], [a0, a1, a2] =>
    match a0 with
    | .agg [q0, q1, q2, q3, q4, q5] =>
      match q0 with
      | .lst .t53 l =>
        match q1 with
        | .v (.int .i64 p) =>
          match q2 with
          | .v (.int .i64 d) =>
            match q3 with
            | .v (.int .i64 m) =>
              match q4 with
              | .v (.int .i64 c) =>
                match q5 with
                | .v (.int .i64 f) =>
                  match a1 with
                  | .v (.int .i64 a) =>
                    match a2 with
                    | .v (.int .i64 b) =>
                      some (l, p, d, m, c, f, a, b)
                    | _ => none
                  | _ => none
                | _ => none
              | _ => none
            | _ => none
          | _ => none
        | _ => none
      | _ => none
    | _ => none
  | _, _ => none
theorem dPii0_ok {objs : List (TO U)} {args : List (TV U)} {l : List R53} {p : Int} {d : Int} {m : Int} {c : Int} {f : Int} {a : Int} {b : Int} (h : dPii0 objs args = some (l, p, d, m, c, f, a, b)) : objs = [] ∧ args = [.agg [.lst .t53 l, .v (.int .i64 p), .v (.int .i64 d), .v (.int .i64 m), .v (.int .i64 c), .v (.int .i64 f)], .v (.int .i64 a), .v (.int .i64 b)] := by
  unfold dPii0 at h
  repeat' split at h
  all_goals first | (cases h; done) | (cases h; exact ⟨rfl, rfl⟩)
def dPii (objs : List (TO U)) (args : List (TV U)) : Option (PS × Int × Int) := (dPii0 objs args).map fun (l, p, d, m, c, f, a, b) => (⟨l, p, d, m, c, f⟩, a, b)
theorem dPii_ok {objs : List (TO U)} {args : List (TV U)} {x : PS × Int × Int} (h : dPii objs args = some x) : objs = [] ∧ args = [x.1.tv, .v (.int .i64 x.2.1), .v (.int .i64 x.2.2)] := by
  unfold dPii at h
  rw [Option.map_eq_some_iff] at h
  obtain ⟨⟨l, p, d, m, c, f, a, b⟩, h1, rfl⟩ := h
  exact dPii0_ok h1
def sFail : Spc U := .of dPii (fun x => True) (fun _ => []) fun x => (x.1.fail x.2.1 x.2.2).tv
theorem sFail_ok : SpecOk Try.prog 49 sFail := by
  refine fn_ok X_ok mixed E0_ok an0 lp0 Try.func49 (by kernel_rfl) (by kernel_rfl) (lp0_ok (by kernel_rfl)) fun objs args x hx hp => ?_
  obtain ⟨p, c, a⟩ := x
  obtain ⟨rfl, rfl⟩ := dPii_ok hx
  dsimp only
  rw [e55]
  unfold PS.fail
  by_cases hc : p.Code = 0
  · rw [if_pos hc]
    simp only [hc, decide_true, cond_true]
    rfl
  · rw [if_neg hc]
    simp only [hc, decide_false, cond_false]
noncomputable def Ec : FuncId → Option (Spc U)
  | 42 => some sNow
  | 43 => some sIs
  | 44 => some sNext
  | 49 => some sFail
  | _ => none
theorem Ec_ok : ∀ f S, Ec f = some S → SpecOk Try.prog f S := fun f S h => by
  unfold Ec at h
  split at h
  · cases h; exact sNow_ok
  · cases h; exact sIs_ok
  · cases h; exact sNext_ok
  · cases h; exact sFail_ok
  · cases h
def PS.most (p : PS) (n most : Int) : PS := if most ≤ n then p.fail 184 p.now.At else p
theorem e51 (p : PS) (n m : Int) : evFn X Ec an0 lp0 Try.f45 [] [p.tv, .v (.int .i64 n), .v (.int .i64 m)] (fun o v => some (o, v)) = cond (decide (m ≤ n)) (if p.Ok then some ([], (p.fail 184 p.now.At).tv) else none) (some ([], p.tv)) := by kernel_rfl
noncomputable def sMost : Spc U := .of dPii (fun x => x.1.Ok) (fun _ => []) fun x => (x.1.most x.2.1 x.2.2).tv
theorem sMost_ok : SpecOk Try.prog 45 sMost := by
  refine fn_ok X_ok mixed Ec_ok an0 lp0 Try.func45 (by kernel_rfl) (by kernel_rfl) (lp0_ok (by kernel_rfl)) fun objs args x hx hp => ?_
  obtain ⟨p, n, m⟩ := x
  obtain ⟨rfl, rfl⟩ := dPii_ok hx
  dsimp only at hp ⊢
  rw [e51, if_pos hp]
  unfold PS.most
  by_cases hc : m ≤ n <;> simp [hc]
def PS.must (p : PS) (s : ByteArray) : PS := if p.is s then p.next else p.fail 181 p.now.At
theorem e53 (p : PS) (s : ByteArray) : evFn X Ec an0 lp0 Try.f47 [] [p.tv, .v (.string s)] (fun o v => some (o, v)) = if p.Ok then cond (p.is s) (if p.Ok then some ([], p.next.tv) else none) (if p.Ok then some ([], (p.fail 181 p.now.At).tv) else none) else none := by kernel_rfl
noncomputable def sMust : Spc U := .of dPs (fun x => x.1.Ok) (fun _ => []) fun x => (x.1.must x.2).tv
theorem sMust_ok : SpecOk Try.prog 47 sMust := by
  refine fn_ok X_ok mixed Ec_ok an0 lp0 Try.func47 (by kernel_rfl) (by kernel_rfl) (lp0_ok (by kernel_rfl)) fun objs args x hx hp => ?_
  obtain ⟨p, s⟩ := x
  obtain ⟨rfl, rfl⟩ := dPs_ok hx
  dsimp only at hp ⊢
  rw [e53, if_pos hp, if_pos hp, if_pos hp]
  unfold PS.must
  cases p.is s <;> rfl
end Go.Proofs.Ytpkgikchphgfaaa.Fl
/- The references' parser: names. -/
namespace Go.Proofs.Ytpkgikchphgfaaa.Fl
open Go Go.RowKit Go.Proofs.Ytpkgikchphgfaaa.Eng
set_option linter.unusedVariables false
set_option linter.unusedSimpArgs false
set_option maxRecDepth 20000
/-- Behind a name; it. -/
def PS.name (p : PS) : PS × ByteArray := if p.now.Kind = 1 then (p.next, p.now.S) else (p.fail 181 p.now.At, ⟨#[]⟩)
theorem e63 (p : PS) : evFn X Ec an0 lp0 Try.f95 [] [p.tv] (fun o v => some (o, v)) = if p.Ok then cond (!decide (p.now.Kind = 1)) (if p.Ok then some ([], .tup [(p.fail 181 p.now.At).tv, .v (.string ⟨#[]⟩)]) else none) (if p.Ok then (if p.Ok then some ([], .tup [p.next.tv, .v (.string p.now.S)]) else none) else none) else none := by kernel_rfl
noncomputable def sName : Spc U := .of dP (fun p => p.Ok) (fun _ => []) fun p => .tup [p.name.1.tv, .v (.string p.name.2)]
theorem sName_ok : SpecOk Try.prog 95 sName := by
  refine fn_ok X_ok mixed Ec_ok an0 lp0 Try.func95 (by kernel_rfl) (by kernel_rfl) (lp0_ok (by kernel_rfl)) fun objs args p hx hp => ?_
  obtain ⟨rfl, rfl⟩ := dP_ok hx
  dsimp only at hp ⊢
  rw [e63, if_pos hp, if_pos hp, if_pos hp, if_pos hp]
  unfold PS.name
  by_cases hc : p.now.Kind = 1 <;> simp [hc]
theorem PS.Ok.name {p : PS} (h : p.Ok) : p.name.1.Ok := by
  unfold PS.name
  split
  · exact h.next
  · exact h.fail (by decide) _
theorem PS.Ok.must {p : PS} (h : p.Ok) (s : ByteArray) : (p.must s).Ok := by
  unfold PS.must
  split
  · exact h.next
  · exact h.fail (by decide) _
theorem PS.Ok.most {p : PS} (h : p.Ok) (n m : Int) : (p.most n m).Ok := by
  unfold PS.most
  split
  · exact h.fail (by decide) _
  · exact h
end Go.Proofs.Ytpkgikchphgfaaa.Fl
/- What a function comes to, if there are two ends. -/
namespace Go.Proofs.Ytpkgikchphgfaaa.Eng
open Go Go.RowKit
set_option linter.unusedVariables false
/-- Two ends. -/
def Spc.of2 {U : Univ} {A : Type} (d : List (TO U) → List (TV U) → Option A) (pre : A → Prop) [DecidablePred pre] (c : A → Bool) (o : A → List (TO U)) (v : A → TV U) (o2 : A → List (TO U)) (v2 : A → TV U) : Spc U := ⟨fun objs args k => match d objs args with
  | some x => if pre x then cond (c x) (k (o x) (v x)) (k (o2 x) (v2 x)) else none
  | none => none⟩
theorem Spc.of2_path {U : Univ} {A : Type} {d : List (TO U) → List (TV U) → Option A} {pre : A → Prop} [DecidablePred pre] {c : A → Bool} {o : A → List (TO U)} {v : A → TV U} {o2 : A → List (TO U)} {v2 : A → TV U} (objs : List (TO U)) (args : List (TV U)) : PathF fun k => (Spc.of2 d pre c o v o2 v2).F objs args k := by
  intro R k r h'
  unfold Spc.of2 at h' ⊢
  dsimp only at h' ⊢
  cases hd : d objs args with
  | none => rw [hd] at h'; cases h'
  | some x =>
    rw [hd] at h'
    dsimp only at h' ⊢
    split at h' <;> try (cases h'; done)
    rename_i hp
    cases hc : c x with
    | true =>
      rw [hc] at h'
      exact ⟨_, _, h', fun k' => by rw [if_pos hp]; rfl⟩
    | false =>
      rw [hc] at h'
      exact ⟨_, _, h', fun k' => by rw [if_pos hp]; rfl⟩
theorem Spc.of2_some {U : Univ} {A : Type} {d : List (TO U) → List (TV U) → Option A} {pre : A → Prop} [DecidablePred pre] {c : A → Bool} {o : A → List (TO U)} {v : A → TV U} {o2 : A → List (TO U)} {v2 : A → TV U} {objs : List (TO U)} {args : List (TV U)} {p : List (TO U) × TV U} (h : (Spc.of2 d pre c o v o2 v2).F objs args (fun o v => some (o, v)) = some p) :
    ∃ x, d objs args = some x ∧ pre x ∧ p = cond (c x) (o x, v x) (o2 x, v2 x) := by
  unfold Spc.of2 at h
  dsimp only at h
  split at h <;> try (cases h; done)
  rename_i x hx
  split at h <;> try (cases h; done)
  rename_i hp
  refine ⟨x, hx, hp, ?_⟩
  cases hc : c x <;> rw [hc] at h <;> (cases h; rfl)
theorem SpecOk.of2 {P : Program} {U : Univ} {fid : FuncId} {S0 : Spc U} (h0 : SpecOk P fid S0) {A : Type} {d : List (TO U) → List (TV U) → Option A} {pre : A → Prop} [DecidablePred pre] {c : A → Bool} {o : A → List (TO U)} {v : A → TV U} {o2 : A → List (TO U)} {v2 : A → TV U}
    (h : ∀ objs args x, d objs args = some x → pre x → S0.F objs args (fun o v => some (o, v)) = some (cond (c x) (o x, v x) (o2 x, v2 x))) : SpecOk P fid (Spc.of2 d pre c o v o2 v2) := by
  refine SpecOk.of_ev h0 Spc.of2_path fun objs args o' v' h' => ?_
  obtain ⟨x, hx, hp, he⟩ := Spc.of2_some h'
  rw [h _ _ _ hx hp, ← he]
theorem fn_ok2 {P : Program} {X : Cx} (hX : CxOk P X) (hm : P.follows .mixedOrders = true) {E : FuncId → Option (Spc X.U)} (hE : ∀ f S, E f = some S → SpecOk P f S) (an : Ann) (lp : Lp X.U) {fid : FuncId} {fn : Func} (hf : P.funcs[fid]? = some fn) (hname : (fn.name == "runtime.NumGoroutine") = false) (hcode : (match fn.body with | some c => codeOk fn.ntmps c | none => false) = true)
    (hL : ∀ c, fn.body = some c → LpOk X E an lp (loops c 0)) {A : Type} {d : List (TO X.U) → List (TV X.U) → Option A} {pre : A → Prop} [DecidablePred pre] {c : A → Bool} {o : A → List (TO X.U)} {v : A → TV X.U} {o2 : A → List (TO X.U)} {v2 : A → TV X.U}
    (h : ∀ objs args x, d objs args = some x → pre x → evFn X E an lp fn objs args (fun o v => some (o, v)) = some (cond (c x) (o x, v x) (o2 x, v2 x))) : SpecOk P fid (Spc.of2 d pre c o v o2 v2) :=
  SpecOk.of2 (specFn_ok hX hm hE an lp hf hname hcode hL) h
/-! ### Loops that are gone through so often -/
theorem evC_congr {X : Cx} {E : FuncId → Option (Spc X.U)} {an : Ann} {lp lp' : Lp X.U} {R : Type} : ∀ {c : Code} {b : Nat} {s : TS X.U} {K : Exit → TS X.U → Option R}, (∀ q ∈ loops c b, ∀ (s : TS X.U) (K : Exit → TS X.U → Option R), lp.F q.1 s K = lp'.F q.1 s K) → evC X E an lp c b s K = evC X E an lp' c b s K := by
  intro c
  induction c with
  | seq x y ihx ihy =>
    intro b s K h
    have h1 : ∀ q ∈ loops x b, ∀ (s : TS X.U) (K : Exit → TS X.U → Option R), lp.F q.1 s K = lp'.F q.1 s K := fun q hq => h q (List.mem_append_left _ hq)
    have h2 : ∀ q ∈ loops y b, ∀ (s : TS X.U) (K : Exit → TS X.U → Option R), lp.F q.1 s K = lp'.F q.1 s K := fun q hq => h q (List.mem_append_right _ hq)
    unfold evC
    rw [ihx h1]
    congr 1
    funext ex s'
    cases ex <;> first | rfl | exact ihy h2
  | cond c x y ihx ihy =>
    intro b s K h
    have h1 : ∀ q ∈ loops x b, ∀ (s : TS X.U) (K : Exit → TS X.U → Option R), lp.F q.1 s K = lp'.F q.1 s K := fun q hq => h q (List.mem_append_left _ hq)
    have h2 : ∀ q ∈ loops y b, ∀ (s : TS X.U) (K : Exit → TS X.U → Option R), lp.F q.1 s K = lp'.F q.1 s K := fun q hq => h q (List.mem_append_right _ hq)
    unfold evC
    split
    · rw [ihx h1, ihy h2]
    · rfl
  | block id x ih =>
    intro b s K h
    unfold evC
    rw [ih h]
  | loop x ih =>
    intro b s K h
    unfold evC
    split
    · exact h (b, x) (.head _) _ _
    · rfl
  | _ => intro b s K h; rfl
def loopK (X : Cx) (E : FuncId → Option (Spc X.U)) (an : Ann) (lp : Lp X.U) (b : Nat) (c : Code) {R : Type} : Nat → TS X.U → (Exit → TS X.U → Option R) → Option R
  | 0, _, _ => none
  | n + 1, s, K => evC X E an lp c b s fun ex s' => match ex with
    | .normal => match evNorm (an.live b) s' with
      | some s1 => loopK X E an lp b c n s1 K
      | none => none
    | e => match evNorm (an.out b) s' with
      | some s1 => K e s1
      | none => none
section
variable {P : Program} {X : Cx} {E : FuncId → Option (Spc X.U)}
theorem loopK_path (hE : ∀ f S, E f = some S → SpecOk P f S) {an : Ann} {lp : Lp X.U} (hP : ∀ (b : Nat) (s : TS X.U) (R : Type) (K : Exit → TS X.U → Option R) (r : R), lp.F b s K = some r → ∃ ex s', K ex s' = some r ∧ ∀ {R' : Type} (K' : Exit → TS X.U → Option R'), lp.F b s K' = K' ex s') {b : Nat} {c : Code} {R : Type} {r : R} : ∀ (n : Nat) (s : TS X.U) (K : Exit → TS X.U → Option R), loopK X E an lp b c n s K = some r →
    ∃ ex s', K ex s' = some r ∧ ∀ {R' : Type} (K' : Exit → TS X.U → Option R'), loopK X E an lp b c n s K' = K' ex s' := by
  intro n
  induction n with
  | zero => intro s K h; cases h
  | succ n ih =>
    intro s K h
    unfold loopK at h
    obtain ⟨ex, s', hk, hp⟩ := evC_path hE hP h
    cases ex with
    | normal =>
      dsimp only at hk
      cases hn : evNorm (an.live b) s' with
      | none => rw [hn] at hk; cases hk
      | some s1 =>
        rw [hn] at hk
        obtain ⟨ex2, s2, hk2, hp2⟩ := ih s1 K hk
        refine ⟨ex2, s2, hk2, fun K' => ?_⟩
        unfold loopK
        rw [hp]
        dsimp only
        rw [hn]
        exact hp2 K'
    | _ =>
      dsimp only at hk
      cases hn : evNorm (an.out b) s' with
      | none => rw [hn] at hk; cases hk
      | some s1 =>
        rw [hn] at hk
        refine ⟨_, s1, hk, fun K' => ?_⟩
        unfold loopK
        rw [hp]
        dsimp only
        rw [hn]
theorem loopK_R {an : Ann} {lp lp' : Lp X.U} {b : Nat} {c : Code} (hq : ∀ q ∈ loops c b, ∀ (s : TS X.U) (K : Exit → TS X.U → Option (Exit × TS X.U)), lp.F q.1 s K = lp'.F q.1 s K) : ∀ (n : Nat) (s : TS X.U), loopK X E an lp b c n s (fun e s => some (e, s)) = loopR (an.live b) (an.out b) (fun s K => evC X E an lp' c b s K) n s := by
  intro n
  induction n with
  | zero => intro s; rfl
  | succ n ih =>
    intro s
    unfold loopK loopR
    rw [evC_congr hq]
    congr 1
    funext ex s'
    cases ex <;> try rfl
    dsimp only
    cases evNorm (an.live b) s' with
    | none => rfl
    | some s1 => exact ih _
/-- A loop without others in it, that is gone through so often at most. -/
def LC.unr (hE : ∀ f S, E f = some S → SpecOk P f S) (an : Ann) (fn : Func) (b n : Nat) : LC X.U := ⟨fun s K => loopK X E an lp0 b (loopAt fn b) n s K, fun s K r h => loopK_path hE (fun b s R K r h => by cases h) n s K h⟩
theorem unr_ok {hE : ∀ f S, E f = some S → SpecOk P f S} {an : Ann} {fn : Func} {b n : Nat} {l : List (Nat × LC X.U)} (h0 : (loops (loopAt fn b) b).isEmpty = true) {s : TS X.U} {p : Exit × TS X.U} (hs : (LC.unr hE an fn b n).F s (fun e s => some (e, s)) = some p) : ∃ m, fnLoop X E an (lpL l) fn b m s = some p := by
  refine ⟨n, ?_⟩
  unfold fnLoop
  rw [← loopK_R (lp := lp0) (fun q hq => ?_)]
  · exact hs
  · have : loops (loopAt fn b) b = [] := by simpa using h0
    rw [this] at hq
    cases hq
end
end Go.Proofs.Ytpkgikchphgfaaa.Eng
/- The references' parser: types. -/
namespace Go.Proofs.Ytpkgikchphgfaaa.Fl
open Go Go.RowKit Go.Proofs.Ytpkgikchphgfaaa.Eng
set_option linter.unusedVariables false
set_option linter.unusedSimpArgs false
set_option maxRecDepth 20000
def an64 : Ann := ⟨fun | 0 => 54 | _ => 0, fun | 0 => 14 | _ => 0, fun _ => [], false⟩
noncomputable def lp64 : Lp U := lpL [(0, LC.unr (X := X) Ec_ok an64 Try.f96 0 4)]
theorem lp64_ok : ∀ c, Try.f96.body = some c → LpOk X Ec an64 lp64 (loops c 0) := lpL_ok (by kernel_rfl) fun b L hm st p hs => by
  cases hm with
  | head => exact unr_ok (by kernel_rfl) hs
  | tail _ h => cases h
theorem e64 (p : PS) : (evFn X Ec an64 lp64 Try.f96 [] [p.tv] fun (o : List (TO X.U)) (v : TV X.U) => some (o, v)) = if p.Ok then bif p.is (⟨#[105, 110, 116]⟩ : ByteArray) then if p.Ok then some ([], TV.tup [p.next.tv, TV.v (Value.int IntKind.i64 (IntKind.i64.wrap (0 + 1)))]) else none else if p.Ok then bif p.is (⟨#[114, 101, 102]⟩ : ByteArray) then if p.Ok then some ([], TV.tup [p.next.tv, TV.v (Value.int IntKind.i64 (IntKind.i64.wrap (IntKind.i64.wrap (0 + 1) + 1)))]) else none else if p.Ok then bif p.is (⟨#[102, 117, 110]⟩ : ByteArray) then if p.Ok then some ([], TV.tup [p.next.tv, TV.v (Value.int IntKind.i64 (IntKind.i64.wrap (IntKind.i64.wrap (IntKind.i64.wrap (0 + 1) + 1) + 1)))]) else none else if p.Ok then if True then some ([], TV.tup [(p.fail 181 p.now.At).tv, TV.v (Value.int IntKind.i64 0)]) else none else none else none else none else none := by kernel_rfl
def bInt : ByteArray := ⟨#[105, 110, 116]⟩
def bRef : ByteArray := ⟨#[114, 101, 102]⟩
def bFun : ByteArray := ⟨#[102, 117, 110]⟩
def PS.typ (p : PS) : PS × Int := cond (p.is bInt) (p.next, 1) (cond (p.is bRef) (p.next, 2) (cond (p.is bFun) (p.next, 3) (p.fail 181 p.now.At, 0)))
noncomputable def sTyp : Spc U := .of dP (fun p => p.Ok) (fun _ => []) fun p => .tup [p.typ.1.tv, .v (.int .i64 p.typ.2)]
theorem sTyp_ok : SpecOk Try.prog 96 sTyp := by
  refine fn_ok X_ok mixed Ec_ok an64 lp64 Try.func96 (by kernel_rfl) (by kernel_rfl) lp64_ok fun objs args p hx hp => ?_
  obtain ⟨rfl, rfl⟩ := dP_ok hx
  dsimp only at hp ⊢
  rw [e64]
  unfold PS.typ bInt bRef bFun
  simp only [hp, if_true, Bool.cond_eq_ite]
  repeat' split
  all_goals kernel_rfl
end Go.Proofs.Ytpkgikchphgfaaa.Fl
/- The references' parser: declarations, numbers. -/
namespace Go.Proofs.Ytpkgikchphgfaaa.Fl
open Go Go.RowKit Go.Proofs.Ytpkgikchphgfaaa.Eng
set_option linter.unusedVariables false
set_option linter.unusedSimpArgs false
set_option maxRecDepth 20000
theorem PS.Ok.typ {p : PS} (h : p.Ok) : p.typ.1.Ok := by
  unfold PS.typ
  simp only [Bool.cond_eq_ite]
  repeat' split
  all_goals first | exact h.next | exact h.fail (by decide) _
noncomputable def Ed : FuncId → Option (Spc U)
  | 42 => some sNow
  | 43 => some sIs
  | 44 => some sNext
  | 45 => some sMost
  | 47 => some sMust
  | 49 => some sFail
  | 95 => some sName
  | 96 => some sTyp
  | _ => none
theorem Ed_ok : ∀ f S, Ed f = some S → SpecOk Try.prog f S := fun f S h => by
  unfold Ed at h
  split at h
  · cases h; exact sNow_ok
  · cases h; exact sIs_ok
  · cases h; exact sNext_ok
  · cases h; exact sMost_ok
  · cases h; exact sMust_ok
  · cases h; exact sFail_ok
  · cases h; exact sName_ok
  · cases h; exact sTyp_ok
  · cases h
theorem e52 (p : PS) : (evFn X Ed an0 lp0 Try.f46 [] [p.tv] fun (o : List (TO X.U)) (v : TV X.U) => some (o, v)) = if p.Ok then if p.Ok then if p.name.fst.Ok then if (p.name.fst.must (⟨#[58]⟩ : ByteArray)).Ok then some ([], TV.tup [(p.name.fst.must (⟨#[58]⟩ : ByteArray)).typ.fst.tv, TV.agg [TV.v (Value.string p.name.snd), TV.v (Value.int IntKind.i64 (p.name.fst.must (⟨#[58]⟩ : ByteArray)).typ.snd), TV.v (Value.int IntKind.i64 p.now.At)]]) else none else none else none else none := by kernel_rfl
theorem e87 (p : PS) : (evFn X Ed an0 lp0 Try.f186 [] [p.tv] fun (o : List (TO X.U)) (v : TV X.U) => some (o, v)) = if p.Ok then bif p.is (⟨#[45]⟩ : ByteArray) then if p.Ok then if p.next.Ok then bif !decide (p.next.now.Kind = 2) then if p.Ok then bif p.is (⟨#[45]⟩ : ByteArray) then if True then some ([], TV.tup [(p.next.fail 181 p.next.now.At).tv, TV.v (Value.int IntKind.i64 0), TV.v (Value.bool true)]) else none else some ([], TV.tup [p.tv, TV.v (Value.int IntKind.i64 0), TV.v (Value.bool false)]) else none else if p.Ok then bif p.is (⟨#[45]⟩ : ByteArray) then if p.next.Ok then some ([], TV.tup [p.next.next.tv, TV.v (Value.int IntKind.i64 (IntKind.i64.wrap (0 - p.next.now.N))), TV.v (Value.bool true)]) else none else if p.next.Ok then some ([], TV.tup [p.next.next.tv, TV.v (Value.int IntKind.i64 p.next.now.N), TV.v (Value.bool true)]) else none else none else none else none else if p.Ok then bif !decide (p.now.Kind = 2) then if p.Ok then bif p.is (⟨#[45]⟩ : ByteArray) then if True then some ([], TV.tup [(p.fail 181 p.now.At).tv, TV.v (Value.int IntKind.i64 0), TV.v (Value.bool true)]) else none else some ([], TV.tup [p.tv, TV.v (Value.int IntKind.i64 0), TV.v (Value.bool false)]) else none else if p.Ok then bif p.is (⟨#[45]⟩ : ByteArray) then if p.Ok then some ([], TV.tup [p.next.tv, TV.v (Value.int IntKind.i64 (IntKind.i64.wrap (0 - p.now.N))), TV.v (Value.bool true)]) else none else if p.Ok then some ([], TV.tup [p.next.tv, TV.v (Value.int IntKind.i64 p.now.N), TV.v (Value.bool true)]) else none else none else none else none := by kernel_rfl
def an86 : Ann := ⟨fun | 0 => 52 | _ => 0, fun | 0 => 60 | _ => 0, fun _ => [], false⟩
def PS.ob (p : PS) : TO U := .cells [.lst .t53 p.L, .v (.int .i64 p.At), .v (.int .i64 p.Deep), .v (.int .i64 p.Many), .v (.int .i64 p.Code), .v (.int .i64 p.FAt)] false
def ob0 : TO U := .cells [.v (.slice none 0 0), .v (.int .i64 0), .v (.int .i64 0), .v (.int .i64 0), .v (.int .i64 0), .v (.int .i64 0)] false
def S86 (q : PS) (out : List ByteArray) : TS U := mkS 46 [(2, .ref 0 0 0), (4, .ref 1 0 0), (5, .full 2)] [ob0, q.ob, .row .str out false] 0
theorem r86 (lp : Lp U) (N : Nat) (q : PS) (out : List ByteArray) : (fnLoop X Ed an86 lp Try.f185 0 N.succ (S86 q out)) = bif decide (q.Code = 0) then if q.Ok then bif !q.is (⟨#[41]⟩ : ByteArray) then bif decide (0 < (↑out.length : Int)) then if q.Ok then if (q.must (⟨#[44]⟩ : ByteArray)).Ok then if ((q.must (⟨#[44]⟩ : ByteArray)).most (↑out.length : Int) 8).Ok then if (out.length + 1) * 16 ≤ 140737488355328 then fnLoop X Ed an86 lp Try.f185 0 N (S86 ((q.must (⟨#[44]⟩ : ByteArray)).most (↑out.length : Int) 8).name.fst (out ++ [((q.must (⟨#[44]⟩ : ByteArray)).most (↑out.length : Int) 8).name.snd])) else none else none else none else none else if q.Ok then if (q.most (↑out.length : Int) 8).Ok then if (out.length + 1) * 16 ≤ 140737488355328 then fnLoop X Ed an86 lp Try.f185 0 N (S86 (q.most (↑out.length : Int) 8).name.fst (out ++ [(q.most (↑out.length : Int) 8).name.snd])) else none else none else none else some (Exit.exit 0, S86 q out) else none else some (Exit.exit 0, S86 q out) := by kernel_rfl
def PS.decl (p : PS) : PS × R82 := ((p.name.1.must ⟨#[58]⟩).typ.1, ⟨p.name.2, (p.name.1.must ⟨#[58]⟩).typ.2, p.now.At⟩)
theorem PS.Ok.decl {p : PS} (h : p.Ok) : p.decl.1.Ok := (h.name.must _).typ
def declV (d : R82) : TV U := .agg [.v (.string d.Name), .v (.int .i64 d.Type_), .v (.int .i64 d.At)]
noncomputable def sDecl : Spc U := .of dP (fun p => p.Ok) (fun _ => []) fun p => .tup [p.decl.1.tv, declV p.decl.2]
theorem sDecl_ok : SpecOk Try.prog 46 sDecl := by
  refine fn_ok X_ok mixed Ed_ok an0 lp0 Try.func46 (by kernel_rfl) (by kernel_rfl) (lp0_ok (by kernel_rfl)) fun objs args p hp h => ?_
  obtain ⟨rfl, rfl⟩ := dP_ok hp
  dsimp only at h ⊢
  rw [e52]
  simp only [h, h.name, h.name.must, if_true]
  rfl
/-- A number: what is behind it; it; whether one is there. -/
def PS.number (p : PS) : PS × Int × Bool := cond (p.is ⟨#[45]⟩) (cond (!decide (p.next.now.Kind = 2)) (p.next.fail 181 p.next.now.At, 0, true) (p.next.next, IntKind.i64.wrap (0 - p.next.now.N), true))
  (cond (!decide (p.now.Kind = 2)) (p, 0, false) (p.next, p.now.N, true))
theorem PS.Ok.number {p : PS} (h : p.Ok) : p.number.1.Ok := by
  unfold PS.number
  simp only [Bool.cond_eq_ite]
  repeat' split
  all_goals first | exact h.next.next | exact h.next | exact h.next.fail (by decide) _ | exact h
noncomputable def sNumber : Spc U := .of dP (fun p => p.Ok) (fun _ => []) fun p => .tup [p.number.1.tv, .v (.int .i64 p.number.2.1), .v (.bool p.number.2.2)]
theorem sNumber_ok : SpecOk Try.prog 186 sNumber := by
  refine fn_ok X_ok mixed Ed_ok an0 lp0 Try.func186 (by kernel_rfl) (by kernel_rfl) (lp0_ok (by kernel_rfl)) fun objs args p hp h => ?_
  obtain ⟨rfl, rfl⟩ := dP_ok hp
  dsimp only at h ⊢
  rw [e87]
  unfold PS.number
  simp only [h, h.next, if_true, Bool.cond_eq_ite]
  repeat' split
  all_goals first | kernel_rfl | (exfalso; simp_all; done)
end Go.Proofs.Ytpkgikchphgfaaa.Fl
/- The references' parser: how many words are left. -/
namespace Go.Proofs.Ytpkgikchphgfaaa.Fl
open Go Go.RowKit Go.Proofs.Ytpkgikchphgfaaa.Eng
set_option linter.unusedVariables false
set_option linter.unusedSimpArgs false
set_option maxRecDepth 20000
/-- So many words are left. -/
def PS.left (p : PS) : Nat := if p.Code = 0 then ((p.L.length : Int) - p.At).toNat else 0
theorem PS.Ok.left_pos {p : PS} (h : p.Ok) (hc : p.Code = 0) : 1 ≤ p.left := by
  obtain ⟨h0, h1⟩ := h.here hc
  unfold PS.left
  rw [if_pos hc]
  omega
theorem PS.Ok.left_zero {p : PS} (h : p.Ok) (hl : p.left = 0) : p.Code ≠ 0 := fun hc => by
  have := h.left_pos hc
  omega
theorem PS.left_of {p : PS} (hc : p.Code ≠ 0) : p.left = 0 := if_neg hc
theorem PS.Ok.left_le {p : PS} (h : p.Ok) : p.left ≤ p.L.length := by
  unfold PS.left
  split
  · rename_i hc
    have := h.here hc
    omega
  · exact Nat.zero_le _
theorem PS.fail_left (p : PS) {c : Int} (hc : c ≠ 0) (a : Int) : (p.fail c a).left = 0 := by
  unfold PS.fail
  split
  · exact PS.left_of hc
  · rename_i h; exact PS.left_of h
theorem PS.next_left (p : PS) : p.next.left ≤ p.left := by
  unfold PS.next
  split
  · rename_i h
    unfold PS.left
    rw [if_pos h.1, if_pos h.1]
    dsimp only
    omega
  · exact Nat.le_refl _
theorem PS.Ok.next_lt {p : PS} (h : p.Ok) (hk : p.now.Kind ≠ 0) : p.next.left ≤ p.left - 1 := by
  unfold PS.next
  split
  · rename_i hc
    obtain ⟨h0, h1⟩ := h.here hc.1
    unfold PS.left
    rw [if_pos hc.1, if_pos hc.1]
    dsimp only
    omega
  · rename_i hc
    rw [PS.left_of (fun h => hc ⟨h, hk⟩)]
    exact Nat.zero_le _
theorem PS.is_kind {p : PS} {s : ByteArray} (h : p.is s = true) : p.now.Kind ≠ 0 := by
  unfold PS.is at h
  rw [Bool.and_eq_true] at h
  have := of_decide_eq_true h.1
  omega
theorem PS.Ok.must_lt {p : PS} (h : p.Ok) (s : ByteArray) : (p.must s).left ≤ p.left - 1 := by
  unfold PS.must
  split
  · rename_i hi; exact h.next_lt (PS.is_kind hi)
  · rw [PS.fail_left _ (by decide)]; exact Nat.zero_le _
theorem PS.most_left (p : PS) (n m : Int) : (p.most n m).left ≤ p.left := by
  unfold PS.most
  split
  · rw [PS.fail_left _ (by decide)]; exact Nat.zero_le _
  · exact Nat.le_refl _
theorem PS.Ok.name_lt {p : PS} (h : p.Ok) : p.name.1.left ≤ p.left - 1 := by
  unfold PS.name
  split
  · rename_i hk; exact h.next_lt (by rw [hk]; decide)
  · rw [PS.fail_left _ (by decide)]; exact Nat.zero_le _
theorem PS.Ok.typ_lt {p : PS} (h : p.Ok) : p.typ.1.left ≤ p.left - 1 := by
  unfold PS.typ
  simp only [Bool.cond_eq_ite]
  split
  · rename_i hi; exact h.next_lt (PS.is_kind hi)
  · split
    · rename_i hi; exact h.next_lt (PS.is_kind hi)
    · split
      · rename_i hi; exact h.next_lt (PS.is_kind hi)
      · rw [PS.fail_left _ (by decide)]; exact Nat.zero_le _
theorem PS.Ok.decl_lt {p : PS} (h : p.Ok) : p.decl.1.left ≤ p.left - 1 := by
  have h1 := h.name_lt
  have h2 := h.name.must_lt ⟨#[58]⟩
  have h3 := (h.name.must ⟨#[58]⟩).typ_lt
  have : p.decl.1.left = (p.name.1.must ⟨#[58]⟩).typ.1.left := rfl
  omega
/-- Names, one behind the other. -/
def argsL : Nat → PS → List ByteArray → PS × List ByteArray
  | 0, q, out => (q, out)
  | N + 1, q, out => cond (decide (q.Code = 0)) (cond (!q.is ⟨#[41]⟩)
    (argsL N ((cond (decide (0 < (out.length : Int))) (q.must ⟨#[44]⟩) q).most out.length 8).name.1 (out ++ [((cond (decide (0 < (out.length : Int))) (q.must ⟨#[44]⟩) q).most out.length 8).name.2])) (q, out)) (q, out)
theorem argsL_ok : ∀ (N : Nat) (q : PS) (out : List ByteArray), q.Ok → (argsL N q out).1.Ok ∧ (argsL N q out).1.left ≤ q.left ∧ (argsL N q out).2.length ≤ out.length + N := by
  intro N
  induction N with
  | zero => intro q out h; exact ⟨h, Nat.le_refl _, Nat.le_refl _⟩
  | succ N ih =>
    intro q out h
    rw [argsL]
    cases decide (q.Code = 0) with
    | false => exact ⟨h, Nat.le_refl _, Nat.le_add_right _ _⟩
    | true =>
      cases !q.is ⟨#[41]⟩ with
      | false => exact ⟨h, Nat.le_refl _, Nat.le_add_right _ _⟩
      | true =>
        simp only [cond_true]
        obtain ⟨q1, e1⟩ : ∃ q1, cond (decide (0 < (out.length : Int))) (q.must ⟨#[44]⟩) q = q1 := ⟨_, rfl⟩
        have h1 : q1.Ok ∧ q1.left ≤ q.left := by
          rw [← e1]
          cases decide (0 < (out.length : Int)) with
          | false => exact ⟨h, Nat.le_refl _⟩
          | true => exact ⟨h.must _, Nat.le_trans (h.must_lt _) (Nat.sub_le _ _)⟩
        rw [e1]
        have h2 := (h1.1.most (out.length : Int) 8).name
        have h3 := (h1.1.most (out.length : Int) 8).name_lt
        have h4 := q1.most_left out.length 8
        obtain ⟨a, b, c⟩ := ih _ (out ++ [(q1.most out.length 8).name.2]) h2
        refine ⟨a, by omega, ?_⟩
        rw [List.length_append] at c
        simp only [List.length_singleton] at c
        omega
theorem rounds86 (lp : Lp U) : ∀ (N : Nat) (q : PS) (out : List ByteArray), q.Ok → q.left ≤ N → out.length + N ≤ 2000000 →
    fnLoop X Ed an86 lp Try.f185 0 (N + 1) (S86 q out) = some (.exit 0, S86 (argsL (N + 1) q out).1 (argsL (N + 1) q out).2) := by
  intro N
  induction N with
  | zero =>
    intro q out h hl hn
    have hc := h.left_zero (by omega)
    rw [r86, argsL, decide_eq_false hc]
    rfl
  | succ N ih =>
    intro q out h hl hn
    rw [r86, argsL]
    by_cases hc : q.Code = 0
    · rw [decide_eq_true hc, if_pos h]
      have hpos := h.left_pos hc
      cases q.is ⟨#[41]⟩ with
      | true => rfl
      | false =>
        have hlen : (out.length + 1) * 16 ≤ 140737488355328 := by omega
        have key : ∀ q1 : PS, q1.Ok → q1.left ≤ q.left → fnLoop X Ed an86 lp Try.f185 0 (N + 1) (S86 (q1.most out.length 8).name.1 (out ++ [(q1.most out.length 8).name.2])) = some (.exit 0, S86 (argsL (N + 1) (q1.most out.length 8).name.1 (out ++ [(q1.most out.length 8).name.2])).1 (argsL (N + 1) (q1.most out.length 8).name.1 (out ++ [(q1.most out.length 8).name.2])).2) := fun q1 h1 hl1 => by
          have h3 := (h1.most (out.length : Int) 8).name_lt
          have h4 := q1.most_left out.length 8
          exact ih _ _ (h1.most _ _).name (by omega) (by rw [List.length_append]; simp only [List.length_singleton]; omega)
        simp only [Bool.not_false, cond_true, h, h.must, h.most, PS.Ok.most (h.must _), if_true, hlen]
        cases decide (0 < (out.length : Int)) with
        | true => exact key _ (h.must _) (Nat.le_trans (h.must_lt _) (Nat.sub_le _ _))
        | false => exact key _ h (Nat.le_refl _)
    · rw [decide_eq_false hc]
      rfl
def dl86 (s : TS U) : Option (Int × Int × Int × Int × Int × PS × List ByteArray) := match told s 46 [2, 4, 5] 0, s.objs with
  | some [a0, a1, a2], [o0, o1, o2] =>
    match o0 with
    | .cells [q0, q1, q2, q3, q4, q5] false =>
      match q0 with
      | .v (.slice none 0 0) =>
        match q1 with
        | .v (.int .i64 z1) =>
          match q2 with
          | .v (.int .i64 z2) =>
            match q3 with
            | .v (.int .i64 z3) =>
              match q4 with
              | .v (.int .i64 z4) =>
                match q5 with
                | .v (.int .i64 z5) =>
                  match o1 with
                  | .cells [q6, q7, q8, q9, q10, q11] false =>
                    match q6 with
                    | .lst .t53 q_L =>
                      match q7 with
                      | .v (.int .i64 q_At) =>
                        match q8 with
                        | .v (.int .i64 q_Deep) =>
                          match q9 with
                          | .v (.int .i64 q_Many) =>
                            match q10 with
                            | .v (.int .i64 q_Code) =>
                              match q11 with
                              | .v (.int .i64 q_FAt) =>
                                match o2 with
                                | .row .str out false =>
                                  match a0 with
                                  | .ref 0 0 0 =>
                                    match a1 with
                                    | .ref 1 0 0 =>
                                      match a2 with
                                      | .full 2 =>
                                        some (z1, z2, z3, z4, z5, (⟨q_L, q_At, q_Deep, q_Many, q_Code, q_FAt⟩ : PS), out)
                                      | _ => none
                                    | _ => none
                                  | _ => none
                                | _ => none
                              | _ => none
                            | _ => none
                          | _ => none
                        | _ => none
                      | _ => none
                    | _ => none
                  | _ => none
                | _ => none
              | _ => none
            | _ => none
          | _ => none
        | _ => none
      | _ => none
    | _ => none
  | _, _ => none
theorem dl86_ok {s : TS U} {z1 : Int} {z2 : Int} {z3 : Int} {z4 : Int} {z5 : Int} {q : PS} {out : List ByteArray} (h : dl86 s = some (z1, z2, z3, z4, z5, q, out)) : s = mkS (U := U) 46 ([2, 4, 5].zip ([.ref 0 0 0, .ref 1 0 0, .full 2] : List (TV U))) ([.cells [.v (.slice none 0 0), .v (.int .i64 z1), .v (.int .i64 z2), .v (.int .i64 z3), .v (.int .i64 z4), .v (.int .i64 z5)] false, q.ob, .row .str out false] : List (TO U)) 0 := by
  unfold dl86 at h
  split at h <;> try (cases h; done)
  rename_i ht ho
  have hs := told_ok ht
  rw [ho] at hs
  repeat' split at h
  all_goals first | (cases h; done) | (cases h; exact hs)
def Pre86 (q : PS) (a1 a2 a3 a4 a5 : Int) (n : Nat) : Prop := q.Ok ∧ (a1 = 0 ∧ a2 = 0 ∧ a3 = 0 ∧ a4 = 0 ∧ a5 = 0) ∧ n = 0
noncomputable instance (q : PS) (a1 a2 a3 a4 a5 : Int) (n : Nat) : Decidable (Pre86 q a1 a2 a3 a4 a5 n) := Classical.propDecidable _
noncomputable def lc86 : LC U := .of dl86 (fun (a1, a2, a3, a4, a5, q, out) => Pre86 q a1 a2 a3 a4 a5 out.length) (.exit 0)
  (fun (a1, a2, a3, a4, a5, q, out) => S86 (argsL (q.left + 1) q []).1 (argsL (q.left + 1) q []).2)
noncomputable def lp86 : Lp U := lpL [(0, lc86)]
theorem lp86_ok : ∀ c, Try.f185.body = some c → LpOk X Ed an86 lp86 (loops c 0) := lpL_ok (by kernel_rfl) fun b L hm st p hs => by
  cases hm with
  | tail _ h => cases h
  | head =>
    obtain ⟨⟨a1, a2, a3, a4, a5, q, out⟩, hx, ⟨h1, ⟨rfl, rfl, rfl, rfl, rfl⟩, h3⟩, rfl⟩ := LC.of_some hs
    obtain rfl := List.length_eq_zero_iff.1 h3
    obtain rfl := dl86_ok hx
    have h2 := h1.left_le
    have h4 := h1.len
    exact ⟨_, rounds86 _ _ q [] h1 (Nat.le_refl _) (by rw [List.length_nil]; omega)⟩
theorem e86 (p : PS) : (evFn X Ed an86 lp86 Try.f185 [] [p.tv] fun (o : List (TO X.U)) (v : TV X.U) => some (o, v)) = if p.Ok then if Pre86 (p.must (⟨#[40]⟩ : ByteArray)) 0 0 0 0 0 0 then bif decide ((argsL ((p.must (⟨#[40]⟩ : ByteArray)).left + 1) (p.must (⟨#[40]⟩ : ByteArray)) []).fst.Code = 0) then if (argsL ((p.must (⟨#[40]⟩ : ByteArray)).left + 1) (p.must (⟨#[40]⟩ : ByteArray)) []).fst.Ok then some ([], TV.tup [(argsL ((p.must (⟨#[40]⟩ : ByteArray)).left + 1) (p.must (⟨#[40]⟩ : ByteArray)) []).fst.next.tv, TV.lst C.str (argsL ((p.must (⟨#[40]⟩ : ByteArray)).left + 1) (p.must (⟨#[40]⟩ : ByteArray)) []).snd]) else none else some ([], TV.tup [(argsL ((p.must (⟨#[40]⟩ : ByteArray)).left + 1) (p.must (⟨#[40]⟩ : ByteArray)) []).fst.tv, TV.lst C.str (argsL ((p.must (⟨#[40]⟩ : ByteArray)).left + 1) (p.must (⟨#[40]⟩ : ByteArray)) []).snd]) else none else none := by kernel_rfl
def PS.args (p : PS) : PS × List ByteArray := (cond (decide ((argsL ((p.must ⟨#[40]⟩).left + 1) (p.must ⟨#[40]⟩) []).1.Code = 0)) (argsL ((p.must ⟨#[40]⟩).left + 1) (p.must ⟨#[40]⟩) []).1.next (argsL ((p.must ⟨#[40]⟩).left + 1) (p.must ⟨#[40]⟩) []).1, (argsL ((p.must ⟨#[40]⟩).left + 1) (p.must ⟨#[40]⟩) []).2)
theorem PS.Ok.args {p : PS} (h : p.Ok) : p.args.1.Ok := by
  have h1 := argsL_ok ((p.must ⟨#[40]⟩).left + 1) _ [] (h.must ⟨#[40]⟩)
  unfold PS.args
  cases decide ((argsL ((p.must ⟨#[40]⟩).left + 1) (p.must ⟨#[40]⟩) []).1.Code = 0) with
  | true => exact h1.1.next
  | false => exact h1.1
theorem PS.Ok.args_lt {p : PS} (h : p.Ok) : p.args.1.left ≤ p.left - 1 := by
  have h1 := (argsL_ok ((p.must ⟨#[40]⟩).left + 1) _ [] (h.must ⟨#[40]⟩)).2.1
  have h2 := h.must_lt ⟨#[40]⟩
  unfold PS.args
  cases decide ((argsL ((p.must ⟨#[40]⟩).left + 1) (p.must ⟨#[40]⟩) []).1.Code = 0) with
  | true => exact Nat.le_trans (PS.next_left _) (by omega)
  | false => simp only [cond_false]; omega
noncomputable def sArgs : Spc U := .of dP (fun p => p.Ok) (fun _ => []) fun p => .tup [p.args.1.tv, .lst .str p.args.2]
theorem sArgs_ok : SpecOk Try.prog 185 sArgs := by
  refine fn_ok X_ok mixed Ed_ok an86 lp86 Try.func185 (by kernel_rfl) (by kernel_rfl) lp86_ok fun objs args p hp h => ?_
  obtain ⟨rfl, rfl⟩ := dP_ok hp
  dsimp only at h ⊢
  have h1 := (argsL_ok ((p.must ⟨#[40]⟩).left + 1) _ [] (h.must ⟨#[40]⟩)).1
  have h2 : Pre86 (p.must ⟨#[40]⟩) 0 0 0 0 0 0 := ⟨h.must _, ⟨rfl, rfl, rfl, rfl, rfl⟩, rfl⟩
  rw [e86]
  unfold PS.args
  simp only [h, h1, h2, if_true]
  cases decide ((argsL ((p.must ⟨#[40]⟩).left + 1) (p.must ⟨#[40]⟩) []).1.Code = 0) <;> rfl
end Go.Proofs.Ytpkgikchphgfaaa.Fl
/- What is handed back, told with less: a row that is none as a list of nothing. -/
namespace Go.Proofs.Ytpkgikchphgfaaa.Eng
open Go Go.RowKit
set_option linter.unusedVariables false
structure Lw (U : Univ) where
  f : TV U → TV U
  rep : ∀ (g : Gh) (H : Array Go.Obj) (x : Value) (rl : Nat → Nat) (v : TV U), Rep g H x (v.itp rl) → Rep g H x ((f v).itp rl)
  all : ∀ (p : Nat → Bool) (v : TV U), v.all p = true → (f v).all p = true
def Lw.no {U : Univ} : Lw U := ⟨fun v => v, fun _ _ _ _ _ h => h, fun _ _ h => h⟩
def Lw.l {U : Univ} (c : U.C) : Lw U := ⟨nilTo c, fun g H x rl v h => by
  unfold nilTo
  split
  · obtain rfl := rep_v h
    exact .nil
  · exact h, fun p v h => by
  unfold nilTo
  split
  · rfl
  · exact h⟩
def wkZ {U : Univ} : List (Lw U) → List (TV U) → List (TV U)
  | w :: ws, x :: l => w.f x :: wkZ ws l
  | _, l => l
theorem wkZ_rep {U : Univ} {g : Gh} {H : Array Go.Obj} {rl : Nat → Nat} : ∀ (ws : List (Lw U)) (l : List (TV U)) {vs : List Value}, RepL g H vs (itpL rl l) → RepL g H vs (itpL rl (wkZ ws l))
  | w :: ws, x :: l, _, h => by
    have h : RepL g H _ (x.itp rl :: itpL rl l) := h
    cases h with
    | cons h t => exact .cons (w.rep _ _ _ _ _ h) (wkZ_rep ws l t)
  | [], l, _, h => by
    show RepL g H _ (itpL rl (wkZ [] l))
    unfold wkZ
    exact h
  | _ :: _, [], _, h => h
theorem wkZ_all {U : Univ} {p : Nat → Bool} : ∀ (ws : List (Lw U)) (l : List (TV U)), allL p l = true → allL p (wkZ ws l) = true
  | w :: ws, x :: l, h => by
    have h : (x.all p && allL p l) = true := h
    rw [Bool.and_eq_true] at h
    show ((w.f x).all p && allL p (wkZ ws l)) = true
    rw [w.all p x h.1, wkZ_all ws l h.2]
    rfl
  | [], l, h => by
    show allL p (wkZ [] l) = true
    unfold wkZ
    exact h
  | _ :: _, [], h => h
def wkA {U : Univ} (ws : List (Lw U)) : TV U → TV U
  | .agg l => .agg (wkZ ws l)
  | .tup l => .tup (wkZ ws l)
  | x => x
def Lw.a {U : Univ} (ws : List (Lw U)) : Lw U := ⟨wkA ws, fun g H x rl v h => by
  unfold wkA
  split
  · rename_i l
    have h : Rep g H x (.agg (itpL rl l)) := h
    cases h with
    | agg h => exact .agg (wkZ_rep ws l h)
  · rename_i l
    have h : Rep g H x (.tup (itpL rl l)) := h
    cases h with
    | tup h => exact .tup (wkZ_rep ws l h)
  · exact h, fun p v h => by
  unfold wkA
  split
  · exact wkZ_all ws _ h
  · exact wkZ_all ws _ h
  · exact h⟩
def Spc.wk {U : Univ} (S : Spc U) (W : Lw U) : Spc U := ⟨fun objs args k => S.F objs args fun o v => k o (W.f v)⟩
theorem SpecOk.wk {P : Program} {U : Univ} {fid : FuncId} {S : Spc U} (h : SpecOk P fid S) (W : Lw U) : SpecOk P fid (S.wk W) := by
  refine ⟨h.fn, fun objs args => ?_, fun objs args objs' res hs hb ho ha => ?_⟩
  · intro R k r hk
    obtain ⟨o, v, h1, h2⟩ := h.path objs args _ _ hk
    exact ⟨o, W.f v, h1, fun k' => h2 _⟩
  · obtain ⟨o, v, h1, h2⟩ := h.path objs args _ _ hs
    cases h1
    obtain ⟨a, b, c, d, e⟩ := h.ok objs args objs' v (h2 _) hb ho ha
    refine ⟨fun g w vs hp hr => ?_, b, c, W.all _ _ d, e⟩
    refine (a g w vs hp hr).mono fun e w' hq => ?_
    obtain ⟨x, g', h3, h4, h5⟩ := hq
    exact ⟨x, g', h3, W.rep _ _ _ _ _ h4, h5⟩
section
variable {P : Program} {X : Cx}
theorem fn_okw (W : Lw X.U) (hX : CxOk P X) (hm : P.follows .mixedOrders = true) {E : FuncId → Option (Spc X.U)} (hE : ∀ f S, E f = some S → SpecOk P f S) (an : Ann) (lp : Lp X.U) {fid : FuncId} {fn : Func} (hf : P.funcs[fid]? = some fn) (hname : (fn.name == "runtime.NumGoroutine") = false) (hcode : (match fn.body with | some c => codeOk fn.ntmps c | none => false) = true)
    (hL : ∀ c, fn.body = some c → LpOk X E an lp (loops c 0)) {A : Type} {d : List (TO X.U) → List (TV X.U) → Option A} {pre : A → Prop} [DecidablePred pre] {o : A → List (TO X.U)} {v : A → TV X.U}
    (h : ∀ objs args x, d objs args = some x → pre x → evFn X E an lp fn objs args (fun o v => some (o, W.f v)) = some (o x, v x)) : SpecOk P fid (Spc.of d pre o v) :=
  SpecOk.of ((specFn_ok hX hm hE an lp hf hname hcode hL).wk W) h
end
/-- What is taken, told with less. -/
def Spc.wkA {U : Univ} (S : Spc U) (ws : List (Lw U)) : Spc U := ⟨fun objs args k => S.F objs (wkZ ws args) k⟩
theorem SpecOk.wkA {P : Program} {U : Univ} {fid : FuncId} {S : Spc U} (h : SpecOk P fid S) (ws : List (Lw U)) : SpecOk P fid (S.wkA ws) := by
  refine ⟨h.fn, fun objs args => h.path objs (wkZ ws args), fun objs args objs' res hs hb ho ha => ?_⟩
  obtain ⟨a, b, c, d, e⟩ := h.ok objs (wkZ ws args) objs' res hs (wkZ_all ws args hb) ho ha
  exact ⟨fun g w vs hp hr => a g w vs hp (wkZ_rep ws args hr), b, c, d, e⟩
end Go.Proofs.Ytpkgikchphgfaaa.Eng
/- The references' parser: expressions. -/
namespace Go.Proofs.Ytpkgikchphgfaaa.Fl
open Go Go.RowKit Go.Proofs.Ytpkgikchphgfaaa.Eng
set_option linter.unusedVariables false
set_option linter.unusedSimpArgs false
set_option maxRecDepth 20000
noncomputable def Ee : FuncId → Option (Spc U)
  | 185 => some sArgs
  | 186 => some sNumber
  | f => Ed f
theorem Ee_ok : ∀ f S, Ee f = some S → SpecOk Try.prog f S := fun f S h => by
  unfold Ee at h
  split at h
  · cases h; exact sArgs_ok
  · cases h; exact sNumber_ok
  · exact Ed_ok _ _ h
def exprV (e : R112) : TV U := .agg [.v (.int .i64 e.Kind), .v (.string e.A), .v (.string e.B), .v (.int .i64 e.Op), .v (.int .i64 e.N), .lst .str e.Args]
def wkE : Lw U := .a [.no, .a [.no, .no, .no, .no, .no, .l .str]]
def an84 : Ann := ⟨fun | 0 => 3126 | _ => 0, fun | 0 => 54 | _ => 0, fun _ => [], false⟩
def an85 : Ann := ⟨fun _ => 0, fun _ => 0, fun _ => [], false⟩
noncomputable def lp84 : Lp U := lpL [(0, LC.unr (X := X) Ee_ok an84 Try.f175 0 6)]
theorem lp84_ok : ∀ c, Try.f175.body = some c → LpOk X Ee an84 lp84 (loops c 0) := lpL_ok (by kernel_rfl) fun b L hm st p hs => by
  cases hm with
  | head => exact unr_ok (by kernel_rfl) hs
  | tail _ h => cases h
theorem e84 (p : PS) (s : ByteArray) : (evFn X Ee an84 lp84 Try.f175 [] [p.tv, TV.v (Value.string s)] fun (o : List (TO X.U)) (v : TV X.U) => some (o, wkE.f v)) = if p.Ok then bif p.is (⟨#[40]⟩ : ByteArray) then if p.Ok then some ([], TV.tup [p.args.fst.tv, TV.agg [TV.v (Value.int IntKind.i64 10), TV.v (Value.string s), TV.v (Value.string (⟨#[]⟩ : ByteArray)), TV.v (Value.int IntKind.i64 0), TV.v (Value.int IntKind.i64 0), TV.lst C.str p.args.snd]]) else none else if p.Ok then bif p.is (⟨#[46]⟩ : ByteArray) then if p.Ok then if p.next.Ok then some ([], TV.tup [p.next.name.fst.tv, TV.agg [TV.v (Value.int IntKind.i64 5), TV.v (Value.string s), TV.v (Value.string p.next.name.snd), TV.v (Value.int IntKind.i64 0), TV.v (Value.int IntKind.i64 0), TV.lst C.str []]]) else none else none else if p.Ok then bif !p.is (⟨#[43]⟩ : ByteArray) then if p.Ok then bif !p.is (⟨#[45]⟩ : ByteArray) then if p.Ok then bif !p.is (⟨#[42]⟩ : ByteArray) then if p.Ok then bif !p.is (⟨#[60]⟩ : ByteArray) then if p.Ok then bif !p.is (⟨#[61, 61]⟩ : ByteArray) then some ([], TV.tup [p.tv, TV.agg [TV.v (Value.int IntKind.i64 3), TV.v (Value.string s), TV.v (Value.string (⟨#[]⟩ : ByteArray)), TV.v (Value.int IntKind.i64 0), TV.v (Value.int IntKind.i64 0), TV.lst C.str []]]) else if p.Ok then if p.next.Ok then bif p.next.number.snd.snd then some ([], TV.tup [p.next.number.fst.tv, TV.agg [TV.v (Value.int IntKind.i64 9), TV.v (Value.string s), TV.v (Value.string (⟨#[]⟩ : ByteArray)), TV.v (Value.int IntKind.i64 (IntKind.i64.wrap (IntKind.i64.wrap (IntKind.i64.wrap (IntKind.i64.wrap (IntKind.i64.wrap (0 + 1) + 1) + 1) + 1) + 1))), TV.v (Value.int IntKind.i64 p.next.number.snd.fst), TV.lst C.str []]]) else if p.Ok then if p.next.Ok then some ([], TV.tup [p.next.name.fst.tv, TV.agg [TV.v (Value.int IntKind.i64 8), TV.v (Value.string s), TV.v (Value.string p.next.name.snd), TV.v (Value.int IntKind.i64 (IntKind.i64.wrap (IntKind.i64.wrap (IntKind.i64.wrap (IntKind.i64.wrap (IntKind.i64.wrap (0 + 1) + 1) + 1) + 1) + 1))), TV.v (Value.int IntKind.i64 0), TV.lst C.str []]]) else none else none else none else none else none else if p.Ok then if p.next.Ok then bif p.next.number.snd.snd then some ([], TV.tup [p.next.number.fst.tv, TV.agg [TV.v (Value.int IntKind.i64 9), TV.v (Value.string s), TV.v (Value.string (⟨#[]⟩ : ByteArray)), TV.v (Value.int IntKind.i64 (IntKind.i64.wrap (IntKind.i64.wrap (IntKind.i64.wrap (IntKind.i64.wrap (0 + 1) + 1) + 1) + 1))), TV.v (Value.int IntKind.i64 p.next.number.snd.fst), TV.lst C.str []]]) else if p.Ok then if p.next.Ok then some ([], TV.tup [p.next.name.fst.tv, TV.agg [TV.v (Value.int IntKind.i64 8), TV.v (Value.string s), TV.v (Value.string p.next.name.snd), TV.v (Value.int IntKind.i64 (IntKind.i64.wrap (IntKind.i64.wrap (IntKind.i64.wrap (IntKind.i64.wrap (0 + 1) + 1) + 1) + 1))), TV.v (Value.int IntKind.i64 0), TV.lst C.str []]]) else none else none else none else none else none else if p.Ok then if p.next.Ok then bif p.next.number.snd.snd then some ([], TV.tup [p.next.number.fst.tv, TV.agg [TV.v (Value.int IntKind.i64 9), TV.v (Value.string s), TV.v (Value.string (⟨#[]⟩ : ByteArray)), TV.v (Value.int IntKind.i64 (IntKind.i64.wrap (IntKind.i64.wrap (IntKind.i64.wrap (0 + 1) + 1) + 1))), TV.v (Value.int IntKind.i64 p.next.number.snd.fst), TV.lst C.str []]]) else if p.Ok then if p.next.Ok then some ([], TV.tup [p.next.name.fst.tv, TV.agg [TV.v (Value.int IntKind.i64 8), TV.v (Value.string s), TV.v (Value.string p.next.name.snd), TV.v (Value.int IntKind.i64 (IntKind.i64.wrap (IntKind.i64.wrap (IntKind.i64.wrap (0 + 1) + 1) + 1))), TV.v (Value.int IntKind.i64 0), TV.lst C.str []]]) else none else none else none else none else none else if p.Ok then if p.next.Ok then bif p.next.number.snd.snd then some ([], TV.tup [p.next.number.fst.tv, TV.agg [TV.v (Value.int IntKind.i64 9), TV.v (Value.string s), TV.v (Value.string (⟨#[]⟩ : ByteArray)), TV.v (Value.int IntKind.i64 (IntKind.i64.wrap (IntKind.i64.wrap (0 + 1) + 1))), TV.v (Value.int IntKind.i64 p.next.number.snd.fst), TV.lst C.str []]]) else if p.Ok then if p.next.Ok then some ([], TV.tup [p.next.name.fst.tv, TV.agg [TV.v (Value.int IntKind.i64 8), TV.v (Value.string s), TV.v (Value.string p.next.name.snd), TV.v (Value.int IntKind.i64 (IntKind.i64.wrap (IntKind.i64.wrap (0 + 1) + 1))), TV.v (Value.int IntKind.i64 0), TV.lst C.str []]]) else none else none else none else none else none else if p.Ok then if p.next.Ok then bif p.next.number.snd.snd then some ([], TV.tup [p.next.number.fst.tv, TV.agg [TV.v (Value.int IntKind.i64 9), TV.v (Value.string s), TV.v (Value.string (⟨#[]⟩ : ByteArray)), TV.v (Value.int IntKind.i64 (IntKind.i64.wrap (0 + 1))), TV.v (Value.int IntKind.i64 p.next.number.snd.fst), TV.lst C.str []]]) else if p.Ok then if p.next.Ok then some ([], TV.tup [p.next.name.fst.tv, TV.agg [TV.v (Value.int IntKind.i64 8), TV.v (Value.string s), TV.v (Value.string p.next.name.snd), TV.v (Value.int IntKind.i64 (IntKind.i64.wrap (0 + 1))), TV.v (Value.int IntKind.i64 0), TV.lst C.str []]]) else none else none else none else none else none else none else none := by kernel_rfl
/-- An operation with what stands behind it. -/
def PS.op (p : PS) (s : ByteArray) (k : Int) : PS × R112 := cond p.next.number.2.2 (p.next.number.1, ⟨9, s, ⟨#[]⟩, k, p.next.number.2.1, []⟩) (p.next.name.1, ⟨8, s, p.next.name.2, k, 0, []⟩)
def PS.bh (p : PS) (s : ByteArray) : PS × R112 :=
  cond (p.is ⟨#[40]⟩) (p.args.1, ⟨10, s, ⟨#[]⟩, 0, 0, p.args.2⟩) (cond (p.is ⟨#[46]⟩) (p.next.name.1, ⟨5, s, p.next.name.2, 0, 0, []⟩)
    (cond (!p.is ⟨#[43]⟩) (cond (!p.is ⟨#[45]⟩) (cond (!p.is ⟨#[42]⟩) (cond (!p.is ⟨#[60]⟩) (cond (!p.is ⟨#[61, 61]⟩) (p, ⟨3, s, ⟨#[]⟩, 0, 0, []⟩) (p.op s 5)) (p.op s 4)) (p.op s 3)) (p.op s 2)) (p.op s 1)))
theorem PS.number_left (p : PS) : p.number.1.left ≤ p.left := by
  unfold PS.number
  simp only [Bool.cond_eq_ite]
  have h1 := p.next_left
  have h2 := p.next.next_left
  repeat' split
  all_goals first | exact Nat.le_trans h2 h1 | exact h1 | (rw [PS.fail_left _ (by decide)]; exact Nat.zero_le _) | exact Nat.le_refl _
theorem PS.Ok.op {p : PS} (h : p.Ok) (s : ByteArray) (k : Int) : (p.op s k).1.Ok ∧ (p.op s k).1.left ≤ p.left := by
  have h1 := p.next_left
  unfold PS.op
  cases p.next.number.2.2 with
  | true => exact ⟨h.next.number, Nat.le_trans (PS.number_left _) h1⟩
  | false => exact ⟨h.next.name, Nat.le_trans h.next.name_lt (Nat.le_trans (Nat.sub_le _ _) h1)⟩
theorem PS.Ok.bh {p : PS} (h : p.Ok) (s : ByteArray) : (p.bh s).1.Ok ∧ (p.bh s).1.left ≤ p.left := by
  have h1 := p.next_left
  unfold PS.bh
  simp only [Bool.cond_eq_ite]
  repeat' split
  all_goals first | exact h.op _ _ | exact ⟨h, Nat.le_refl _⟩ | exact ⟨h.args, Nat.le_trans h.args_lt (Nat.sub_le _ _)⟩ | exact ⟨h.next.name, Nat.le_trans h.next.name_lt (Nat.le_trans (Nat.sub_le _ _) h1)⟩
noncomputable def sBehind : Spc U := .of dPs (fun x => x.1.Ok) (fun _ => []) fun x => .tup [(x.1.bh x.2).1.tv, exprV (x.1.bh x.2).2]
theorem sBehind_ok : SpecOk Try.prog 175 sBehind := by
  refine fn_okw wkE X_ok mixed Ee_ok an84 lp84 Try.func175 (by kernel_rfl) (by kernel_rfl) lp84_ok fun objs args x hp h => ?_
  obtain ⟨p, s⟩ := x
  obtain ⟨rfl, rfl⟩ := dPs_ok hp
  dsimp only at h ⊢
  rw [e84]
  unfold PS.bh PS.op
  simp only [h, h.next, if_true, Bool.cond_eq_ite]
  repeat' split
  all_goals first | kernel_rfl | (exfalso; simp_all; done)
noncomputable def Ef : FuncId → Option (Spc U)
  | 175 => some sBehind
  | f => Ee f
theorem Ef_ok : ∀ f S, Ef f = some S → SpecOk Try.prog f S := fun f S h => by
  unfold Ef at h
  split at h
  · cases h; exact sBehind_ok
  · exact Ee_ok _ _ h
theorem e85 (p : PS) : (evFn X Ef an85 lp0 Try.f176 [] [p.tv] fun (o : List (TO X.U)) (v : TV X.U) => some (o, wkE.f v)) = if p.Ok then bif p.is (⟨#[110, 117, 108, 108]⟩ : ByteArray) then if p.Ok then some ([], TV.tup [p.next.tv, TV.agg [TV.v (Value.int IntKind.i64 2), TV.v (Value.string (⟨#[]⟩ : ByteArray)), TV.v (Value.string (⟨#[]⟩ : ByteArray)), TV.v (Value.int IntKind.i64 0), TV.v (Value.int IntKind.i64 0), TV.lst C.str []]]) else none else if p.Ok then bif p.is (⟨#[110, 101, 119]⟩ : ByteArray) then if p.Ok then some ([], TV.tup [p.next.tv, TV.agg [TV.v (Value.int IntKind.i64 6), TV.v (Value.string (⟨#[]⟩ : ByteArray)), TV.v (Value.string (⟨#[]⟩ : ByteArray)), TV.v (Value.int IntKind.i64 0), TV.v (Value.int IntKind.i64 0), TV.lst C.str []]]) else none else if p.Ok then bif p.is (⟨#[64]⟩ : ByteArray) then if p.Ok then if p.next.Ok then some ([], TV.tup [p.next.name.fst.tv, TV.agg [TV.v (Value.int IntKind.i64 4), TV.v (Value.string p.next.name.snd), TV.v (Value.string (⟨#[]⟩ : ByteArray)), TV.v (Value.int IntKind.i64 0), TV.v (Value.int IntKind.i64 0), TV.lst C.str []]]) else none else none else if p.Ok then bif p.is (⟨#[38]⟩ : ByteArray) then if p.Ok then if p.next.Ok then some ([], TV.tup [p.next.name.fst.tv, TV.agg [TV.v (Value.int IntKind.i64 7), TV.v (Value.string p.next.name.snd), TV.v (Value.string (⟨#[]⟩ : ByteArray)), TV.v (Value.int IntKind.i64 0), TV.v (Value.int IntKind.i64 0), TV.lst C.str []]]) else none else none else if p.Ok then bif p.is (⟨#[42]⟩ : ByteArray) then if p.Ok then if p.next.Ok then if p.next.name.fst.Ok then some ([], TV.tup [p.next.name.fst.args.fst.tv, TV.agg [TV.v (Value.int IntKind.i64 11), TV.v (Value.string p.next.name.snd), TV.v (Value.string (⟨#[]⟩ : ByteArray)), TV.v (Value.int IntKind.i64 0), TV.v (Value.int IntKind.i64 0), TV.lst C.str p.next.name.fst.args.snd]]) else none else none else none else if p.Ok then bif decide (p.now.Kind = 1) then if p.Ok then if p.Ok then if p.next.Ok then some ([], TV.tup [(p.next.bh p.now.S).fst.tv, exprV (p.next.bh p.now.S).snd]) else none else none else none else if p.Ok then bif !p.number.snd.snd then if p.Ok then if True then some ([], TV.tup [(p.fail 181 p.now.At).tv, TV.agg [TV.v (Value.int IntKind.i64 1), TV.v (Value.string (⟨#[]⟩ : ByteArray)), TV.v (Value.string (⟨#[]⟩ : ByteArray)), TV.v (Value.int IntKind.i64 0), TV.v (Value.int IntKind.i64 0), TV.lst C.str []]]) else none else none else some ([], TV.tup [p.number.fst.tv, TV.agg [TV.v (Value.int IntKind.i64 1), TV.v (Value.string (⟨#[]⟩ : ByteArray)), TV.v (Value.string (⟨#[]⟩ : ByteArray)), TV.v (Value.int IntKind.i64 0), TV.v (Value.int IntKind.i64 p.number.snd.fst), TV.lst C.str []]]) else none else none else none else none else none else none else none := by kernel_rfl
def PS.expr (p : PS) : PS × R112 :=
  cond (p.is ⟨#[110, 117, 108, 108]⟩) (p.next, ⟨2, ⟨#[]⟩, ⟨#[]⟩, 0, 0, []⟩) (cond (p.is ⟨#[110, 101, 119]⟩) (p.next, ⟨6, ⟨#[]⟩, ⟨#[]⟩, 0, 0, []⟩)
    (cond (p.is ⟨#[64]⟩) (p.next.name.1, ⟨4, p.next.name.2, ⟨#[]⟩, 0, 0, []⟩) (cond (p.is ⟨#[38]⟩) (p.next.name.1, ⟨7, p.next.name.2, ⟨#[]⟩, 0, 0, []⟩)
      (cond (p.is ⟨#[42]⟩) (p.next.name.1.args.1, ⟨11, p.next.name.2, ⟨#[]⟩, 0, 0, p.next.name.1.args.2⟩) (cond (decide (p.now.Kind = 1)) (p.next.bh p.now.S)
        (cond (!p.number.2.2) (p.fail 181 p.now.At, ⟨1, ⟨#[]⟩, ⟨#[]⟩, 0, 0, []⟩) (p.number.1, ⟨1, ⟨#[]⟩, ⟨#[]⟩, 0, p.number.2.1, []⟩)))))))
theorem PS.Ok.expr {p : PS} (h : p.Ok) : p.expr.1.Ok ∧ p.expr.1.left ≤ p.left := by
  have h1 := p.next_left
  have h2 := h.next.name_lt
  have h3 := h.next.name.args_lt
  unfold PS.expr
  simp only [Bool.cond_eq_ite]
  repeat' split
  all_goals first | exact ⟨h.next, h1⟩ | exact ⟨h.next.name, by dsimp only; omega⟩ | exact ⟨h.next.name.args, by dsimp only; omega⟩ | exact ⟨(h.next.bh _).1, Nat.le_trans (h.next.bh _).2 h1⟩ | exact ⟨h.fail (by decide) _, by dsimp only; rw [PS.fail_left _ (by decide)]; exact Nat.zero_le _⟩ | exact ⟨h.number, p.number_left⟩
noncomputable def sExpr : Spc U := .of dP (fun p => p.Ok) (fun _ => []) fun p => .tup [p.expr.1.tv, exprV p.expr.2]
theorem sExpr_ok : SpecOk Try.prog 176 sExpr := by
  refine fn_okw wkE X_ok mixed Ef_ok an85 lp0 Try.func176 (by kernel_rfl) (by kernel_rfl) (lp0_ok (by kernel_rfl)) fun objs args p hp h => ?_
  obtain ⟨rfl, rfl⟩ := dP_ok hp
  dsimp only at h ⊢
  rw [e85]
  unfold PS.expr
  simp only [h, h.next, h.next.name, if_true, Bool.cond_eq_ite]
  repeat' split
  all_goals first | kernel_rfl | (exfalso; simp_all; done)
end Go.Proofs.Ytpkgikchphgfaaa.Fl
/- The references' parser: statements without others. -/
namespace Go.Proofs.Ytpkgikchphgfaaa.Fl
open Go Go.RowKit Go.Proofs.Ytpkgikchphgfaaa.Eng
set_option linter.unusedVariables false
set_option linter.unusedSimpArgs false
set_option maxRecDepth 20000
noncomputable def Eg : FuncId → Option (Spc U)
  | 175 => some sBehind
  | 176 => some sExpr
  | f => Ee f
theorem Eg_ok : ∀ f S, Eg f = some S → SpecOk Try.prog f S := fun f S h => by
  unfold Eg at h
  split at h
  · cases h; exact sBehind_ok
  · cases h; exact sExpr_ok
  · exact Ee_ok _ _ h
def nl : TV U := .v (.slice none 0 0)
def bz : ByteArray := ⟨#[]⟩
/-- A statement of which the place is told alone. -/
def zst (a : Int) : TV U := .agg [.v (.int .i64 0), .v (.int .i64 a), .v (.string bz), .v (.string bz), .v (.string bz), .v (.int .i64 0), .v (.string bz), .v (.string bz), .v (.int .i64 0), .v (.int .i64 0), nl, nl, nl]
def stV (s : R114) : TV U := .agg [.v (.int .i64 s.Kind), .v (.int .i64 s.At), .v (.string s.To), .v (.string s.Field), .v (.string s.From), .v (.int .i64 s.Expr.Kind), .v (.string s.Expr.A), .v (.string s.Expr.B), .v (.int .i64 s.Expr.Op), .v (.int .i64 s.Expr.N), .lst .str s.Expr.Args, .lst .t114 s.Body, .lst .t114 s.Else]
def wkS : Lw U := .a [.no, .a [.no, .no, .no, .no, .no, .no, .no, .no, .no, .no, .l .str, .l .t114, .l .t114]]
def an83 : Ann := ⟨fun _ => 0, fun _ => 0, fun _ => [], false⟩
def an81 : Ann := ⟨fun _ => 0, fun _ => 0, fun _ => [], false⟩
def dZ (objs : List (TO U)) (args : List (TV U)) : Option (PS × Int × Int × ByteArray × ByteArray × ByteArray × Int × ByteArray × ByteArray × Int × Int) := match objs, args with
  | [], [a0, a1] =>
    match a0 with
    | .agg [q0, q1, q2, q3, q4, q5] =>
      match q0 with
      | .lst .t53 p_L =>
        match q1 with
        | .v (.int .i64 p_At) =>
          match q2 with
          | .v (.int .i64 p_Deep) =>
            match q3 with
            | .v (.int .i64 p_Many) =>
              match q4 with
              | .v (.int .i64 p_Code) =>
                match q5 with
                | .v (.int .i64 p_FAt) =>
                  match a1 with
                  | .agg [q6, q7, q8, q9, q10, q11, q12, q13, q14, q15, q16, q17, q18] =>
                    match q6 with
                    | .v (.int .i64 k) =>
                      match q7 with
                      | .v (.int .i64 at') =>
                        match q8 with
                        | .v (.string to) =>
                          match q9 with
                          | .v (.string fi) =>
                            match q10 with
                            | .v (.string fr) =>
                              match q11 with
                              | .v (.int .i64 ek) =>
                                match q12 with
                                | .v (.string ea) =>
                                  match q13 with
                                  | .v (.string eb) =>
                                    match q14 with
                                    | .v (.int .i64 eo) =>
                                      match q15 with
                                      | .v (.int .i64 en) =>
                                        match q16 with
                                        | .v (.slice none 0 0) =>
                                          match q17 with
                                          | .v (.slice none 0 0) =>
                                            match q18 with
                                            | .v (.slice none 0 0) =>
                                              some ((⟨p_L, p_At, p_Deep, p_Many, p_Code, p_FAt⟩ : PS), k, at', to, fi, fr, ek, ea, eb, eo, en)
                                            | _ => none
                                          | _ => none
                                        | _ => none
                                      | _ => none
                                    | _ => none
                                  | _ => none
                                | _ => none
                              | _ => none
                            | _ => none
                          | _ => none
                        | _ => none
                      | _ => none
                    | _ => none
                  | _ => none
                | _ => none
              | _ => none
            | _ => none
          | _ => none
        | _ => none
      | _ => none
    | _ => none
  | _, _ => none
theorem dZ_ok {objs : List (TO U)} {args : List (TV U)} {p : PS} {k : Int} {at' : Int} {to : ByteArray} {fi : ByteArray} {fr : ByteArray} {ek : Int} {ea : ByteArray} {eb : ByteArray} {eo : Int} {en : Int} (h : dZ objs args = some (p, k, at', to, fi, fr, ek, ea, eb, eo, en)) : objs = [] ∧ args = [p.tv, .agg [.v (.int .i64 k), .v (.int .i64 at'), .v (.string to), .v (.string fi), .v (.string fr), .v (.int .i64 ek), .v (.string ea), .v (.string eb), .v (.int .i64 eo), .v (.int .i64 en), .v (.slice none 0 0), .v (.slice none 0 0), .v (.slice none 0 0)]] := by
  unfold dZ at h
  repeat' split at h
  all_goals first | (cases h; done) | (cases h; exact ⟨rfl, rfl⟩)
def dZ2 (objs : List (TO U)) (args : List (TV U)) : Option (PS × Int × Int × Int × ByteArray × ByteArray × ByteArray × Int × ByteArray × ByteArray × Int × Int) := match objs, args with
  | [], [a0, a1, a2] =>
    match a0 with
    | .agg [q0, q1, q2, q3, q4, q5] =>
      match q0 with
      | .lst .t53 p_L =>
        match q1 with
        | .v (.int .i64 p_At) =>
          match q2 with
          | .v (.int .i64 p_Deep) =>
            match q3 with
            | .v (.int .i64 p_Many) =>
              match q4 with
              | .v (.int .i64 p_Code) =>
                match q5 with
                | .v (.int .i64 p_FAt) =>
                  match a1 with
                  | .v (.int .i64 q) =>
                    match a2 with
                    | .agg [q6, q7, q8, q9, q10, q11, q12, q13, q14, q15, q16, q17, q18] =>
                      match q6 with
                      | .v (.int .i64 k) =>
                        match q7 with
                        | .v (.int .i64 at') =>
                          match q8 with
                          | .v (.string to) =>
                            match q9 with
                            | .v (.string fi) =>
                              match q10 with
                              | .v (.string fr) =>
                                match q11 with
                                | .v (.int .i64 ek) =>
                                  match q12 with
                                  | .v (.string ea) =>
                                    match q13 with
                                    | .v (.string eb) =>
                                      match q14 with
                                      | .v (.int .i64 eo) =>
                                        match q15 with
                                        | .v (.int .i64 en) =>
                                          match q16 with
                                          | .v (.slice none 0 0) =>
                                            match q17 with
                                            | .v (.slice none 0 0) =>
                                              match q18 with
                                              | .v (.slice none 0 0) =>
                                                some ((⟨p_L, p_At, p_Deep, p_Many, p_Code, p_FAt⟩ : PS), q, k, at', to, fi, fr, ek, ea, eb, eo, en)
                                              | _ => none
                                            | _ => none
                                          | _ => none
                                        | _ => none
                                      | _ => none
                                    | _ => none
                                  | _ => none
                                | _ => none
                              | _ => none
                            | _ => none
                          | _ => none
                        | _ => none
                      | _ => none
                    | _ => none
                  | _ => none
                | _ => none
              | _ => none
            | _ => none
          | _ => none
        | _ => none
      | _ => none
    | _ => none
  | _, _ => none
theorem dZ2_ok {objs : List (TO U)} {args : List (TV U)} {p : PS} {q : Int} {k : Int} {at' : Int} {to : ByteArray} {fi : ByteArray} {fr : ByteArray} {ek : Int} {ea : ByteArray} {eb : ByteArray} {eo : Int} {en : Int} (h : dZ2 objs args = some (p, q, k, at', to, fi, fr, ek, ea, eb, eo, en)) : objs = [] ∧ args = [p.tv, .v (.int .i64 q), .agg [.v (.int .i64 k), .v (.int .i64 at'), .v (.string to), .v (.string fi), .v (.string fr), .v (.int .i64 ek), .v (.string ea), .v (.string eb), .v (.int .i64 eo), .v (.int .i64 en), .v (.slice none 0 0), .v (.slice none 0 0), .v (.slice none 0 0)]] := by
  unfold dZ2 at h
  repeat' split at h
  all_goals first | (cases h; done) | (cases h; exact ⟨rfl, rfl⟩)
def Z0 (k : Int) (to fi fr : ByteArray) (ek : Int) (ea eb : ByteArray) (eo en : Int) : Prop := (k = 0 ∧ to = bz ∧ fi = bz ∧ fr = bz ∧ ek = 0) ∧ ea = bz ∧ eb = bz ∧ eo = 0 ∧ en = 0
noncomputable instance (k : Int) (to fi fr : ByteArray) (ek : Int) (ea eb : ByteArray) (eo en : Int) : Decidable (Z0 k to fi fr ek ea eb eo en) := Classical.propDecidable _
theorem z0b : Z0 0 bz bz bz 0 bz bz 0 0 := ⟨⟨rfl, rfl, rfl, rfl, rfl⟩, rfl, rfl, rfl, rfl⟩
theorem z0 : Z0 0 ⟨#[]⟩ ⟨#[]⟩ ⟨#[]⟩ 0 ⟨#[]⟩ ⟨#[]⟩ 0 0 := ⟨⟨rfl, rfl, rfl, rfl, rfl⟩, rfl, rfl, rfl, rfl⟩
theorem e83 (p : PS) (q : Int) (at' : Int) : (evFn X Eg an83 lp0 Try.f174 [] [p.tv, TV.v (Value.int IntKind.i64 q), zst at'] fun (o : List (TO X.U)) (v : TV X.U) => some (o, wkS.f v)) = if p.Ok then bif decide (p.expr.snd.Kind < 10) then if p.Ok then if True then some ([], TV.tup [(p.expr.fst.fail 181 p.now.At).tv, TV.agg [TV.v (Value.int IntKind.i64 q), TV.v (Value.int IntKind.i64 at'), TV.v (Value.string bz), TV.v (Value.string bz), TV.v (Value.string bz), TV.v (Value.int IntKind.i64 p.expr.snd.Kind), TV.v (Value.string p.expr.snd.A), TV.v (Value.string p.expr.snd.B), TV.v (Value.int IntKind.i64 p.expr.snd.Op), TV.v (Value.int IntKind.i64 p.expr.snd.N), TV.lst C.str p.expr.snd.Args, TV.lst C.t114 [], TV.lst C.t114 []]]) else none else none else some ([], TV.tup [p.expr.fst.tv, TV.agg [TV.v (Value.int IntKind.i64 q), TV.v (Value.int IntKind.i64 at'), TV.v (Value.string bz), TV.v (Value.string bz), TV.v (Value.string bz), TV.v (Value.int IntKind.i64 p.expr.snd.Kind), TV.v (Value.string p.expr.snd.A), TV.v (Value.string p.expr.snd.B), TV.v (Value.int IntKind.i64 p.expr.snd.Op), TV.v (Value.int IntKind.i64 p.expr.snd.N), TV.lst C.str p.expr.snd.Args, TV.lst C.t114 [], TV.lst C.t114 []]]) else none := by kernel_rfl
def PS.called (p : PS) (k a : Int) : PS × R114 := (cond (decide (p.expr.2.Kind < 10)) (p.expr.1.fail 181 p.now.At) p.expr.1, .mk k a bz bz bz p.expr.2 [] [])
theorem PS.Ok.called {p : PS} (h : p.Ok) (k a : Int) : (p.called k a).1.Ok ∧ (p.called k a).1.left ≤ p.left := by
  unfold PS.called
  cases decide (p.expr.2.Kind < 10) with
  | true => exact ⟨h.expr.1.fail (by decide) _, by dsimp only [cond_true]; rw [PS.fail_left _ (by decide)]; exact Nat.zero_le _⟩
  | false => exact h.expr
noncomputable def sCalled : Spc U := .of dZ2 (fun (p, q, k, a, to, fi, fr, ek, ea, eb, eo, en) => p.Ok ∧ Z0 k to fi fr ek ea eb eo en) (fun _ => []) fun (p, q, k, a, to, fi, fr, ek, ea, eb, eo, en) => .tup [(p.called q a).1.tv, stV (p.called q a).2]
theorem sCalled_ok : SpecOk Try.prog 174 sCalled := by
  refine fn_okw wkS X_ok mixed Eg_ok an83 lp0 Try.func174 (by kernel_rfl) (by kernel_rfl) (lp0_ok (by kernel_rfl)) fun objs args x hp h => ?_
  obtain ⟨p, q, k, a, to, fi, fr, ek, ea, eb, eo, en⟩ := x
  obtain ⟨rfl, rfl⟩ := dZ2_ok hp
  obtain ⟨h, ⟨rfl, rfl, rfl, rfl, rfl⟩, rfl, rfl, rfl, rfl⟩ := h
  dsimp only
  refine (e83 p q a).trans ?_
  unfold PS.called
  simp only [h, if_true]
  cases decide (p.expr.2.Kind < 10) <;> rfl
noncomputable def Eh : FuncId → Option (Spc U)
  | 174 => some sCalled
  | f => Eg f
theorem Eh_ok : ∀ f S, Eh f = some S → SpecOk Try.prog f S := fun f S h => by
  unfold Eh at h
  split at h
  · cases h; exact sCalled_ok
  · exact Eg_ok _ _ h
theorem e81 (p : PS) (at' : Int) : (evFn X Eh an81 lp0 Try.f158 [] [p.tv, zst at'] fun (o : List (TO X.U)) (v : TV X.U) => some (o, wkS.f v)) = if p.Ok then bif p.is (⟨#[115, 112, 97, 119, 110]⟩ : ByteArray) then if p.Ok then if p.next.Ok ∧ Z0 0 bz bz bz 0 bz bz 0 0 then some ([], TV.tup [(p.next.called 8 at').fst.tv, TV.agg [TV.v (Value.int IntKind.i64 (p.next.called 8 at').snd.Kind), TV.v (Value.int IntKind.i64 (p.next.called 8 at').snd.At), TV.v (Value.string (p.next.called 8 at').snd.To), TV.v (Value.string (p.next.called 8 at').snd.Field), TV.v (Value.string (p.next.called 8 at').snd.From), TV.v (Value.int IntKind.i64 (p.next.called 8 at').snd.Expr.Kind), TV.v (Value.string (p.next.called 8 at').snd.Expr.A), TV.v (Value.string (p.next.called 8 at').snd.Expr.B), TV.v (Value.int IntKind.i64 (p.next.called 8 at').snd.Expr.Op), TV.v (Value.int IntKind.i64 (p.next.called 8 at').snd.Expr.N), TV.lst C.str (p.next.called 8 at').snd.Expr.Args, TV.lst C.t114 (p.next.called 8 at').snd.Body, TV.lst C.t114 (p.next.called 8 at').snd.Else]]) else none else none else if p.Ok then bif p.is (⟨#[42]⟩ : ByteArray) then if p.Ok ∧ Z0 0 bz bz bz 0 bz bz 0 0 then some ([], TV.tup [(p.called 9 at').fst.tv, TV.agg [TV.v (Value.int IntKind.i64 (p.called 9 at').snd.Kind), TV.v (Value.int IntKind.i64 (p.called 9 at').snd.At), TV.v (Value.string (p.called 9 at').snd.To), TV.v (Value.string (p.called 9 at').snd.Field), TV.v (Value.string (p.called 9 at').snd.From), TV.v (Value.int IntKind.i64 (p.called 9 at').snd.Expr.Kind), TV.v (Value.string (p.called 9 at').snd.Expr.A), TV.v (Value.string (p.called 9 at').snd.Expr.B), TV.v (Value.int IntKind.i64 (p.called 9 at').snd.Expr.Op), TV.v (Value.int IntKind.i64 (p.called 9 at').snd.Expr.N), TV.lst C.str (p.called 9 at').snd.Expr.Args, TV.lst C.t114 (p.called 9 at').snd.Body, TV.lst C.t114 (p.called 9 at').snd.Else]]) else none else if p.Ok then bif p.is (⟨#[64]⟩ : ByteArray) then if p.Ok then if p.next.Ok then if p.next.name.fst.Ok then if (p.next.name.fst.must (⟨#[61]⟩ : ByteArray)).Ok then some ([], TV.tup [(p.next.name.fst.must (⟨#[61]⟩ : ByteArray)).name.fst.tv, TV.agg [TV.v (Value.int IntKind.i64 2), TV.v (Value.int IntKind.i64 at'), TV.v (Value.string p.next.name.snd), TV.v (Value.string bz), TV.v (Value.string (p.next.name.fst.must (⟨#[61]⟩ : ByteArray)).name.snd), TV.v (Value.int IntKind.i64 0), TV.v (Value.string bz), TV.v (Value.string bz), TV.v (Value.int IntKind.i64 0), TV.v (Value.int IntKind.i64 0), TV.lst C.str [], TV.lst C.t114 [], TV.lst C.t114 []]]) else none else none else none else none else if p.Ok then if p.name.fst.Ok then bif p.name.fst.is (⟨#[40]⟩ : ByteArray) then if p.name.fst.Ok then some ([], TV.tup [(p.name.fst.bh p.name.snd).fst.tv, TV.agg [TV.v (Value.int IntKind.i64 9), TV.v (Value.int IntKind.i64 at'), TV.v (Value.string bz), TV.v (Value.string bz), TV.v (Value.string bz), TV.v (Value.int IntKind.i64 (p.name.fst.bh p.name.snd).snd.Kind), TV.v (Value.string (p.name.fst.bh p.name.snd).snd.A), TV.v (Value.string (p.name.fst.bh p.name.snd).snd.B), TV.v (Value.int IntKind.i64 (p.name.fst.bh p.name.snd).snd.Op), TV.v (Value.int IntKind.i64 (p.name.fst.bh p.name.snd).snd.N), TV.lst C.str (p.name.fst.bh p.name.snd).snd.Args, TV.lst C.t114 [], TV.lst C.t114 []]]) else none else if p.name.fst.Ok then bif p.name.fst.is (⟨#[46]⟩ : ByteArray) then if p.name.fst.Ok then if p.name.fst.next.Ok then if p.name.fst.next.name.fst.Ok then if (p.name.fst.next.name.fst.must (⟨#[61]⟩ : ByteArray)).Ok then some ([], TV.tup [(p.name.fst.next.name.fst.must (⟨#[61]⟩ : ByteArray)).name.fst.tv, TV.agg [TV.v (Value.int IntKind.i64 3), TV.v (Value.int IntKind.i64 at'), TV.v (Value.string p.name.snd), TV.v (Value.string p.name.fst.next.name.snd), TV.v (Value.string (p.name.fst.next.name.fst.must (⟨#[61]⟩ : ByteArray)).name.snd), TV.v (Value.int IntKind.i64 0), TV.v (Value.string bz), TV.v (Value.string bz), TV.v (Value.int IntKind.i64 0), TV.v (Value.int IntKind.i64 0), TV.lst C.str [], TV.lst C.t114 [], TV.lst C.t114 []]]) else none else none else none else none else if p.name.fst.Ok then if (p.name.fst.must (⟨#[61]⟩ : ByteArray)).Ok then some ([], TV.tup [(p.name.fst.must (⟨#[61]⟩ : ByteArray)).expr.fst.tv, TV.agg [TV.v (Value.int IntKind.i64 1), TV.v (Value.int IntKind.i64 at'), TV.v (Value.string p.name.snd), TV.v (Value.string bz), TV.v (Value.string bz), TV.v (Value.int IntKind.i64 (p.name.fst.must (⟨#[61]⟩ : ByteArray)).expr.snd.Kind), TV.v (Value.string (p.name.fst.must (⟨#[61]⟩ : ByteArray)).expr.snd.A), TV.v (Value.string (p.name.fst.must (⟨#[61]⟩ : ByteArray)).expr.snd.B), TV.v (Value.int IntKind.i64 (p.name.fst.must (⟨#[61]⟩ : ByteArray)).expr.snd.Op), TV.v (Value.int IntKind.i64 (p.name.fst.must (⟨#[61]⟩ : ByteArray)).expr.snd.N), TV.lst C.str (p.name.fst.must (⟨#[61]⟩ : ByteArray)).expr.snd.Args, TV.lst C.t114 [], TV.lst C.t114 []]]) else none else none else none else none else none else none else none else none := by kernel_rfl
def e0x : R112 := ⟨0, bz, bz, 0, 0, []⟩
def PS.sets (p : PS) (a : Int) : PS × R114 :=
  cond (p.is ⟨#[115, 112, 97, 119, 110]⟩) (p.next.called 8 a) (cond (p.is ⟨#[42]⟩) (p.called 9 a)
    (cond (p.is ⟨#[64]⟩) ((p.next.name.1.must ⟨#[61]⟩).name.1, .mk 2 a p.next.name.2 bz (p.next.name.1.must ⟨#[61]⟩).name.2 e0x [] [])
      (cond (p.name.1.is ⟨#[40]⟩) ((p.name.1.bh p.name.2).1, .mk 9 a bz bz bz (p.name.1.bh p.name.2).2 [] [])
        (cond (p.name.1.is ⟨#[46]⟩) ((p.name.1.next.name.1.must ⟨#[61]⟩).name.1, .mk 3 a p.name.2 p.name.1.next.name.2 (p.name.1.next.name.1.must ⟨#[61]⟩).name.2 e0x [] [])
          ((p.name.1.must ⟨#[61]⟩).expr.1, .mk 1 a p.name.2 bz bz (p.name.1.must ⟨#[61]⟩).expr.2 [] [])))))
theorem PS.Ok.sets {p : PS} (h : p.Ok) (a : Int) : (p.sets a).1.Ok ∧ (p.sets a).1.left ≤ p.left := by
  have h1 := p.next_left
  have h2 := h.next.name_lt
  have h3 := h.next.name.must_lt ⟨#[61]⟩
  have h4 := (h.next.name.must ⟨#[61]⟩).name_lt
  have h5 := h.name_lt
  have h6 := h.name.must_lt ⟨#[61]⟩
  have h7 := p.name.1.next_left
  have h8 := h.name.next.name_lt
  have h9 := h.name.next.name.must_lt ⟨#[61]⟩
  have h10 := (h.name.next.name.must ⟨#[61]⟩).name_lt
  have h11 := (h.next.called 8 a).2
  have h12 := (h.name.bh p.name.2).2
  have h13 := (h.name.must ⟨#[61]⟩).expr.2
  unfold PS.sets
  simp only [Bool.cond_eq_ite]
  repeat' split
  · exact ⟨(h.next.called _ _).1, by omega⟩
  · exact h.called _ _
  · exact ⟨(h.next.name.must _).name, by dsimp only; omega⟩
  · exact ⟨(h.name.bh _).1, by dsimp only; omega⟩
  · exact ⟨(h.name.next.name.must _).name, by dsimp only; omega⟩
  · exact ⟨(h.name.must _).expr.1, by dsimp only; omega⟩
noncomputable def sSets : Spc U := .of dZ (fun (p, k, a, to, fi, fr, ek, ea, eb, eo, en) => p.Ok ∧ Z0 k to fi fr ek ea eb eo en) (fun _ => []) fun (p, k, a, to, fi, fr, ek, ea, eb, eo, en) => .tup [(p.sets a).1.tv, stV (p.sets a).2]
theorem sSets_ok : SpecOk Try.prog 158 sSets := by
  refine fn_okw wkS X_ok mixed Eh_ok an81 lp0 Try.func158 (by kernel_rfl) (by kernel_rfl) (lp0_ok (by kernel_rfl)) fun objs args x hp h => ?_
  obtain ⟨p, k, a, to, fi, fr, ek, ea, eb, eo, en⟩ := x
  obtain ⟨rfl, rfl⟩ := dZ_ok hp
  obtain ⟨h, ⟨rfl, rfl, rfl, rfl, rfl⟩, rfl, rfl, rfl, rfl⟩ := h
  dsimp only
  refine (e81 p a).trans ?_
  unfold PS.sets
  simp only [h, h.next, h.next.name, PS.Ok.must h.next.name, h.name, h.name.next, h.name.next.name, PS.Ok.must h.name.next.name, PS.Ok.must h.name, z0b, and_self, if_true, Bool.cond_eq_ite]
  repeat' split
  all_goals first | kernel_rfl | (exfalso; simp_all; done)
end Go.Proofs.Ytpkgikchphgfaaa.Fl
/- The references' parser: statements within statements. -/
namespace Go.Proofs.Ytpkgikchphgfaaa.Fl
open Go Go.RowKit Go.Proofs.Ytpkgikchphgfaaa.Eng
set_option linter.unusedVariables false
set_option linter.unusedSimpArgs false
set_option maxRecDepth 20000
/-! ### How much there is in what was read -/
mutual
def cntS : R114 → Nat
  | .mk _ _ _ _ _ e b l => 1 + (e.Args.length + (cntL b + cntL l))
def cntL : List R114 → Nat
  | [] => 0
  | x :: l => cntS x + cntL l
end
theorem cntL_append : ∀ l m : List R114, cntL (l ++ m) = cntL l + cntL m
  | [], m => by rw [List.nil_append, cntL, Nat.zero_add]
  | x :: l, m => by rw [List.cons_append, cntL, cntL_append l m, cntL, Nat.add_assoc]
theorem cntL_one (x : R114) : cntL [x] = cntS x := by rw [cntL, cntL, Nat.add_zero]
theorem cntL_len : ∀ l : List R114, l.length ≤ cntL l
  | [] => Nat.zero_le _
  | x :: l => by
    have := cntL_len l
    have h1 : 1 ≤ cntS x := by cases x; rw [cntS]; omega
    rw [cntL, List.length_cons]
    omega
theorem argsL_cnt : ∀ (N : Nat) (q : PS) (out : List ByteArray), q.Ok → (argsL N q out).2.length + (argsL N q out).1.left ≤ out.length + q.left := by
  intro N
  induction N with
  | zero => intro q out h; exact Nat.le_refl _
  | succ N ih =>
    intro q out h
    rw [argsL]
    by_cases hc : q.Code = 0
    · rw [decide_eq_true hc, cond_true]
      have hpos := h.left_pos hc
      cases !q.is ⟨#[41]⟩ with
      | false => exact Nat.le_refl _
      | true =>
        simp only [cond_true]
        obtain ⟨q1, e1⟩ : ∃ q1, cond (decide (0 < (out.length : Int))) (q.must ⟨#[44]⟩) q = q1 := ⟨_, rfl⟩
        have h1 : q1.Ok ∧ q1.left ≤ q.left := by
          rw [← e1]
          cases decide (0 < (out.length : Int)) with
          | false => exact ⟨h, Nat.le_refl _⟩
          | true => exact ⟨h.must _, Nat.le_trans (h.must_lt _) (Nat.sub_le _ _)⟩
        rw [e1]
        have h2 := (h1.1.most (out.length : Int) 8).name
        have h3 := (h1.1.most (out.length : Int) 8).name_lt
        have h4 := q1.most_left out.length 8
        have c := ih _ (out ++ [(q1.most out.length 8).name.2]) h2
        rw [List.length_append] at c
        simp only [List.length_singleton] at c
        omega
    · rw [decide_eq_false hc]
      exact Nat.le_refl _
theorem PS.Ok.args_cnt {p : PS} (h : p.Ok) : p.args.2.length + p.args.1.left ≤ p.left - 1 := by
  have h1 := argsL_cnt ((p.must ⟨#[40]⟩).left + 1) _ [] (h.must ⟨#[40]⟩)
  have h2 := h.must_lt ⟨#[40]⟩
  rw [List.length_nil] at h1
  unfold PS.args
  cases decide ((argsL ((p.must ⟨#[40]⟩).left + 1) (p.must ⟨#[40]⟩) []).1.Code = 0) with
  | true =>
    have h3 := (argsL ((p.must ⟨#[40]⟩).left + 1) (p.must ⟨#[40]⟩) []).1.next_left
    simp only [cond_true]
    omega
  | false => simp only [cond_false]; omega
theorem PS.Ok.op_cnt {p : PS} (h : p.Ok) (s : ByteArray) (k : Int) : (p.op s k).2.Args = [] := by
  unfold PS.op
  cases p.next.number.2.2 <;> rfl
theorem PS.Ok.bh_cnt {p : PS} (h : p.Ok) (s : ByteArray) : (p.bh s).2.Args.length + (p.bh s).1.left ≤ p.left := by
  have h1 := (h.bh s).2
  have h2 := h.args_cnt
  have h3 := fun k => h.op_cnt s k
  revert h1
  unfold PS.bh
  simp only [Bool.cond_eq_ite]
  repeat' split
  all_goals intro h1; first | (rw [h3]; rw [List.length_nil, Nat.zero_add]; exact h1) | (dsimp only [List.length_nil] at h1 ⊢; omega)
theorem PS.Ok.number_lt {p : PS} (h : p.Ok) (hn : p.number.2.2 = true) : p.number.1.left ≤ p.left - 1 := by
  revert hn
  unfold PS.number
  cases hm : p.is ⟨#[45]⟩ with
  | true =>
    have h1 := h.next_lt (PS.is_kind hm)
    simp only [cond_true]
    cases !decide (p.next.now.Kind = 2) with
    | true => intro _; simp only [cond_true]; rw [PS.fail_left _ (by decide)]; exact Nat.zero_le _
    | false => intro _; exact Nat.le_trans (PS.next_left _) h1
  | false =>
    simp only [cond_false]
    by_cases hk : p.now.Kind = 2
    · intro _
      rw [decide_eq_true hk]
      exact h.next_lt (by omega)
    · rw [decide_eq_false hk]
      intro hf
      cases hf
theorem PS.Ok.expr_cnt {p : PS} (h : p.Ok) : p.expr.2.Args.length + p.expr.1.left ≤ p.left - 1 := by
  have h2 := h.next.name_lt
  have h3 := h.next.name.args_cnt
  have h4 := h.next.bh_cnt p.now.S
  have h5 := p.next_left
  unfold PS.expr
  simp only [Bool.cond_eq_ite]
  split
  · rename_i hi
    have := h.next_lt (PS.is_kind hi)
    dsimp only [List.length_nil]; omega
  · split
    · rename_i hi
      have := h.next_lt (PS.is_kind hi)
      dsimp only [List.length_nil]; omega
    · split
      · dsimp only [List.length_nil]; omega
      · split
        · dsimp only [List.length_nil]; omega
        · split
          · dsimp only; omega
          · split
            · rename_i hk
              have hk := of_decide_eq_true hk
              have := h.next_lt (by omega)
              omega
            · split
              · dsimp only [List.length_nil]; rw [PS.fail_left _ (by decide)]; exact Nat.zero_le _
              · rename_i hn
                have hn : p.number.2.2 = true := by simpa using hn
                have := h.number_lt hn
                dsimp only [List.length_nil]; omega
theorem PS.Ok.called_cnt {p : PS} (h : p.Ok) (k a : Int) : cntS (p.called k a).2 + (p.called k a).1.left ≤ 1 + (p.left - 1) := by
  have h1 := h.expr_cnt
  have h2 : (p.called k a).1.left ≤ p.expr.1.left := by
    unfold PS.called
    cases decide (p.expr.2.Kind < 10) with
    | true => simp only [cond_true]; rw [PS.fail_left _ (by decide)]; exact Nat.zero_le _
    | false => exact Nat.le_refl _
  have h3 : cntS (p.called k a).2 = 1 + (p.expr.2.Args.length + (0 + 0)) := by
    unfold PS.called
    simp only [cntS, cntL]
  omega
theorem PS.Ok.sets_cnt {p : PS} (h : p.Ok) (a : Int) : cntS (p.sets a).2 + (p.sets a).1.left ≤ 1 + (p.left - 1) := by
  have h1 := p.next_left
  have h2 := h.next.name_lt
  have h3 := h.next.name.must_lt ⟨#[61]⟩
  have h4 := (h.next.name.must ⟨#[61]⟩).name_lt
  have h5 := h.name_lt
  have h6 := h.name.must_lt ⟨#[61]⟩
  have h7 := p.name.1.next_left
  have h8 := h.name.next.name_lt
  have h9 := h.name.next.name.must_lt ⟨#[61]⟩
  have h10 := (h.name.next.name.must ⟨#[61]⟩).name_lt
  have h11 := h.next.called_cnt 8 a
  have h12 := h.name.bh_cnt p.name.2
  have h13 := (h.name.must ⟨#[61]⟩).expr_cnt
  have h14 := h.called_cnt 9 a
  unfold PS.sets
  simp only [Bool.cond_eq_ite]
  repeat' split
  all_goals try simp only [cntS, cntL, e0x, List.length_nil]
  all_goals omega
end Go.Proofs.Ytpkgikchphgfaaa.Fl
/- The references' parser: statements within statements, as what they come to. -/
namespace Go.Proofs.Ytpkgikchphgfaaa.Fl
open Go Go.RowKit Go.Proofs.Ytpkgikchphgfaaa.Eng
set_option linter.unusedVariables false
set_option linter.unusedSimpArgs false
set_option maxRecDepth 20000
def PS.up (p : PS) : PS := { p with Deep := IntKind.i64.wrap (p.Deep + 1) }
def PS.dn (p : PS) : PS := { p with Deep := IntKind.i64.wrap (p.Deep - 1) }
def PS.mm (p : PS) : PS := { p with Many := IntKind.i64.wrap (p.Many + 1) }
theorem PS.Ok.up {p : PS} (h : p.Ok) : p.up.Ok := ⟨h.len, h.last, h.here⟩
theorem PS.Ok.dn {p : PS} (h : p.Ok) : p.dn.Ok := ⟨h.len, h.last, h.here⟩
theorem PS.Ok.mm {p : PS} (h : p.Ok) : p.mm.Ok := ⟨h.len, h.last, h.here⟩
def blockW (stm : PS → PS × List R114) (p : PS) : PS × List R114 := ((stm ((p.must ⟨#[123]⟩).most (p.must ⟨#[123]⟩).Deep 64).up).1.dn, (stm ((p.must ⟨#[123]⟩).most (p.must ⟨#[123]⟩).Deep 64).up).2)
def stmtsL (st : PS → PS × R114) : Nat → PS → List R114 → PS × List R114
  | 0, q, out => (q, out)
  | N + 1, q, out => cond (decide (q.Code = 0)) (cond (!q.is ⟨#[125]⟩) (stmtsL st N (st (q.most q.Many 2048).mm).1 (out ++ [(st (q.most q.Many 2048).mm).2])) (q, out)) (q, out)
def stmtsW (st : PS → PS × R114) (p : PS) : PS × List R114 := (cond (decide ((stmtsL st (p.left + 1) p []).1.Code = 0)) (stmtsL st (p.left + 1) p []).1.next (stmtsL st (p.left + 1) p []).1, (stmtsL st (p.left + 1) p []).2)
def bIf : ByteArray := ⟨#[105, 102]⟩
def bElse : ByteArray := ⟨#[101, 108, 115, 101]⟩
def bWhile : ByteArray := ⟨#[119, 104, 105, 108, 101]⟩
def bLock : ByteArray := ⟨#[108, 111, 99, 107]⟩
def bUnlock : ByteArray := ⟨#[117, 110, 108, 111, 99, 107]⟩
def bReturn : ByteArray := ⟨#[114, 101, 116, 117, 114, 110]⟩
def bSkip : ByteArray := ⟨#[115, 107, 105, 112]⟩
def bSemi : ByteArray := ⟨#[59]⟩
def ifW (blk : PS → PS × List R114) (a : Int) (p : PS) (s : ByteArray) : PS × R114 := cond ((blk p).1.is bElse) ((blk (blk p).1.next).1, .mk 4 a bz bz s e0x (blk p).2 (blk (blk p).1.next).2) ((blk p).1, .mk 4 a bz bz s e0x (blk p).2 [])
def stmtW (blk : PS → PS × List R114) (p : PS) : PS × R114 :=
  cond (!p.is bIf) (cond (!p.is bWhile) (cond (!p.is bLock) (cond (!p.is bUnlock)
    (cond (p.is bReturn) (cond (!p.next.is bSemi) (p.next.name.1.must bSemi, .mk 10 p.now.At bz bz p.next.name.2 e0x [] []) (p.next.must bSemi, .mk 10 p.now.At bz bz bz e0x [] []))
      (cond (p.is bSkip) (p.next.must bSemi, .mk 11 p.now.At bz bz bz e0x [] []) ((p.sets p.now.At).1.must bSemi, (p.sets p.now.At).2)))
    (p.next.name.1.must bSemi, .mk 7 p.now.At bz bz p.next.name.2 e0x [] []))
    (p.next.name.1.must bSemi, .mk 6 p.now.At bz bz p.next.name.2 e0x [] []))
    ((blk p.next.name.1).1, .mk 5 p.now.At bz bz p.next.name.2 e0x (blk p.next.name.1).2 []))
    (ifW blk p.now.At p.next.name.1 p.next.name.2)
def blockN : Nat → PS → PS × List R114
  | 0, p => (p, [])
  | N + 1, p => blockW (stmtsW (stmtW (blockN N))) p
def PS.block (p : PS) : PS × List R114 := blockN (p.left + 1) p
def PS.stmt (p : PS) : PS × R114 := stmtW PS.block p
def PS.stmts (p : PS) : PS × List R114 := stmtsW PS.stmt p
noncomputable def sBlockLt (n : Nat) : Spc U := .of dP (fun p => p.Ok ∧ p.left < n) (fun _ => []) fun p => .tup [p.block.1.tv, .lst .t114 p.block.2]
noncomputable def sStmtsLt (n : Nat) : Spc U := .of dP (fun p => p.Ok ∧ p.left < n) (fun _ => []) fun p => .tup [p.stmts.1.tv, .lst .t114 p.stmts.2]
noncomputable def sStmtLt (n : Nat) : Spc U := .of dP (fun p => p.Ok ∧ p.left < n) (fun _ => []) fun p => .tup [p.stmt.1.tv, stV p.stmt.2]
noncomputable def Ei (n : Nat) : FuncId → Option (Spc U)
  | 97 => some (sStmtsLt n)
  | f => Ed f
noncomputable def Ej (n : Nat) : FuncId → Option (Spc U)
  | 133 => some (sStmtLt n)
  | f => Ed f
noncomputable def Ek (n : Nat) : FuncId → Option (Spc U)
  | 157 => some (sBlockLt n)
  | 158 => some sSets
  | f => Ed f
theorem Ei_ok {n : Nat} (h0 : SpecOk Try.prog 97 (sStmtsLt n)) : ∀ f S, Ei n f = some S → SpecOk Try.prog f S := fun f S h => by
  unfold Ei at h
  split at h
  · cases h; exact h0
  · exact Ed_ok _ _ h
theorem Ej_ok {n : Nat} (h0 : SpecOk Try.prog 133 (sStmtLt n)) : ∀ f S, Ej n f = some S → SpecOk Try.prog f S := fun f S h => by
  unfold Ej at h
  split at h
  · cases h; exact h0
  · exact Ed_ok _ _ h
def an76 : Ann := ⟨fun | 0 => 254 | _ => 0, fun | 0 => 30 | _ => 0, fun _ => [], false⟩
theorem Ek_ok {n : Nat} (h0 : SpecOk Try.prog 157 (sBlockLt n)) : ∀ f S, Ek n f = some S → SpecOk Try.prog f S := fun f S h => by
  unfold Ek at h
  split at h
  · cases h; exact h0
  · cases h; exact sSets_ok
  · exact Ed_ok _ _ h
def an65 : Ann := ⟨fun | 0 => 52 | _ => 0, fun | 0 => 60 | _ => 0, fun _ => [], false⟩
noncomputable def lp76 {n : Nat} (h0 : SpecOk Try.prog 157 (sBlockLt n)) : Lp U := lpL [(0, LC.unr (X := X) (Ek_ok h0) an76 Try.f133 0 5)]
theorem lp76_ok {n : Nat} (h0 : SpecOk Try.prog 157 (sBlockLt n)) : ∀ c, Try.f133.body = some c → LpOk X (Ek n) an76 (lp76 h0) (loops c 0) := lpL_ok (by kernel_rfl) fun b L hm st p hs => by
  cases hm with
  | head => exact unr_ok (by kernel_rfl) hs
  | tail _ h => cases h
theorem e80 (n : Nat) (p : PS) : (evFn X (Ei n) an0 lp0 Try.f157 [] [p.tv] fun (o : List (TO X.U)) (v : TV X.U) => some (o, v)) = if p.Ok then if (p.must (⟨#[123]⟩ : ByteArray)).Ok then if ((p.must (⟨#[123]⟩ : ByteArray)).most (p.must (⟨#[123]⟩ : ByteArray)).Deep 64).up.Ok ∧ ((p.must (⟨#[123]⟩ : ByteArray)).most (p.must (⟨#[123]⟩ : ByteArray)).Deep 64).up.left < n then some ([], TV.tup [((p.must (⟨#[123]⟩ : ByteArray)).most (p.must (⟨#[123]⟩ : ByteArray)).Deep 64).up.stmts.fst.dn.tv, TV.lst C.t114 ((p.must (⟨#[123]⟩ : ByteArray)).most (p.must (⟨#[123]⟩ : ByteArray)).Deep 64).up.stmts.snd]) else none else none else none := by kernel_rfl
def S65 (q : PS) (out : List R114) : TS U := mkS 45 [(2, .ref 0 0 0), (4, .ref 1 0 0), (5, .full 2)] [ob0, q.ob, .row .t114 out false] 0
theorem r65 (n : Nat) (lp : Lp U) (N : Nat) (q : PS) (out : List R114) : (fnLoop X (Ej n) an65 lp Try.f97 0 N.succ (S65 q out)) = bif decide (q.Code = 0) then if q.Ok then bif !q.is (⟨#[125]⟩ : ByteArray) then if q.Ok then if (q.most q.Many 2048).mm.Ok ∧ (q.most q.Many 2048).mm.left < n then if (out.length + 1) * 192 ≤ 140737488355328 then fnLoop X (Ej n) an65 lp Try.f97 0 N (S65 (q.most q.Many 2048).mm.stmt.fst (out ++ [R114.mk (q.most q.Many 2048).mm.stmt.snd.Kind (q.most q.Many 2048).mm.stmt.snd.At (q.most q.Many 2048).mm.stmt.snd.To (q.most q.Many 2048).mm.stmt.snd.Field (q.most q.Many 2048).mm.stmt.snd.From (q.most q.Many 2048).mm.stmt.snd.Expr (q.most q.Many 2048).mm.stmt.snd.Body (q.most q.Many 2048).mm.stmt.snd.Else])) else none else none else none else some (Exit.exit 0, S65 q out) else none else some (Exit.exit 0, S65 q out) := by kernel_rfl
theorem e76 (n : Nat) (h0 : SpecOk Try.prog 157 (sBlockLt n)) (p : PS) : (evFn X (Ek n) an76 (lp76 h0) Try.f133 [] [p.tv] fun (o : List (TO X.U)) (v : TV X.U) => some (o, wkS.f v)) = if p.Ok then if p.Ok then bif !p.is (⟨#[105, 102]⟩ : ByteArray) then if p.Ok then bif !p.is (⟨#[119, 104, 105, 108, 101]⟩ : ByteArray) then if p.Ok then bif !p.is (⟨#[108, 111, 99, 107]⟩ : ByteArray) then if p.Ok then bif !p.is (⟨#[117, 110, 108, 111, 99, 107]⟩ : ByteArray) then if p.Ok then bif p.is (⟨#[114, 101, 116, 117, 114, 110]⟩ : ByteArray) then if p.Ok then if p.next.Ok then bif !p.next.is (⟨#[59]⟩ : ByteArray) then if p.next.Ok then if p.next.name.fst.Ok then some ([], TV.tup [(p.next.name.fst.must (⟨#[59]⟩ : ByteArray)).tv, TV.agg [TV.v (Value.int IntKind.i64 10), TV.v (Value.int IntKind.i64 p.now.At), TV.v (Value.string (⟨#[]⟩ : ByteArray)), TV.v (Value.string (⟨#[]⟩ : ByteArray)), TV.v (Value.string p.next.name.snd), TV.v (Value.int IntKind.i64 0), TV.v (Value.string (⟨#[]⟩ : ByteArray)), TV.v (Value.string (⟨#[]⟩ : ByteArray)), TV.v (Value.int IntKind.i64 0), TV.v (Value.int IntKind.i64 0), TV.lst C.str [], TV.lst C.t114 [], TV.lst C.t114 []]]) else none else none else if p.next.Ok then some ([], TV.tup [(p.next.must (⟨#[59]⟩ : ByteArray)).tv, TV.agg [TV.v (Value.int IntKind.i64 10), TV.v (Value.int IntKind.i64 p.now.At), TV.v (Value.string (⟨#[]⟩ : ByteArray)), TV.v (Value.string (⟨#[]⟩ : ByteArray)), TV.v (Value.string (⟨#[]⟩ : ByteArray)), TV.v (Value.int IntKind.i64 0), TV.v (Value.string (⟨#[]⟩ : ByteArray)), TV.v (Value.string (⟨#[]⟩ : ByteArray)), TV.v (Value.int IntKind.i64 0), TV.v (Value.int IntKind.i64 0), TV.lst C.str [], TV.lst C.t114 [], TV.lst C.t114 []]]) else none else none else none else if p.Ok then bif p.is (⟨#[115, 107, 105, 112]⟩ : ByteArray) then if p.Ok then if p.next.Ok then some ([], TV.tup [(p.next.must (⟨#[59]⟩ : ByteArray)).tv, TV.agg [TV.v (Value.int IntKind.i64 11), TV.v (Value.int IntKind.i64 p.now.At), TV.v (Value.string (⟨#[]⟩ : ByteArray)), TV.v (Value.string (⟨#[]⟩ : ByteArray)), TV.v (Value.string (⟨#[]⟩ : ByteArray)), TV.v (Value.int IntKind.i64 0), TV.v (Value.string (⟨#[]⟩ : ByteArray)), TV.v (Value.string (⟨#[]⟩ : ByteArray)), TV.v (Value.int IntKind.i64 0), TV.v (Value.int IntKind.i64 0), TV.lst C.str [], TV.lst C.t114 [], TV.lst C.t114 []]]) else none else none else if p.Ok ∧ Z0 0 (⟨#[]⟩ : ByteArray) (⟨#[]⟩ : ByteArray) (⟨#[]⟩ : ByteArray) 0 (⟨#[]⟩ : ByteArray) (⟨#[]⟩ : ByteArray) 0 0 then if (p.sets p.now.At).fst.Ok then some ([], TV.tup [((p.sets p.now.At).fst.must (⟨#[59]⟩ : ByteArray)).tv, TV.agg [TV.v (Value.int IntKind.i64 (p.sets p.now.At).snd.Kind), TV.v (Value.int IntKind.i64 (p.sets p.now.At).snd.At), TV.v (Value.string (p.sets p.now.At).snd.To), TV.v (Value.string (p.sets p.now.At).snd.Field), TV.v (Value.string (p.sets p.now.At).snd.From), TV.v (Value.int IntKind.i64 (p.sets p.now.At).snd.Expr.Kind), TV.v (Value.string (p.sets p.now.At).snd.Expr.A), TV.v (Value.string (p.sets p.now.At).snd.Expr.B), TV.v (Value.int IntKind.i64 (p.sets p.now.At).snd.Expr.Op), TV.v (Value.int IntKind.i64 (p.sets p.now.At).snd.Expr.N), TV.lst C.str (p.sets p.now.At).snd.Expr.Args, TV.lst C.t114 (p.sets p.now.At).snd.Body, TV.lst C.t114 (p.sets p.now.At).snd.Else]]) else none else none else none else none else if p.Ok then if p.next.Ok then if p.next.name.fst.Ok then some ([], TV.tup [(p.next.name.fst.must (⟨#[59]⟩ : ByteArray)).tv, TV.agg [TV.v (Value.int IntKind.i64 7), TV.v (Value.int IntKind.i64 p.now.At), TV.v (Value.string (⟨#[]⟩ : ByteArray)), TV.v (Value.string (⟨#[]⟩ : ByteArray)), TV.v (Value.string p.next.name.snd), TV.v (Value.int IntKind.i64 0), TV.v (Value.string (⟨#[]⟩ : ByteArray)), TV.v (Value.string (⟨#[]⟩ : ByteArray)), TV.v (Value.int IntKind.i64 0), TV.v (Value.int IntKind.i64 0), TV.lst C.str [], TV.lst C.t114 [], TV.lst C.t114 []]]) else none else none else none else none else if p.Ok then if p.next.Ok then if p.next.name.fst.Ok then some ([], TV.tup [(p.next.name.fst.must (⟨#[59]⟩ : ByteArray)).tv, TV.agg [TV.v (Value.int IntKind.i64 6), TV.v (Value.int IntKind.i64 p.now.At), TV.v (Value.string (⟨#[]⟩ : ByteArray)), TV.v (Value.string (⟨#[]⟩ : ByteArray)), TV.v (Value.string p.next.name.snd), TV.v (Value.int IntKind.i64 0), TV.v (Value.string (⟨#[]⟩ : ByteArray)), TV.v (Value.string (⟨#[]⟩ : ByteArray)), TV.v (Value.int IntKind.i64 0), TV.v (Value.int IntKind.i64 0), TV.lst C.str [], TV.lst C.t114 [], TV.lst C.t114 []]]) else none else none else none else none else if p.Ok then if p.next.Ok then if p.next.name.fst.Ok ∧ p.next.name.fst.left < n then some ([], TV.tup [p.next.name.fst.block.fst.tv, TV.agg [TV.v (Value.int IntKind.i64 5), TV.v (Value.int IntKind.i64 p.now.At), TV.v (Value.string (⟨#[]⟩ : ByteArray)), TV.v (Value.string (⟨#[]⟩ : ByteArray)), TV.v (Value.string p.next.name.snd), TV.v (Value.int IntKind.i64 0), TV.v (Value.string (⟨#[]⟩ : ByteArray)), TV.v (Value.string (⟨#[]⟩ : ByteArray)), TV.v (Value.int IntKind.i64 0), TV.v (Value.int IntKind.i64 0), TV.lst C.str [], TV.lst C.t114 p.next.name.fst.block.snd, TV.lst C.t114 []]]) else none else none else none else none else if p.Ok then if p.next.Ok then if p.next.name.fst.Ok ∧ p.next.name.fst.left < n then if p.next.name.fst.block.fst.Ok then bif p.next.name.fst.block.fst.is (⟨#[101, 108, 115, 101]⟩ : ByteArray) then if p.next.name.fst.block.fst.Ok then if p.next.name.fst.block.fst.next.Ok ∧ p.next.name.fst.block.fst.next.left < n then some ([], TV.tup [p.next.name.fst.block.fst.next.block.fst.tv, TV.agg [TV.v (Value.int IntKind.i64 4), TV.v (Value.int IntKind.i64 p.now.At), TV.v (Value.string (⟨#[]⟩ : ByteArray)), TV.v (Value.string (⟨#[]⟩ : ByteArray)), TV.v (Value.string p.next.name.snd), TV.v (Value.int IntKind.i64 0), TV.v (Value.string (⟨#[]⟩ : ByteArray)), TV.v (Value.string (⟨#[]⟩ : ByteArray)), TV.v (Value.int IntKind.i64 0), TV.v (Value.int IntKind.i64 0), TV.lst C.str [], TV.lst C.t114 p.next.name.fst.block.snd, TV.lst C.t114 p.next.name.fst.block.fst.next.block.snd]]) else none else none else some ([], TV.tup [p.next.name.fst.block.fst.tv, TV.agg [TV.v (Value.int IntKind.i64 4), TV.v (Value.int IntKind.i64 p.now.At), TV.v (Value.string (⟨#[]⟩ : ByteArray)), TV.v (Value.string (⟨#[]⟩ : ByteArray)), TV.v (Value.string p.next.name.snd), TV.v (Value.int IntKind.i64 0), TV.v (Value.string (⟨#[]⟩ : ByteArray)), TV.v (Value.string (⟨#[]⟩ : ByteArray)), TV.v (Value.int IntKind.i64 0), TV.v (Value.int IntKind.i64 0), TV.lst C.str [], TV.lst C.t114 p.next.name.fst.block.snd, TV.lst C.t114 []]]) else none else none else none else none else none else none := by kernel_rfl
end Go.Proofs.Ytpkgikchphgfaaa.Fl
/- The references' parser: statements within statements end. -/
namespace Go.Proofs.Ytpkgikchphgfaaa.Fl
open Go Go.RowKit Go.Proofs.Ytpkgikchphgfaaa.Eng
set_option linter.unusedVariables false
set_option linter.unusedSimpArgs false
set_option maxRecDepth 20000
theorem PS.is_code {p : PS} {s : ByteArray} (h : p.is s = true) : p.Code = 0 := by
  have h1 := PS.is_kind h
  by_cases hc : p.Code = 0
  · exact hc
  · exact absurd (by unfold PS.now; rw [if_neg hc]; rfl) h1
theorem PS.Ok.is_pos {p : PS} (h : p.Ok) {s : ByteArray} (hs : p.is s = true) : 1 ≤ p.left := h.left_pos (PS.is_code hs)
def BOk (b : PS → PS × List R114) (q : PS) : Prop := (b q).1.Ok ∧ cntL (b q).2 + (b q).1.left ≤ q.left - 1
def SOk (b : PS → PS × R114) (q : PS) : Prop := (b q).1.Ok ∧ cntS (b q).2 + (b q).1.left ≤ 1 + (q.left - 1)
def SsOk (b : PS → PS × List R114) (q : PS) : Prop := (b q).1.Ok ∧ cntL (b q).2 + (b q).1.left ≤ q.left
def Ag (m : Nat) (b1 b2 : PS → PS × List R114) : Prop := ∀ q : PS, q.Ok → q.left < m → b1 q = b2 q ∧ BOk b1 q
def AgS (m : Nat) (b1 b2 : PS → PS × R114) : Prop := ∀ q : PS, q.Ok → q.left ≤ m → b1 q = b2 q ∧ SOk b1 q
theorem stmtW_ag {b1 b2 : PS → PS × List R114} {p : PS} (h : p.Ok) (ha : Ag p.left b1 b2) : stmtW b1 p = stmtW b2 p ∧ SOk (stmtW b1) p := by
  unfold SOk stmtW
  cases h1 : p.is bIf with
  | true =>
    have hpos := h.is_pos h1
    have hl := h.next_lt (PS.is_kind h1)
    have hm := h.next.name_lt
    obtain ⟨e1, o1, c1⟩ := ha p.next.name.1 h.next.name (by omega)
    simp only [Bool.not_true, cond_false]
    unfold ifW
    rw [← e1]
    cases h2 : (b1 p.next.name.1).1.is bElse with
    | true =>
      have hn := o1.next_lt (PS.is_kind h2)
      have hn2 := o1.is_pos h2
      obtain ⟨e3, o3, c3⟩ := ha (b1 p.next.name.1).1.next o1.next (by omega)
      rw [← e3]
      simp only [cond_true]
      refine ⟨by trivial, o3, ?_⟩
      simp only [cntS, e0x, List.length_nil]
      omega
    | false =>
      simp only [cond_false]
      refine ⟨by trivial, o1, ?_⟩
      simp only [cntS, cntL, e0x, List.length_nil]
      omega
  | false =>
    simp only [Bool.not_false, cond_true]
    cases h2 : p.is bWhile with
    | true =>
      have hpos := h.is_pos h2
      have hl := h.next_lt (PS.is_kind h2)
      have hm := h.next.name_lt
      obtain ⟨e1, o1, c1⟩ := ha p.next.name.1 h.next.name (by omega)
      simp only [Bool.not_true, cond_false]
      rw [← e1]
      refine ⟨by trivial, o1, ?_⟩
      simp only [cntS, cntL, e0x, List.length_nil]
      omega
    | false =>
      have g1 := p.next_left
      have g2 := h.next.name_lt
      have g3 := h.next.name.must_lt bSemi
      have g4 := h.next.must_lt bSemi
      have g5 := (h.sets p.now.At).1.must_lt bSemi
      have g6 := h.sets_cnt p.now.At
      have g7 := h.sets p.now.At
      simp only [Bool.not_false, cond_true]
      simp only [Bool.cond_eq_ite]
      refine ⟨by trivial, ?_, ?_⟩
      · repeat' split
        all_goals first | exact h.next.name.must _ | exact h.next.must _ | exact g7.1.must _
      · repeat' split
        all_goals try simp only [cntS, cntL, e0x, List.length_nil]
        all_goals omega
theorem stmtsL_ag {m : Nat} {s1 s2 : PS → PS × R114} (ha : AgS m s1 s2) : ∀ (N : Nat) (q : PS) (out : List R114), q.Ok → q.left ≤ m →
    stmtsL s1 N q out = stmtsL s2 N q out ∧ (stmtsL s1 N q out).1.Ok ∧ cntL (stmtsL s1 N q out).2 + (stmtsL s1 N q out).1.left ≤ cntL out + q.left := by
  intro N
  induction N with
  | zero => intro q out h hl; exact ⟨rfl, h, Nat.le_refl _⟩
  | succ N ih =>
    intro q out h hl
    unfold stmtsL
    by_cases hc : q.Code = 0
    · rw [decide_eq_true hc]
      have hpos := h.left_pos hc
      cases q.is ⟨#[125]⟩ with
      | true => exact ⟨rfl, h, Nat.le_refl _⟩
      | false =>
        simp only [Bool.not_false, cond_true]
        have h2 := (h.most q.Many 2048).mm
        have h3 : (q.most q.Many 2048).mm.left ≤ q.left := q.most_left q.Many 2048
        obtain ⟨e1, o1, c1⟩ := ha _ h2 (by omega)
        rw [← e1]
        obtain ⟨e, o, c⟩ := ih (s1 (q.most q.Many 2048).mm).1 (out ++ [(s1 (q.most q.Many 2048).mm).2]) o1 (by omega)
        refine ⟨e, o, ?_⟩
        rw [cntL_append, cntL_one] at c
        omega
    · rw [decide_eq_false hc]
      exact ⟨rfl, h, Nat.le_refl _⟩
theorem stmtsW_ag {s1 s2 : PS → PS × R114} {p : PS} (h : p.Ok) (ha : AgS p.left s1 s2) : stmtsW s1 p = stmtsW s2 p ∧ SsOk (stmtsW s1) p := by
  obtain ⟨e, o, c⟩ := stmtsL_ag ha (p.left + 1) p [] h (Nat.le_refl _)
  unfold SsOk stmtsW
  rw [← e]
  have hn := (stmtsL s1 (p.left + 1) p []).1.next_left
  rw [cntL, Nat.zero_add] at c
  refine ⟨rfl, ?_⟩
  cases decide ((stmtsL s1 (p.left + 1) p []).1.Code = 0) with
  | true => exact ⟨o.next, by simp only [cond_true]; omega⟩
  | false => exact ⟨o, c⟩
theorem blockW_ag {b1 b2 : PS → PS × List R114} {p : PS} (h : p.Ok) (ha : Ag (p.left - 1 + 0) b1 b2) : blockW (stmtsW (stmtW b1)) p = blockW (stmtsW (stmtW b2)) p ∧ BOk (blockW (stmtsW (stmtW b1))) p := by
  have h1 := (h.must ⟨#[123]⟩).most (p.must ⟨#[123]⟩).Deep 64
  have h2 := h.must_lt ⟨#[123]⟩
  have h3 := (p.must ⟨#[123]⟩).most_left (p.must ⟨#[123]⟩).Deep 64
  have h4 : ((p.must ⟨#[123]⟩).most (p.must ⟨#[123]⟩).Deep 64).up.left = ((p.must ⟨#[123]⟩).most (p.must ⟨#[123]⟩).Deep 64).left := rfl
  have hs : AgS ((p.must ⟨#[123]⟩).most (p.must ⟨#[123]⟩).Deep 64).up.left (stmtW b1) (stmtW b2) := fun q hq hl => stmtW_ag hq fun r hr hrl => ha r hr (by omega)
  obtain ⟨e, o, c⟩ := stmtsW_ag h1.up hs
  unfold BOk blockW
  rw [← e]
  refine ⟨rfl, o.dn, ?_⟩
  have h5 : (stmtsW (stmtW b1) ((p.must ⟨#[123]⟩).most (p.must ⟨#[123]⟩).Deep 64).up).1.dn.left = (stmtsW (stmtW b1) ((p.must ⟨#[123]⟩).most (p.must ⟨#[123]⟩).Deep 64).up).1.left := rfl
  dsimp only
  omega
theorem block_st : ∀ (m : Nat) (q : PS), q.Ok → q.left ≤ m → ∀ N M : Nat, q.left < N → q.left < M → blockN N q = blockN M q ∧ BOk (blockN N) q := by
  intro m
  induction m with
  | zero =>
    intro q h hl N M hN hM
    obtain ⟨N, rfl⟩ : ∃ k, N = k + 1 := ⟨N - 1, by omega⟩
    obtain ⟨M, rfl⟩ : ∃ k, M = k + 1 := ⟨M - 1, by omega⟩
    exact blockW_ag h fun r hr hrl => by omega
  | succ m ih =>
    intro q h hl N M hN hM
    obtain ⟨N, rfl⟩ : ∃ k, N = k + 1 := ⟨N - 1, by omega⟩
    obtain ⟨M, rfl⟩ : ∃ k, M = k + 1 := ⟨M - 1, by omega⟩
    exact blockW_ag h fun r hr hrl => ih r hr (by omega) N M (by omega) (by omega)
theorem PS.Ok.block_eq {p : PS} (h : p.Ok) : p.block = blockW PS.stmts p := by
  show blockW (stmtsW (stmtW (blockN p.left))) p = blockW (stmtsW (stmtW PS.block)) p
  refine (blockW_ag h fun r hr hrl => ?_).1
  exact block_st r.left r hr (Nat.le_refl _) p.left (r.left + 1) (by omega) (Nat.lt_succ_self _)
theorem PS.Ok.block_ok {p : PS} (h : p.Ok) : BOk PS.block p := (block_st p.left p h (Nat.le_refl _) (p.left + 1) (p.left + 1) (Nat.lt_succ_self _) (Nat.lt_succ_self _)).2
theorem PS.Ok.stmt_ok {p : PS} (h : p.Ok) : SOk PS.stmt p := (stmtW_ag h fun q hq hl => ⟨rfl, hq.block_ok⟩).2
theorem PS.Ok.stmts_ok {p : PS} (h : p.Ok) : SsOk PS.stmts p := (stmtsW_ag h fun q hq hl => ⟨rfl, hq.stmt_ok⟩).2
end Go.Proofs.Ytpkgikchphgfaaa.Fl
/- The references' parser: statements within statements, proved. -/
namespace Go.Proofs.Ytpkgikchphgfaaa.Fl
open Go Go.RowKit Go.Proofs.Ytpkgikchphgfaaa.Eng
set_option linter.unusedVariables false
set_option linter.unusedSimpArgs false
set_option maxRecDepth 20000
theorem eta114 (s : R114) : R114.mk s.Kind s.At s.To s.Field s.From s.Expr s.Body s.Else = s := by cases s; rfl
theorem PS.Ok.stmt_lt {p : PS} (h : p.Ok) : p.stmt.1.left ≤ p.left - 1 := by
  have h1 := h.stmt_ok.2
  have h2 : 1 ≤ cntS p.stmt.2 := by cases p.stmt.2; rw [cntS]; omega
  omega
theorem rounds65 {n : Nat} (lp : Lp U) : ∀ (N : Nat) (q : PS) (out : List R114), q.Ok → q.left ≤ N → q.left < n → out.length + N ≤ 2000000 →
    fnLoop X (Ej n) an65 lp Try.f97 0 (N + 1) (S65 q out) = some (.exit 0, S65 (stmtsL PS.stmt (N + 1) q out).1 (stmtsL PS.stmt (N + 1) q out).2) := by
  intro N
  induction N with
  | zero =>
    intro q out h hl hn ho
    have hc := h.left_zero (by omega)
    rw [r65, stmtsL, decide_eq_false hc]
    rfl
  | succ N ih =>
    intro q out h hl hn ho
    rw [r65, stmtsL]
    by_cases hc : q.Code = 0
    · rw [decide_eq_true hc, if_pos h]
      have hpos := h.left_pos hc
      cases q.is ⟨#[125]⟩ with
      | true => rfl
      | false =>
        have h1 := (h.most q.Many 2048).mm
        have h2 : (q.most q.Many 2048).mm.left ≤ q.left := q.most_left q.Many 2048
        have h3 := h1.stmt_lt
        have hlen : (out.length + 1) * 192 ≤ 140737488355328 := by omega
        have h4 : (q.most q.Many 2048).mm.Ok ∧ (q.most q.Many 2048).mm.left < n := ⟨h1, by omega⟩
        simp only [Bool.not_false, cond_true, if_pos h, if_pos h4, if_pos hlen, eta114]
        exact ih _ _ h1.stmt_ok.1 (by omega) (by omega) (by rw [List.length_append]; simp only [List.length_singleton]; omega)
    · rw [decide_eq_false hc]
      rfl
def dl65 (s : TS U) : Option (Int × Int × Int × Int × Int × PS × List R114) := match told s 45 [2, 4, 5] 0, s.objs with
  | some [a0, a1, a2], [o0, o1, o2] =>
    match o0 with
    | .cells [q0, q1, q2, q3, q4, q5] false =>
      match q0 with
      | .v (.slice none 0 0) =>
        match q1 with
        | .v (.int .i64 z1) =>
          match q2 with
          | .v (.int .i64 z2) =>
            match q3 with
            | .v (.int .i64 z3) =>
              match q4 with
              | .v (.int .i64 z4) =>
                match q5 with
                | .v (.int .i64 z5) =>
                  match o1 with
                  | .cells [q6, q7, q8, q9, q10, q11] false =>
                    match q6 with
                    | .lst .t53 q_L =>
                      match q7 with
                      | .v (.int .i64 q_At) =>
                        match q8 with
                        | .v (.int .i64 q_Deep) =>
                          match q9 with
                          | .v (.int .i64 q_Many) =>
                            match q10 with
                            | .v (.int .i64 q_Code) =>
                              match q11 with
                              | .v (.int .i64 q_FAt) =>
                                match o2 with
                                | .row .t114 out false =>
                                  match a0 with
                                  | .ref 0 0 0 =>
                                    match a1 with
                                    | .ref 1 0 0 =>
                                      match a2 with
                                      | .full 2 =>
                                        some (z1, z2, z3, z4, z5, (⟨q_L, q_At, q_Deep, q_Many, q_Code, q_FAt⟩ : PS), out)
                                      | _ => none
                                    | _ => none
                                  | _ => none
                                | _ => none
                              | _ => none
                            | _ => none
                          | _ => none
                        | _ => none
                      | _ => none
                    | _ => none
                  | _ => none
                | _ => none
              | _ => none
            | _ => none
          | _ => none
        | _ => none
      | _ => none
    | _ => none
  | _, _ => none
theorem dl65_ok {s : TS U} {z1 : Int} {z2 : Int} {z3 : Int} {z4 : Int} {z5 : Int} {q : PS} {out : List R114} (h : dl65 s = some (z1, z2, z3, z4, z5, q, out)) : s = mkS (U := U) 45 ([2, 4, 5].zip ([.ref 0 0 0, .ref 1 0 0, .full 2] : List (TV U))) ([.cells [.v (.slice none 0 0), .v (.int .i64 z1), .v (.int .i64 z2), .v (.int .i64 z3), .v (.int .i64 z4), .v (.int .i64 z5)] false, q.ob, .row .t114 out false] : List (TO U)) 0 := by
  unfold dl65 at h
  split at h <;> try (cases h; done)
  rename_i ht ho
  have hs := told_ok ht
  rw [ho] at hs
  repeat' split at h
  all_goals first | (cases h; done) | (cases h; exact hs)
def Pre65 (m : Nat) (q : PS) (a1 a2 a3 a4 a5 : Int) (n : Nat) : Prop := (q.Ok ∧ q.left < m) ∧ (a1 = 0 ∧ a2 = 0 ∧ a3 = 0 ∧ a4 = 0 ∧ a5 = 0) ∧ n = 0
noncomputable instance (m : Nat) (q : PS) (a1 a2 a3 a4 a5 : Int) (n : Nat) : Decidable (Pre65 m q a1 a2 a3 a4 a5 n) := Classical.propDecidable _
noncomputable def lc65 (m : Nat) : LC U := .of dl65 (fun (a1, a2, a3, a4, a5, q, out) => Pre65 m q a1 a2 a3 a4 a5 out.length) (.exit 0)
  (fun (a1, a2, a3, a4, a5, q, out) => S65 (stmtsL PS.stmt (q.left + 1) q []).1 (stmtsL PS.stmt (q.left + 1) q []).2)
noncomputable def lp65 (m : Nat) : Lp U := lpL [(0, lc65 m)]
theorem lp65_ok (m : Nat) : ∀ c, Try.f97.body = some c → LpOk X (Ej m) an65 (lp65 m) (loops c 0) := lpL_ok (by kernel_rfl) fun b L hm st p hs => by
  cases hm with
  | tail _ h => cases h
  | head =>
    obtain ⟨⟨a1, a2, a3, a4, a5, q, out⟩, hx, ⟨⟨h1, h5⟩, ⟨rfl, rfl, rfl, rfl, rfl⟩, h3⟩, rfl⟩ := LC.of_some hs
    obtain rfl := List.length_eq_zero_iff.1 h3
    obtain rfl := dl65_ok hx
    have h2 := h1.left_le
    have h4 := h1.len
    exact ⟨_, rounds65 _ _ q [] h1 (Nat.le_refl _) h5 (by rw [List.length_nil]; omega)⟩
theorem e65 (n : Nat) (p : PS) : (evFn X (Ej n) an65 (lp65 n) Try.f97 [] [p.tv] fun (o : List (TO X.U)) (v : TV X.U) => some (o, v)) = if Pre65 n p 0 0 0 0 0 0 then bif decide ((stmtsL PS.stmt (p.left + 1) p []).fst.Code = 0) then if (stmtsL PS.stmt (p.left + 1) p []).fst.Ok then some ([], TV.tup [(stmtsL PS.stmt (p.left + 1) p []).fst.next.tv, TV.lst C.t114 (stmtsL PS.stmt (p.left + 1) p []).snd]) else none else some ([], TV.tup [(stmtsL PS.stmt (p.left + 1) p []).fst.tv, TV.lst C.t114 (stmtsL PS.stmt (p.left + 1) p []).snd]) else none := by kernel_rfl
theorem stmts_of {n : Nat} (h0 : SpecOk Try.prog 133 (sStmtLt n)) : SpecOk Try.prog 97 (sStmtsLt n) := by
  refine fn_ok X_ok mixed (Ej_ok h0) an65 (lp65 n) Try.func97 (by kernel_rfl) (by kernel_rfl) (lp65_ok n) fun objs args p hp h => ?_
  obtain ⟨rfl, rfl⟩ := dP_ok hp
  obtain ⟨h, hl⟩ := h
  dsimp only at h ⊢
  have h2 : Pre65 n p 0 0 0 0 0 0 := ⟨⟨h, hl⟩, ⟨rfl, rfl, rfl, rfl, rfl⟩, rfl⟩
  have h3 : (stmtsL PS.stmt (p.left + 1) p []).1.Ok := (stmtsL_ag (s2 := PS.stmt) (fun q hq hl => ⟨rfl, hq.stmt_ok⟩) (p.left + 1) p [] h (Nat.le_refl _)).2.1
  rw [e65]
  unfold PS.stmts stmtsW
  simp only [h2, h3, if_true]
  cases decide ((stmtsL PS.stmt (p.left + 1) p []).1.Code = 0) <;> rfl
theorem block_of {n : Nat} (h0 : SpecOk Try.prog 97 (sStmtsLt n)) : SpecOk Try.prog 157 (sBlockLt n) := by
  refine fn_ok X_ok mixed (Ei_ok h0) an0 lp0 Try.func157 (by kernel_rfl) (by kernel_rfl) (lp0_ok (by kernel_rfl)) fun objs args p hp h => ?_
  obtain ⟨rfl, rfl⟩ := dP_ok hp
  obtain ⟨h, hl⟩ := h
  dsimp only at h ⊢
  have h1 := ((h.must ⟨#[123]⟩).most (p.must ⟨#[123]⟩).Deep 64).up
  have h2 := h.must_lt ⟨#[123]⟩
  have h3 := (p.must ⟨#[123]⟩).most_left (p.must ⟨#[123]⟩).Deep 64
  have h4 : ((p.must ⟨#[123]⟩).most (p.must ⟨#[123]⟩).Deep 64).up.left = ((p.must ⟨#[123]⟩).most (p.must ⟨#[123]⟩).Deep 64).left := rfl
  have h5 : ((p.must ⟨#[123]⟩).most (p.must ⟨#[123]⟩).Deep 64).up.Ok ∧ ((p.must ⟨#[123]⟩).most (p.must ⟨#[123]⟩).Deep 64).up.left < n := ⟨h1, by omega⟩
  rw [e80, h.block_eq, if_pos h, if_pos (h.must _), if_pos h5]
  rfl
theorem stmt_of {n : Nat} (h0 : SpecOk Try.prog 157 (sBlockLt n)) : SpecOk Try.prog 133 (sStmtLt (n + 1)) := by
  refine fn_okw wkS X_ok mixed (Ek_ok h0) an76 (lp76 h0) Try.func133 (by kernel_rfl) (by kernel_rfl) (lp76_ok h0) fun objs args p hp h => ?_
  obtain ⟨rfl, rfl⟩ := dP_ok hp
  obtain ⟨h, hl⟩ := h
  dsimp only at h ⊢
  refine (e76 n h0 p).trans ?_
  unfold PS.stmt stmtW ifW bIf bWhile bLock bUnlock bReturn bSkip bSemi bElse
  simp only [if_pos h]
  cases h1 : p.is ⟨#[105, 102]⟩ with
  | true =>
    have hpos := h.is_pos h1
    have hl1 := h.next_lt (PS.is_kind h1)
    have hm := h.next.name_lt
    have g1 : p.next.name.1.Ok ∧ p.next.name.1.left < n := ⟨h.next.name, by omega⟩
    obtain ⟨o1, c1⟩ := h.next.name.block_ok
    have g2 := p.next.name.1.block.1.next_left
    have g3 : p.next.name.1.block.1.next.Ok ∧ p.next.name.1.block.1.next.left < n := ⟨o1.next, by omega⟩
    simp only [Bool.not_true, cond_false, if_pos h.next, if_pos g1, if_pos o1, if_pos g3]
    cases p.next.name.1.block.1.is ⟨#[101, 108, 115, 101]⟩ <;> rfl
  | false =>
    simp only [Bool.not_false, cond_true]
    cases h2 : p.is ⟨#[119, 104, 105, 108, 101]⟩ with
    | true =>
      have hpos := h.is_pos h2
      have hl1 := h.next_lt (PS.is_kind h2)
      have hm := h.next.name_lt
      have g1 : p.next.name.1.Ok ∧ p.next.name.1.left < n := ⟨h.next.name, by omega⟩
      simp only [Bool.not_true, cond_false, if_pos h.next, if_pos g1]
      rfl
    | false =>
      simp only [Bool.not_false, cond_true, h, h.next, h.next.name, (h.sets p.now.At).1, z0, and_self, if_true]
      simp only [Bool.cond_eq_ite]
      repeat' split
      all_goals first | kernel_rfl | (exfalso; simp_all; done)
theorem block_lt : ∀ n : Nat, SpecOk Try.prog 157 (sBlockLt n)
  | 0 => by
    refine fn_ok X_ok mixed E0_ok an0 lp0 Try.func157 (by kernel_rfl) (by kernel_rfl) (lp0_ok (by kernel_rfl)) fun objs args p hp h => ?_
    exact absurd h.2 (Nat.not_lt_zero _)
  | n + 1 => block_of (stmts_of (stmt_of (block_lt n)))
noncomputable def sStmts : Spc U := .of dP (fun p => p.Ok) (fun _ => []) fun p => .tup [p.stmts.1.tv, .lst .t114 p.stmts.2]
theorem sStmts_ok : SpecOk Try.prog 97 sStmts := SpecOk.lim PS.left fun n => by
  have h := stmts_of (stmt_of (block_lt n))
  refine SpecOk.of h fun objs args p hp hx => ?_
  unfold sStmtsLt Spc.of
  dsimp only
  rw [hp]
  dsimp only
  rw [if_pos ⟨hx.1, Nat.lt_succ_of_lt hx.2⟩]
end Go.Proofs.Ytpkgikchphgfaaa.Fl
/- Loops and functions of which what is told afterwards hangs on whether rows are none. -/
namespace Go.Proofs.Ytpkgikchphgfaaa.Eng
open Go Go.RowKit
set_option linter.unusedVariables false
def unc {α : Type} : List α → Option (α × List α)
  | [] => none
  | x :: l => some (x, l)
/-- Whether a row is none is looked at first. -/
def lsp {α R : Type} (g : List α) (k : List α → Option R) : Option R := cond g.isEmpty (k []) ((unc g).bind fun x => k (x.1 :: x.2))
theorem lsp_eq {α R : Type} (g : List α) (k : List α → Option R) : lsp g k = k g := by cases g <;> rfl
def LC.ofG {U : Univ} {A : Type} (d : TS U → Option A) (pre : A → Prop) [DecidablePred pre] (G : {R : Type} → A → (Exit → TS U → Option R) → Option R) (ex : A → Exit) (s' : A → TS U) (hG : ∀ {R : Type} (x : A) (K : Exit → TS U → Option R), G x K = K (ex x) (s' x)) : LC U := ⟨fun s K => match d s with
  | some x => if pre x then G x K else none
  | none => none, fun s K r h => by
  split at h <;> try (cases h; done)
  rename_i x hx
  split at h <;> try (cases h; done)
  rename_i hp
  rw [hG] at h
  exact ⟨_, _, h, fun K' => by rw [if_pos hp, hG]⟩⟩
theorem LC.ofG_some {U : Univ} {A : Type} {d : TS U → Option A} {pre : A → Prop} [DecidablePred pre] {G : {R : Type} → A → (Exit → TS U → Option R) → Option R} {ex : A → Exit} {s' : A → TS U} (hG : ∀ {R : Type} (x : A) (K : Exit → TS U → Option R), G x K = K (ex x) (s' x)) {s : TS U} {p : Exit × TS U} (h : (LC.ofG d pre G ex s' hG).F s (fun e s => some (e, s)) = some p) : ∃ x, d s = some x ∧ pre x ∧ p = (ex x, s' x) := by
  unfold LC.ofG at h
  dsimp only at h
  split at h <;> try (cases h; done)
  rename_i x hx
  split at h <;> try (cases h; done)
  rename_i hp
  rw [hG] at h
  cases h
  exact ⟨x, hx, hp, rfl⟩
/-- The first of two decoders that fits. -/
def orD {S A : Type} (d e : S → Option A) (s : S) : Option A := match d s with
  | some x => some x
  | none => e s
theorem orD_some {S A : Type} {d e : S → Option A} {s : S} {x : A} (h : orD d e s = some x) : d s = some x ∨ e s = some x := by
  unfold orD at h
  cases hd : d s with
  | some y => rw [hd] at h; exact .inl h
  | none => rw [hd] at h; exact .inr h
end Go.Proofs.Ytpkgikchphgfaaa.Eng

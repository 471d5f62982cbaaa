/- Told states, told briefly. -/
import Derived.Test.YtcbbpidnocgoiaaDoorEvJ
namespace Go.Proofs.YtcbbpidnocgoiaaDoor.Eng
open Go Go.RowKit
set_option linter.unusedVariables false
set_option linter.unusedSimpArgs false
section
variable {U : Univ}
def unsp : Nat → Nat → List (Nat × TV U) → List (TV U)
  | _, 0, _ => []
  | k, n + 1, [] => .junk :: unsp (k + 1) n []
  | k, n + 1, (i, x) :: r => match Nat.beq i k with
    | true => x :: unsp (k + 1) n r
    | false => .junk :: unsp (k + 1) n ((i, x) :: r)
/-- A state by the slots of which something is told. -/
def mkS (n : Nat) (l : List (Nat × TV U)) (objs : List (TO U)) (hin : Nat) : TS U := ⟨unsp 0 n l, objs, hin⟩
def nonJ : Nat → List (TV U) → List (Nat × TV U)
  | _, [] => []
  | k, x :: l => match x.isJunk with
    | true => nonJ (k + 1) l
    | false => (k, x) :: nonJ (k + 1) l
theorem nonJ_ge : ∀ (k : Nat) (l : List (TV U)), ∀ p ∈ nonJ k l, k ≤ p.1
  | k, [], p, h => by cases h
  | k, x :: l, p, h => by
    have ih := nonJ_ge (k + 1) l p
    unfold nonJ at h
    split at h
    · have := ih h
      omega
    · rcases List.mem_cons.1 h with rfl | h
      · exact Nat.le_refl _
      · have := ih h
        omega
theorem junk_of {x : TV U} (h : x.isJunk = true) : x = .junk := by cases x <;> first | rfl | cases h
theorem unsp_nonJ : ∀ (l : List (TV U)) (k : Nat), unsp k l.length (nonJ k l) = l
  | [], k => rfl
  | x :: l, k => by
    have ih := unsp_nonJ l (k + 1)
    have hg := nonJ_ge (k + 1) l
    rw [List.length_cons]
    unfold nonJ
    split
    · rename_i e
      obtain rfl := junk_of e
      cases hq : nonJ (k + 1) l with
      | nil =>
        rw [hq] at ih
        show TV.junk :: unsp (k + 1) l.length [] = _
        rw [ih]
      | cons p r =>
        obtain ⟨i, y⟩ := p
        have h1 : k + 1 ≤ i := hg (i, y) (by rw [hq]; exact List.mem_cons_self)
        have hb : Nat.beq i k = false := by
          cases hb : Nat.beq i k with
          | false => rfl
          | true => have := Nat.eq_of_beq_eq_true hb; omega
        rw [hq] at ih
        unfold unsp
        rw [hb]
        dsimp only
        rw [ih]
    · unfold unsp
      rw [Nat.beq_refl]
      dsimp only
      rw [ih]
/-- The slots of which something is told, if it is just these. -/
def told (s : TS U) (n : Nat) (ix : List Nat) (hin : Nat) : Option (List (TV U)) :=
  match Nat.beq s.slots.length n && eqN ((nonJ 0 s.slots).map (·.1)) ix && Nat.beq s.hin hin with
  | true => some ((nonJ 0 s.slots).map (·.2))
  | false => none
theorem told_ok {s : TS U} {n : Nat} {ix : List Nat} {hin : Nat} {vs : List (TV U)} (h : told s n ix hin = some vs) : s = mkS n (ix.zip vs) s.objs hin := by
  unfold told at h
  split at h <;> try (cases h; done)
  rename_i hc
  cases h
  simp only [Bool.and_eq_true] at hc
  obtain ⟨⟨h1, h2⟩, h3⟩ := hc
  have e1 := Nat.eq_of_beq_eq_true h1
  have e2 := eqN_ok h2
  have e3 := Nat.eq_of_beq_eq_true h3
  have hz : ∀ l : List (Nat × TV U), (l.map (·.1)).zip (l.map (·.2)) = l := by
    intro l
    induction l with
    | nil => rfl
    | cons p l ih => rw [List.map_cons, List.map_cons, List.zip_cons_cons, ih]
  subst e1 e3
  rw [← e2, hz]
  unfold mkS
  rw [unsp_nonJ]
/-- The body of the loop of a block. -/
def loopAt (fn : Func) (b : Nat) : Code := match fn.body with
  | none => .skip
  | some c => ((loops c 0).find? fun q => Nat.beq q.1 b).elim .skip (·.2)
end
/-- The rounds of a function's loop. -/
def fnLoop (X : Cx) (E : FuncId → Option (Spc X.U)) (an : Ann) (lp : Lp X.U) (fn : Func) (b n : Nat) (s : TS X.U) : Option (Exit × TS X.U) :=
  loopR (an.live b) (an.out b) (fun s K => evC X E an lp (loopAt fn b) b s K) n s
/-- What is told of loops, block by block. -/
theorem LpOk.of {X : Cx} {E : FuncId → Option (Spc X.U)} {an : Ann} {lp : Lp X.U} {fn : Func} {c : Code} (hc : fn.body = some c) (hnd : nodupN ((loops c 0).map (·.1)) = true)
    (h : ∀ b s p, memN b ((loops c 0).map (·.1)) = true → lp.F b s (fun ex s' => some (ex, s')) = some p → ∃ n, fnLoop X E an lp fn b n s = some p)
    (hP : ∀ (b : Nat) (s : TS X.U) (R : Type) (K : Exit → TS X.U → Option R) (r : R), lp.F b s K = some r → ∃ ex s', K ex s' = some r ∧ ∀ {R' : Type} (K' : Exit → TS X.U → Option R'), lp.F b s K' = K' ex s') : LpOk X E an lp (loops c 0) := by
  refine ⟨fun q hq s p hs => ?_, hP⟩
  obtain ⟨n, hn⟩ := h q.1 s p (memN_iff.2 (List.mem_map.2 ⟨q, hq, rfl⟩)) hs
  refine ⟨n, ?_⟩
  have hl : loopAt fn q.1 = q.2 := by
    unfold loopAt
    rw [hc]
    dsimp only
    have key : ∀ l : List (Nat × Code), nodupN (l.map (·.1)) = true → q ∈ l → l.find? (fun p => Nat.beq p.1 q.1) = some q := by
      intro l
      induction l with
      | nil => intro _ h; cases h
      | cons p l ih =>
        intro hnd hm
        have hnd : (!memN p.1 (l.map (·.1)) && nodupN (l.map (·.1))) = true := hnd
        rw [Bool.and_eq_true] at hnd
        rw [List.find?_cons]
        rcases List.mem_cons.1 hm with rfl | hm
        · rw [Nat.beq_refl]
        · have hne : Nat.beq p.1 q.1 = false := by
            cases hb : Nat.beq p.1 q.1 with
            | false => rfl
            | true =>
              have e := Nat.eq_of_beq_eq_true hb
              have : memN p.1 (l.map (·.1)) = true := memN_iff.2 (List.mem_map.2 ⟨q, hm, e.symm⟩)
              rw [this] at hnd
              cases hnd.1
          rw [hne]
          exact ih hnd.2 hm
    rw [key _ hnd hq]
    rfl
  unfold fnLoop at hn
  rw [hl] at hn
  exact hn
def lp0 {U : Univ} : Lp U := ⟨fun _ _ _ => none⟩
theorem lp0_ok {X : Cx} {E : FuncId → Option (Spc X.U)} {an : Ann} {fn : Func} (h : (match fn.body with | some c => (loops c 0).isEmpty | none => true) = true) : ∀ c, fn.body = some c → LpOk X E an lp0 (loops c 0) := fun c hc => by
  rw [hc] at h
  have : loops c 0 = [] := by simpa using h
  rw [this]
  exact ⟨fun q hq => (by cases hq), fun b s R K r h => (by cases h)⟩
theorem SpecOk.of_ev {P : Program} {U : Univ} {fid : FuncId} {S S0 : Spc U} (h0 : SpecOk P fid S0) (hp : ∀ objs args, PathF fun k => S.F objs args k) (h : ∀ objs args o v, S.F objs args (fun o v => some (o, v)) = some (o, v) → S0.F objs args (fun o v => some (o, v)) = some (o, v)) : SpecOk P fid S :=
  ⟨h0.fn, hp, fun objs args o v hs => h0.ok objs args o v (h _ _ _ _ hs)⟩
/-- What a function comes to, of what it takes: if `pre` holds, then it leaves `o` and hands back `v`. -/
def Spc.of {U : Univ} {A : Type} (d : List (TO U) → List (TV U) → Option A) (pre : A → Prop) [DecidablePred pre] (o : A → List (TO U)) (v : A → TV U) : Spc U := ⟨fun objs args k => match d objs args with
  | some x => if pre x then k (o x) (v x) else none
  | none => none⟩
theorem SpecOk.of {P : Program} {U : Univ} {fid : FuncId} {S0 : Spc U} (h0 : SpecOk P fid S0) {A : Type} {d : List (TO U) → List (TV U) → Option A} {pre : A → Prop} [DecidablePred pre] {o : A → List (TO U)} {v : A → TV U}
    (h : ∀ objs args x, d objs args = some x → pre x → S0.F objs args (fun o v => some (o, v)) = some (o x, v x)) : SpecOk P fid (Spc.of d pre o v) := by
  refine SpecOk.of_ev h0 (fun objs args => ?_) fun objs args o' v' h' => ?_
  · intro R k r h'
    unfold Spc.of at h' ⊢
    dsimp only at h' ⊢
    cases hd : d objs args with
    | none => rw [hd] at h'; cases h'
    | some x =>
      rw [hd] at h'
      dsimp only at h' ⊢
      split at h' <;> try (cases h'; done)
      rename_i hp
      exact ⟨_, _, h', fun k' => by rw [if_pos hp]⟩
  · unfold Spc.of at h'
    dsimp only at h'
    cases hd : d objs args with
    | none => rw [hd] at h'; cases h'
    | some x =>
      rw [hd] at h'
      dsimp only at h'
      split at h' <;> try (cases h'; done)
      rename_i hp
      cases h'
      exact h _ _ _ hd hp
/-- A function that was walked comes to what is told of it. -/
theorem fn_ok {P : Program} {X : Cx} (hX : CxOk P X) (hm : P.follows .mixedOrders = true) {E : FuncId → Option (Spc X.U)} (hE : ∀ f S, E f = some S → SpecOk P f S) (an : Ann) (lp : Lp X.U) {fid : FuncId} {fn : Func} (hf : P.funcs[fid]? = some fn) (hname : (fn.name == "runtime.NumGoroutine") = false) (hcode : (match fn.body with | some c => codeOk fn.ntmps c | none => false) = true)
    (hL : ∀ c, fn.body = some c → LpOk X E an lp (loops c 0)) {A : Type} {d : List (TO X.U) → List (TV X.U) → Option A} {pre : A → Prop} [DecidablePred pre] {o : A → List (TO X.U)} {v : A → TV X.U}
    (h : ∀ objs args x, d objs args = some x → pre x → evFn X E an lp fn objs args (fun o v => some (o, v)) = some (o x, v x)) : SpecOk P fid (Spc.of d pre o v) :=
  SpecOk.of (specFn_ok hX hm hE an lp hf hname hcode hL) h
/-- The same of loops: of a block's loop, told by `d`. -/
def lpOf {U : Univ} {A : Type} (d : TS U → Option A) (pre : A → Prop) [DecidablePred pre] (ex : A → Exit) (s' : A → TS U) {R : Type} (s : TS U) (K : Exit → TS U → Option R) : Option R := match d s with
  | some x => if pre x then K (ex x) (s' x) else none
  | none => none
end Go.Proofs.YtcbbpidnocgoiaaDoor.Eng

/- Regions: in the text's order, and in whatever order their edges leave. -/
import Derived.Test.YtcbbpidnocgoiaaDoorEng6
namespace Go.Proofs.YtcbbpidnocgoiaaDoor.Eng
open Go Go.RowKit
set_option linter.unusedVariables false
set_option linter.unusedSimpArgs false

/-- As `Step`, of the i-th operation of a region, its guard with it. -/
def GStep (P : Program) (ops : Array Oper) (i : Nat) (L : List Loc) (e : Eff) (s : St) : Prop :=
  ∀ (f : Fr) (σ : St) (a : Act) (w : World) (K : Act → World → Prop) (Q : Exit → Act → World → Prop), Agree L s σ → (∀ o d, ops[i]? = some o → o.dst = some d → d < f.N) → R f σ a w →
    (∀ a' w', R f (σ.app e) a' w' → K a' w') → wpOp P ops Q i K a w
section
variable {P : Program} {ops : Array Oper} {i : Nat} {o : Oper} {s : St} {L : List Loc} {e : Eff}
theorem GStep.of (hi : ops[i]? = some o) (hg : o.guard = none) (h : Step P o L e s) : GStep P ops i L e s := by
  intro f σ a w K Q hA hd hR hK
  unfold wpOp
  rw [hi]
  have hw : Region.wanted o (yielded ops a.tmps) = true := by simp [Region.wanted, hg]
  simp only [hw, if_true]
  exact .inl (h f σ a w K Q hA (hd o · hi) hR hK)
theorem yielded_of {f : Fr} {g : Gh} {σ : St} {a : Act} {w : World} (hR : Rel f g σ a w) {j t : Nat} {c : Bool} (ht : (ops[j]?).bind (·.dst) = some t) (hs : σ.slot t = .v (.bool c)) : yielded ops a.tmps j = some c := by
  have h1 := hR.slot t
  rw [hs] at h1
  have h2 := rep_v h1
  unfold yielded
  rw [ht]
  cases hq : a.tmps[t]? with
  | none =>
    rw [Array.getD_eq_getD_getElem?, hq] at h2
    cases h2
  | some v =>
    rw [Array.getD_eq_getD_getElem?, hq] at h2
    simp only [Option.getD_some] at h2
    simp [hq, h2]
theorem GStep.guard {j t : Nat} {b : Bool} (hi : ops[i]? = some o) (hg : o.guard = some (j, b)) (ht : (ops[j]?).bind (·.dst) = some t) (hs : s.slot t = .v (.bool b)) (h : Step P o L e s) : GStep P ops i (.slot t :: L) e s := by
  intro f σ a w K Q hA hd hR hK
  unfold wpOp
  rw [hi]
  have hw : Region.wanted o (yielded ops a.tmps) = true := by
    obtain ⟨g, hg'⟩ := hR
    simp [Region.wanted, hg, yielded_of hg' ht (by rw [hA.1 t List.mem_cons_self, hs])]
  simp only [hw, if_true]
  exact .inl (h f σ a w K Q (hA.of_mem fun y hy => List.mem_cons_of_mem _ hy) (hd o · hi) hR hK)
theorem GStep.off {j t : Nat} {b c : Bool} (hi : ops[i]? = some o) (hg : o.guard = some (j, b)) (ht : (ops[j]?).bind (·.dst) = some t) (hs : s.slot t = .v (.bool c)) (hc : c ≠ b) : GStep P ops i [.slot t] ⟨o.dst, .v undef, []⟩ s := by
  intro f σ a w K Q hA hd hR hK
  obtain ⟨g, hR⟩ := hR
  unfold wpOp
  rw [hi]
  have hw : Region.wanted o (yielded ops a.tmps) = false := by
    simp [Region.wanted, hg, yielded_of hR ht (by rw [hA.1 t List.mem_cons_self, hs]), hc]
  simp only [hw, Bool.false_eq_true, if_false]
  exact hK _ _ ⟨g, hR.put o.dst (hd o · hi) (.v _)⟩
end

/-- The operations from the i-th on, in the text's order: what each looks at and leaves. -/
inductive Chain (P : Program) (ops : Array Oper) : Nat → St → List (List Loc × Eff) → St → Prop where
  | nil {i : Nat} {s : St} : Chain P ops i s [] s
  | cons {i : Nat} {s s' : St} {L : List Loc} {e : Eff} {l : List (List Loc × Eff)} (h : GStep P ops i L e s) (t : Chain P ops (i + 1) (s.app e) l s') : Chain P ops i s ((L, e) :: l) s'

def dstsOk (N : Nat) (ops : Array Oper) : Bool := ops.toList.all fun o => match o.dst with | some d => decide (d < N) | none => true
theorem dstsOk.of {N : Nat} {ops : Array Oper} (h : dstsOk N ops = true) (i : Nat) (o : Oper) (d : Nat) (hi : ops[i]? = some o) (hd : o.dst = some d) : d < N := by
  have hm : o ∈ ops.toList := by
    have := Array.mem_of_getElem? hi
    simpa using this
  have := List.all_eq_true.1 h o hm
  rw [hd] at this
  simpa using this
section
variable {P : Program} {ops : Array Oper}
theorem Chain.inText {f : Fr} (hd : dstsOk f.N ops = true) {Q : Exit → Act → World → Prop} : ∀ {i : Nat} {s s' : St} {l : List (List Loc × Eff)}, Chain P ops i s l s' → ∀ {a : Act} {w : World}, R f s a w → (∀ a' w', R f s' a' w' → Q .normal a' w') →
    wpOps P ops Q (List.range' i l.length) a w
  | _, _, _, _, .nil, a, w, hR, hQ => hQ _ _ hR
  | i, _, _, _, .cons h t, a, w, hR, hQ => by
    rw [List.length_cons, List.range'_succ, wpOps_cons]
    exact h f _ a w _ Q (Agree.refl _ _) (dstsOk.of hd i) hR fun a' w' hR' => t.inText hd hR' hQ

/-! ### In any order -/
/-- What is at a place. -/
def St.at (s : St) : Loc → SV ⊕ OS
  | .slot t => .inl (s.slot t)
  | .obj i => .inr (s.obj i)
theorem St.ext_at {s s' : St} (h : ∀ l, s.at l = s'.at l) : s = s' := by
  cases s with
  | mk sl ob =>
    cases s' with
    | mk sl' ob' =>
      have h1 : sl = sl' := funext fun t => Sum.inl.inj (h (.slot t))
      have h2 : ob = ob' := funext fun t => Sum.inr.inj (h (.obj t))
      rw [h1, h2]
def wrO : List (Nat × OS) → Nat → Option OS
  | [], _ => none
  | (j, x) :: l, i => (wrO l i).or (if i = j then some x else none)
def Eff.wr (e : Eff) : Loc → Option (SV ⊕ OS)
  | .slot t => if e.dst = some t then some (.inl e.v) else none
  | .obj i => (wrO e.ob i).map .inr
theorem upds_obj : ∀ (l : List (Nat × OS)) (s : St) (i : Nat), (s.upds l).obj i = (wrO l i).getD (s.obj i)
  | [], s, i => rfl
  | (j, x) :: l, s, i => by
    rw [St.upds, upds_obj l, wrO]
    cases wrO l i with
    | some y => rfl
    | none =>
      show (if i = j then x else s.obj i) = _
      by_cases h : i = j
      · rw [if_pos h, if_pos h]; rfl
      · rw [if_neg h, if_neg h]; rfl
theorem upds_slot : ∀ (l : List (Nat × OS)) (s : St) (t : Nat), (s.upds l).slot t = s.slot t
  | [], s, t => rfl
  | (j, x) :: l, s, t => by rw [St.upds, upds_slot l]; rfl
theorem at_app (s : St) (e : Eff) (l : Loc) : (s.app e).at l = (e.wr l).getD (s.at l) := by
  cases l with
  | slot t =>
    show Sum.inl (if e.dst = some t then e.v else (s.upds e.ob).slot t) = _
    rw [upds_slot]
    unfold Eff.wr
    by_cases h : e.dst = some t
    · simp [h]
    · simp [h]; rfl
  | obj i =>
    show Sum.inr ((s.upds e.ob).obj i) = _
    rw [upds_obj]
    show _ = ((wrO e.ob i).map Sum.inr).getD (.inr (s.obj i))
    cases wrO e.ob i <;> rfl
def Eff.locs (e : Eff) : List Loc := (match e.dst with | some d => [.slot d] | none => []) ++ e.ob.map fun x => .obj x.1
theorem wrO_mem : ∀ (l : List (Nat × OS)) (i : Nat) (x : OS), wrO l i = some x → i ∈ l.map (·.1)
  | [], i, x, h => by cases h
  | (j, y) :: l, i, x, h => by
    rw [wrO] at h
    cases hw : wrO l i with
    | some z => exact List.mem_cons_of_mem _ (wrO_mem l i z hw)
    | none =>
      rw [hw] at h
      by_cases e : i = j
      · rw [e]; exact List.mem_cons_self
      · rw [if_neg e] at h; cases h
theorem wr_mem {e : Eff} {l : Loc} {x : SV ⊕ OS} (h : e.wr l = some x) : l ∈ e.locs := by
  unfold Eff.locs
  cases l with
  | slot t =>
    unfold Eff.wr at h
    by_cases e1 : e.dst = some t
    · rw [e1]; exact List.mem_append_left _ (List.mem_singleton.2 rfl)
    · simp [e1] at h
  | obj i =>
    unfold Eff.wr at h
    obtain ⟨y, hy, _⟩ := Option.map_eq_some_iff.1 h
    have := wrO_mem e.ob i y hy
    obtain ⟨z, hz, rfl⟩ := List.mem_map.1 this
    exact List.mem_append_right _ (List.mem_map.2 ⟨z, hz, rfl⟩)
theorem wr_none {e : Eff} {l : Loc} (h : l ∉ e.locs) : e.wr l = none := by
  cases hw : e.wr l with
  | none => rfl
  | some x => exact (h (wr_mem hw)).elim
/-- The effects of those that were done, in the text's order. -/
def foldE (S : Nat → Bool) : Nat → List (List Loc × Eff) → St → St
  | _, [], s => s
  | i, (_, e) :: l, s => foldE S (i + 1) l (if S i then s.app e else s)
def lastW (S : Nat → Bool) (loc : Loc) : Nat → List (List Loc × Eff) → Option (SV ⊕ OS)
  | _, [] => none
  | i, (_, e) :: l => (lastW S loc (i + 1) l).or (if S i then e.wr loc else none)
theorem at_foldE (S : Nat → Bool) (loc : Loc) : ∀ (l : List (List Loc × Eff)) (i : Nat) (s : St), (foldE S i l s).at loc = (lastW S loc i l).getD (s.at loc)
  | [], i, s => rfl
  | (L, e) :: l, i, s => by
    rw [foldE, lastW, at_foldE S loc l]
    cases lastW S loc (i + 1) l with
    | some x => rfl
    | none =>
      show (if S i = true then s.app e else s).at loc = ((if S i = true then e.wr loc else none) : Option _).getD _
      by_cases h : S i = true
      · rw [if_pos h, if_pos h, at_app]
      · rw [if_neg h, if_neg h]; rfl
theorem lastW_congr {S S' : Nat → Bool} {loc : Loc} : ∀ (l : List (List Loc × Eff)) (i : Nat), (∀ k L e, l[k]? = some (L, e) → loc ∈ e.locs → S (i + k) = S' (i + k)) → lastW S loc i l = lastW S' loc i l
  | [], i, h => rfl
  | (L, e) :: l, i, h => by
    rw [lastW, lastW, lastW_congr l (i + 1) fun k L e hk hm => by
      have h1 := h (k + 1) L e (by simpa using hk) hm
      have e1 : i + (k + 1) = i + 1 + k := by omega
      exact e1 ▸ h1]
    by_cases hm : loc ∈ e.locs
    · have := h 0 L e rfl hm
      rw [Nat.add_zero] at this
      rw [this]
    · rw [wr_none hm]
      simp
theorem lastW_last {S : Nat → Bool} {loc : Loc} : ∀ (l : List (List Loc × Eff)) (i j : Nat) (L : List Loc) (e : Eff) (x : SV ⊕ OS), l[j]? = some (L, e) → e.wr loc = some x → S (i + j) = true →
    (∀ k L e, l[k]? = some (L, e) → j < k → S (i + k) = true → loc ∉ e.locs) → lastW S loc i l = some x
  | (L, e) :: l, i, 0, L', e', x, hj, hx, hS, hno => by
    simp only [List.getElem?_cons_zero, Option.some.injEq, Prod.mk.injEq] at hj
    obtain ⟨rfl, rfl⟩ := hj
    have hrest : lastW S loc (i + 1) l = none := by
      have hz : ∀ (l : List (List Loc × Eff)) (m : Nat), (∀ k L e, l[k]? = some (L, e) → S (m + k) = true → loc ∉ e.locs) → lastW S loc m l = none := by
        intro l
        induction l with
        | nil => intro m h; rfl
        | cons p l ih =>
          intro m h
          obtain ⟨L, e⟩ := p
          rw [lastW, ih (m + 1) fun k L e hk hS => h (k + 1) L e (by simpa using hk) (by rwa [show m + (k + 1) = m + 1 + k by omega])]
          by_cases hm : S m = true
          · rw [if_pos hm, wr_none (h 0 L e rfl (by rwa [Nat.add_zero]))]; rfl
          · rw [if_neg hm]; rfl
      exact hz l (i + 1) fun k L e hk hS => hno (k + 1) L e (by simpa using hk) (by omega) (by rwa [show i + (k + 1) = i + 1 + k by omega])
    rw [lastW, hrest, if_pos (by rwa [Nat.add_zero] at hS), hx]
    rfl
  | (L, e) :: l, i, j + 1, L', e', x, hj, hx, hS, hno => by
    rw [lastW, lastW_last l (i + 1) j L' e' x (by simpa using hj) hx (by rwa [show i + 1 + j = i + (j + 1) by omega]) fun k L e hk hlt hS => hno (k + 1) L e (by simpa using hk) (by omega) (by rwa [show i + (k + 1) = i + 1 + k by omega])]
    rfl

/-- Which of them come ahead of which: a table, and that it says no more than the edges do. -/
def okTab (ops : Array Oper) (B : List Nat) : Bool := (List.range ops.size).all fun k => (List.range k).all fun i => !(B.getD k 0).testBit i ||
  match ops[k]? with
  | some o => o.after.toList.any fun e => Region.binds .any e && (e.on == i || (decide (i < e.on) && decide (e.on < k) && (B.getD e.on 0).testBit i))
  | none => false
def disj (A B : List Loc) : Bool := A.all fun x => !B.contains x
def indepOk (B : List Nat) (l : List (List Loc × Eff)) : Bool := (List.range l.length).all fun k => (List.range k).all fun i => (B.getD k 0).testBit i ||
  match l[i]?, l[k]? with
  | some (Li, ei), some (Lk, ek) => disj ei.locs Lk && disj ei.locs ek.locs && disj ek.locs Li
  | _, _ => true
theorem disj_spec {A B : List Loc} (h : disj A B = true) {x : Loc} (hx : x ∈ A) : x ∉ B := by
  have := List.all_eq_true.1 h x hx
  simpa using this
/-- Whoever was done had those ahead of it done. -/
def Closed (ops : Array Oper) (S : Nat → Bool) : Prop := ∀ k o, ops[k]? = some o → S k = true → ∀ e ∈ o.after, Region.binds .any e = true → S e.on = true
theorem tab_closed {ops : Array Oper} {B : List Nat} (h : okTab ops B = true) {S : Nat → Bool} (hS : ∀ k o, ops[k]? = some o → S k = true → ∀ e ∈ o.after, Region.binds .any e = true → S e.on = true) :
    ∀ (k i : Nat), k < ops.size → i < k → (B.getD k 0).testBit i = true → (∀ o, ops[k]? = some o → ∀ e ∈ o.after, Region.binds .any e = true → S e.on = true) → S i = true := by
  intro k
  induction k using Nat.strongRecOn with
  | _ k ih =>
    intro i hk hi hb hdir
    have h1 := List.all_eq_true.1 h k (List.mem_range.2 hk)
    have h2 := List.all_eq_true.1 h1 i (List.mem_range.2 hi)
    rw [hb] at h2
    obtain ⟨o, ho⟩ : ∃ o, ops[k]? = some o := ⟨ops[k], Array.getElem?_eq_getElem hk⟩
    rw [ho] at h2
    simp only [Bool.not_true, Bool.false_or, List.any_eq_true, Bool.and_eq_true, Bool.or_eq_true, beq_iff_eq, decide_eq_true_eq] at h2
    obtain ⟨e, he, hbd, h3⟩ := h2
    have hSe := hdir o ho e (by simpa using he) hbd
    rcases h3 with rfl | ⟨⟨h5, hlt⟩, h4⟩
    · exact hSe
    · exact ih e.on hlt i (by omega) h5 h4 fun o' ho' => hS e.on o' ho' hSe
theorem Chain.step : ∀ {i : Nat} {s s' : St} {l : List (List Loc × Eff)}, Chain P ops i s l s' → ∀ (j : Nat) (L : List Loc) (e : Eff), l[j]? = some (L, e) → GStep P ops (i + j) L e (foldE (fun k => decide (k < i + j)) i l s)
  | i, s, _, _, .cons (L := L0) (e := e0) (l := l) h t, 0, L, e, hj => by
    simp only [List.getElem?_cons_zero, Option.some.injEq, Prod.mk.injEq] at hj
    obtain ⟨rfl, rfl⟩ := hj
    have : ∀ (l : List (List Loc × Eff)) (m : Nat) (s : St), i ≤ m → foldE (fun k => decide (k < i + 0)) m l s = s := by
      intro l
      induction l with
      | nil => intro m s hm; rfl
      | cons p l ih =>
        intro m s hm
        obtain ⟨L, e⟩ := p
        rw [foldE, if_neg (by simp; omega)]
        exact ih (m + 1) s (by omega)
    rw [this _ _ _ (Nat.le_refl _)]
    exact h
  | i, s, _, _, .cons (L := L0) (e := e0) (l := l) h t, j + 1, L, e, hj => by
    rw [foldE, if_pos (by simp), show i + (j + 1) = i + 1 + j by omega]
    exact t.step j L e (by simpa using hj)
theorem Chain.last : ∀ {i : Nat} {s s' : St} {l : List (List Loc × Eff)}, Chain P ops i s l s' → ∀ (S : Nat → Bool), (∀ k, i ≤ k → k < i + l.length → S k = true) → foldE S i l s = s'
  | _, _, _, _, .nil, S, h => rfl
  | i, _, _, _, .cons (l := l) _ t, S, h => by
    rw [foldE, if_pos (h i (Nat.le_refl _) (by rw [List.length_cons]; omega))]
    exact t.last S fun k h1 h2 => h k (by omega) (by rw [List.length_cons]; omega)
theorem indep_spec {B : List Nat} {l : List (List Loc × Eff)} (h : indepOk B l = true) {i k : Nat} {Li Lk : List Loc} {ei ek : Eff} (hi : l[i]? = some (Li, ei)) (hk : l[k]? = some (Lk, ek)) (hlt : i < k) (hb : (B.getD k 0).testBit i = false) :
    (∀ x ∈ ei.locs, x ∉ Lk) ∧ (∀ x ∈ ei.locs, x ∉ ek.locs) ∧ (∀ x ∈ ek.locs, x ∉ Li) := by
  have hkl : k < l.length := (List.getElem?_eq_some_iff.1 hk).1
  have h1 := List.all_eq_true.1 h k (List.mem_range.2 hkl)
  have h2 := List.all_eq_true.1 h1 i (List.mem_range.2 hlt)
  rw [hb, hi, hk] at h2
  simp only [Bool.false_or, Bool.and_eq_true] at h2
  exact ⟨fun x hx => disj_spec h2.1.1 hx, fun x hx => disj_spec h2.1.2 hx, fun x hx => disj_spec h2.2 hx⟩
/-- THE REGION, IN WHATEVER ORDER ITS EDGES LEAVE. -/
theorem Chain.any {f : Fr} (hd : dstsOk f.N ops = true) {s s' : St} {l : List (List Loc × Eff)} (hc : Chain P ops 0 s l s') (hl : l.length = ops.size) {B : List Nat} (hB : okTab ops B = true) (hI : indepOk B l = true) {Q : Exit → Act → World → Prop}
    (hedge : ∀ k o, ops[k]? = some o → ∀ e ∈ o.after, Region.binds .any e = true → e.on < k) :
    ∀ (fuel : Nat) (listed : Array Bool), listed.size = ops.size → Closed ops (fun k => listed.getD k false) → (List.range ops.size).countP (fun k => !listed.getD k false) ≤ fuel → ∀ {a : Act} {w : World}, R f (foldE (fun k => listed.getD k false) 0 l s) a w → (∀ a' w', R f s' a' w' → Q .normal a' w') →
      wpAny P .any ops Q fuel listed a w := by
  -- where nothing is ready all is done
  have hdone : ∀ listed : Array Bool, listed.size = ops.size → Region.ready .any ops listed = [] → ∀ k, k < ops.size → listed.getD k false = true := by
    intro listed hsz hr k
    induction k using Nat.strongRecOn with
    | _ k ih =>
      intro hk
      by_cases h : listed.getD k false = true
      · exact h
      · have hin : k ∈ Region.ready .any ops listed := by
          rw [mem_ready]
          refine ⟨?_, ops[k], Array.getElem?_eq_getElem hk, fun e he hb => ?_⟩
          · rw [Array.getD_eq_getD_getElem?] at h ⊢
            have : k < listed.size := by omega
            simp [this] at h ⊢
            exact h
          · have hlt := hedge k _ (Array.getElem?_eq_getElem hk) e he hb
            exact ih e.on hlt (by omega)
        rw [hr] at hin
        cases hin
  intro fuel
  induction fuel with
  | zero =>
    intro listed hsz hcl hcount a w hR hQ
    have hall : ∀ k, k < ops.size → listed.getD k false = true := fun k hk => by
      have := List.countP_eq_zero.1 (Nat.le_zero.1 hcount) k (List.mem_range.2 hk)
      simpa using this
    refine ⟨?_, hQ _ _ ?_⟩
    · cases hr : Region.ready .any ops listed with
      | nil => rfl
      | cons k t =>
        have hk : k ∈ Region.ready .any ops listed := by rw [hr]; exact List.mem_cons_self
        obtain ⟨h1, o, ho, _⟩ := mem_ready.1 hk
        have hlt := (Array.getElem?_eq_some_iff.1 ho).1
        have h2 := hall k hlt
        rw [Array.getD_eq_getD_getElem?] at h1 h2
        have : k < listed.size := by omega
        simp [this] at h1 h2
        rw [h1] at h2
        cases h2
    · rw [hc.last _ fun k _ hk => hall k (by omega)] at hR
      exact hR
  | succ fuel ih =>
    intro listed hsz hcl hcount a w hR hQ
    refine ⟨fun hr => ?_, fun i hi => ?_⟩
    · rw [hc.last _ fun k _ hk => hdone listed hsz hr k (by omega)] at hR
      exact hQ _ _ hR
    · obtain ⟨h0, o, ho, hpre⟩ := mem_ready.1 hi
      have hlt := (Array.getElem?_eq_some_iff.1 ho).1
      have hil : listed.getD i false = false := by
        rw [Array.getD_eq_getD_getElem?] at h0 ⊢
        have : i < listed.size := by omega
        simp [this] at h0 ⊢
        exact h0
      obtain ⟨⟨L, e⟩, hle⟩ : ∃ p, l[i]? = some p := ⟨l[i]'(by omega), List.getElem?_eq_getElem (by omega)⟩
      have hst := hc.step i L e hle
      rw [Nat.zero_add] at hst
      have hS := hcl
      -- those that are told to be ahead of i are done; those that i is told to be ahead of are not
      have hbef : ∀ k, k < i → (B.getD i 0).testBit k = true → listed.getD k false = true := fun k hk hb =>
        tab_closed hB hS i k hlt hk hb fun o' ho' => by
          rw [ho] at ho'
          obtain rfl := Option.some.inj ho'
          exact hpre
      have haft : ∀ k, i < k → k < ops.size → (B.getD k 0).testBit i = true → listed.getD k false = false := fun k hk hks hb => by
        cases hlk : listed.getD k false with
        | false => rfl
        | true =>
          have := tab_closed hB hS k i hks hk hb fun o' ho' => hS k o' ho' hlk
          rw [hil] at this
          cases this
      have hag : Agree L (foldE (fun k => decide (k < i)) 0 l s) (foldE (fun k => listed.getD k false) 0 l s) := by
        have key : ∀ loc ∈ L, (foldE (fun k => listed.getD k false) 0 l s).at loc = (foldE (fun k => decide (k < i)) 0 l s).at loc := by
          intro loc hloc
          rw [at_foldE, at_foldE, lastW_congr l 0 fun k Lk ek hk hm => ?_]
          rw [Nat.zero_add]
          have hkl : k < l.length := (List.getElem?_eq_some_iff.1 hk).1
          rcases Nat.lt_trichotomy k i with h | h | h
          · show listed.getD k false = decide (k < i)
            rw [decide_eq_true h]
            cases hb : (B.getD i 0).testBit k with
            | true => exact hbef k h hb
            | false => exact absurd hloc ((indep_spec hI hk hle h hb).1 loc hm)
          · subst h
            rw [hle] at hk
            obtain ⟨rfl, rfl⟩ := Prod.mk.inj (Option.some.inj hk)
            show listed.getD k false = decide (k < k)
            rw [hil]
            simp
          · show listed.getD k false = decide (k < i)
            rw [decide_eq_false (by omega)]
            cases hb : (B.getD k 0).testBit i with
            | true => exact haft k h (by omega) hb
            | false => exact absurd hloc ((indep_spec hI hle hk h hb).2.2 loc hm)
        exact ⟨fun t ht => Sum.inl.inj (key (.slot t) ht), fun j hj => Sum.inr.inj (key (.obj j) hj)⟩
      refine hst f _ a w _ Q hag (fun o' d ho' hd' => dstsOk.of hd i o' d ho' hd') hR fun a' w' hR' => ?_
      refine ih (listed.setIfInBounds i true) (by simp [hsz]) ?_ ?_ ?_ hQ
      · intro k o' ho' hk e' he' hb'
        have hk : (listed.setIfInBounds i true).getD k false = true := hk
        show (listed.setIfInBounds i true).getD e'.on false = true
        by_cases hki : k = i
        · subst hki
          rw [ho] at ho'
          obtain rfl := Option.some.inj ho'
          exact getD_set_true (hpre e' he' hb')
        · rw [getD_set_ne false (Ne.symm hki)] at hk
          exact getD_set_true (hcl k o' ho' hk e' he' hb')
      · have hdec : (List.range ops.size).countP (fun k => !(listed.setIfInBounds i true).getD k false) < (List.range ops.size).countP (fun k => !listed.getD k false) := by
          have hgen : ∀ (l : List Nat), i ∈ l → l.Nodup → l.countP (fun k => !(listed.setIfInBounds i true).getD k false) < l.countP (fun k => !listed.getD k false) := by
            intro l
            induction l with
            | nil => intro h _; cases h
            | cons x l ihl =>
              intro hm hnd
              rw [List.countP_cons, List.countP_cons]
              rw [List.nodup_cons] at hnd
              have hle : ∀ l : List Nat, l.countP (fun k => !(listed.setIfInBounds i true).getD k false) ≤ l.countP (fun k => !listed.getD k false) := by
                intro l
                refine List.countP_mono_left fun y _ hy => ?_
                by_cases hyi : y = i
                · rw [hyi, hil]; rfl
                · rwa [getD_set_ne false (Ne.symm hyi)] at hy
              rcases List.mem_cons.1 hm with rfl | hm
              · have h1 := hle l
                have h2 : (listed.setIfInBounds i true).getD i false = true := by
                  have : i < listed.size := by omega
                  simp [this]
                rw [h2, hil]
                simp only [Bool.not_true, Bool.not_false, Bool.false_eq_true, if_false, if_true]
                omega
              · have h1 := ihl hm hnd.2
                have hxi : x ≠ i := fun h => hnd.1 (h ▸ hm)
                rw [getD_set_ne false (Ne.symm hxi)]
                omega
          exact hgen _ (List.mem_range.2 hlt) List.nodup_range
        omega
      · have heq : (foldE (fun k => listed.getD k false) 0 l s).app e = foldE (fun k => (listed.setIfInBounds i true).getD k false) 0 l s := by
          apply St.ext_at
          intro loc
          have hself : (listed.setIfInBounds i true).getD i false = true := by
            have : i < listed.size := by omega
            simp [this]
          rw [at_app]
          cases hw : e.wr loc with
          | some x =>
            show x = _
            rw [at_foldE, lastW_last l 0 i L e x hle hw (by rw [Nat.zero_add]; exact hself) fun k Lk ek hk hlt' hSk hm => ?_]
            · rfl
            · rw [Nat.zero_add] at hSk
              have hkl : k < l.length := (List.getElem?_eq_some_iff.1 hk).1
              rw [getD_set_ne false (by omega)] at hSk
              cases hb : (B.getD k 0).testBit i with
              | true => rw [haft k hlt' (by omega) hb] at hSk; cases hSk
              | false => exact (indep_spec hI hle hk hlt' hb).2.1 loc (wr_mem hw) hm
          | none =>
            show (foldE _ 0 l s).at loc = _
            rw [at_foldE, at_foldE, lastW_congr l 0 fun k Lk ek hk hm => ?_]
            rw [Nat.zero_add]
            show listed.getD k false = (listed.setIfInBounds i true).getD k false
            by_cases hki : k = i
            · subst hki
              rw [hle] at hk
              obtain ⟨rfl, rfl⟩ := Prod.mk.inj (Option.some.inj hk)
              cases loc with
              | slot t =>
                unfold Eff.locs at hm
                unfold Eff.wr at hw
                rcases List.mem_append.1 hm with h | h
                · cases hd' : e.dst with
                  | none => rw [hd'] at h; cases h
                  | some d =>
                    rw [hd'] at h hw
                    have := List.mem_singleton.1 h
                    cases this
                    simp at hw
                · obtain ⟨z, _, hz⟩ := List.mem_map.1 h
                  cases hz
              | obj j =>
                unfold Eff.locs at hm
                unfold Eff.wr at hw
                rcases List.mem_append.1 hm with h | h
                · cases hd' : e.dst with
                  | none => rw [hd'] at h; cases h
                  | some d => rw [hd'] at h; have := List.mem_singleton.1 h; cases this
                · obtain ⟨z, hz1, hz⟩ := List.mem_map.1 h
                  obtain rfl := Loc.obj.inj hz
                  have hn : ∀ (ob : List (Nat × OS)), z ∈ ob → wrO ob z.1 ≠ none := by
                    intro ob
                    induction ob with
                    | nil => intro h; cases h
                    | cons y ob iho =>
                      intro h hnn
                      obtain ⟨yj, yx⟩ := y
                      rw [wrO] at hnn
                      rcases List.mem_cons.1 h with rfl | h
                      · cases hq : wrO ob yj with
                        | none => simp [hq] at hnn
                        | some q => simp [hq] at hnn
                      · cases hq : wrO ob z.1 with
                        | none => exact iho h hq
                        | some q => rw [hq] at hnn; cases hnn
                  have hw : (wrO e.ob z.1).map (Sum.inr (α := SV)) = none := hw
                  have : wrO e.ob z.1 = none := by
                    cases hq : wrO e.ob z.1 with
                    | none => rfl
                    | some q => rw [hq] at hw; cases hw
                  exact (hn e.ob hz1 this).elim
            · rw [getD_set_ne false (Ne.symm hki)]
        rw [← heq]
        exact hR'
end
end Go.Proofs.YtcbbpidnocgoiaaDoor.Eng

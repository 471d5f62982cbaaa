/- Contracts of functions that take objects. -/
import Derived.Test.YtcbbpidnocgoiaaDoorEng10
namespace Go.Proofs.YtcbbpidnocgoiaaDoor.Eng
open Go Go.RowKit
set_option linter.unusedVariables false
set_option linter.unusedSimpArgs false

/-- The blocks of the objects that are handed in and may be written. -/
def HWr (objs : List Ob) (g : Gh) (b : Nat) : Prop := ∃ i o, objs[i]? = some o ∧ o.fz = false ∧ g.β i = some b
structure HPost (objs : List Ob) (objs' : List OS) (g g' : Gh) (w w' : World) : Prop where
  ob : ∀ i o, objs'[i]? = some (OS.ob o) → ObRep g' w'.heap i o
  inj : ∀ i j o o' b, objs'[i]? = some (OS.ob o) → objs'[j]? = some (OS.ob o') → o.fz = false → o'.fz = false → g'.β i = some b → g'.β j = some b → i = j
  own : ∀ i o b, objs'[i]? = some (OS.ob o) → o.fz = false → g'.β i = some b → w.heap.size ≤ b ∨ HWr objs g b
  base : ∀ b, b < w.heap.size → ¬ HWr objs g b → w'.heap[b]? = w.heap[b]?
  hsize : w.heap.size ≤ w'.heap.size
  F0 : ∀ b, g.F b → g'.F b
  Fold : ∀ b, g'.F b → b < w.heap.size → g.F b ∨ HWr objs g b
  Flt : ∀ b, g'.F b → b < w'.heap.size
  os : w'.os = w.os
  tape : w'.tape = w.tape
  output : w'.output = w.output
  gext : ∀ id b, g.β id = some b → g'.β id = some b ∧ g'.mm id = g.mm id ∧ g'.o0 id = g.o0 id
  kept : ∀ (b : Nat) (cs : Array Value) (T : TypeId) (fr : Nat × Nat), w.heap[b]? = some (Go.Obj.cells cs T fr) → ∃ (cs' : Array Value) (fr' : Nat × Nat), w'.heap[b]? = some (Go.Obj.cells cs' T fr') ∧ cs'.size = cs.size
structure HPre (objs : List Ob) (g : Gh) (w : World) : Prop where
  tb : TabsOk g.F w
  Flt : ∀ b, g.F b → b < w.heap.size
  ob : ∀ i o, objs[i]? = some o → ObRep g w.heap i o
  never : ∀ i, objs.length ≤ i → g.β i = none
  inj : ∀ i j o o' b, objs[i]? = some o → objs[j]? = some o' → o.fz = false → o'.fz = false → g.β i = some b → g.β j = some b → i = j
def HCall (P : Program) (fid : FuncId) (objs : List Ob) (args : List SV) (objs' : List OS) (res : SV) : Prop :=
  ∀ (g : Gh) (w : World) (vs : List Value), HPre objs g w → RepL g w.heap vs args →
    Calls P fid vs.toArray w fun e w' => ∃ v g', e = .returned v ∧ Rep g' w'.heap v res ∧ HPost objs objs' g g' w w'
def StH (objs : List Ob) (args : List SV) : St := ⟨fun t => args.getD t (.v undef), fun i => match objs[i]? with | some o => .ob o | none => .never⟩
def ResH (P : Program) (fn : Func) (s : St) (res : SV) : Prop :=
  ∀ (f : Fr) (g : Gh) (a : Act) (w : World), Rel f g s a w → ∃ v, (results fn a.tmps).run P w = .ok v w ∧ Rep g w.heap v res
theorem HCall.of {P : Program} {fid : FuncId} {fn : Func} {c : Code} {objs : List Ob} {args : List SV} {objs' : List OS} {res : SV} (hf : P.funcs[fid]? = some fn) (hb : fn.body = some c) (hok : codeOk fn.ntmps c = true) (hn : args.length ≤ fn.ntmps)
    (h : Cwp P c (StH objs args) fun ex s' => (ex = .ret ∨ ex = .normal) ∧ ResH P fn s' res ∧ ∀ i x, objs'[i]? = some x → s'.obj i = x) : HCall P fid objs args objs' res := by
  intro g w vs hp hrep
  have hvl := hrep.length
  refine calls_of_wp hf hb ?_
  have hR : R ⟨w, HWr objs g, g.F, fn.ntmps, g⟩ (StH objs args) { tmps := vs.toArray ++ Array.replicate (fn.ntmps - vs.toArray.size) undef, defers := [] } w := by
    have hob : ∀ i o, (StH objs args).obj i = .ob o → objs[i]? = some o := fun i o ho => by
      have ho : (match objs[i]? with | some o => OS.ob o | none => .never) = .ob o := ho
      cases hi : objs[i]? with
      | none => rw [hi] at ho; cases ho
      | some p => rw [hi] at ho; cases ho; rfl
    refine ⟨g, { slot := fun t => ?_, size := by simp; omega, defers := rfl, never := fun i hi => hp.never i ?_, ob := fun i o ho => hp.ob i o (hob i o ho), inj := fun i j o o' b ho ho' => hp.inj i j o o' b (hob i o ho) (hob j o' ho'), own := fun i o b ho hz hb => .inr ⟨i, o, hob i o ho, hz, hb⟩, base := fun _ _ _ => rfl, hsize := Nat.le_refl _, F0 := fun _ h => h, Fold := fun _ h _ => .inl h, Flt := hp.Flt, os := rfl, tape := rfl, output := rfl, gext := fun _ _ h => ⟨h, rfl, rfl⟩, kept := fun b cs T fr h => ⟨cs, fr, h, rfl⟩, tb := hp.tb }⟩
    · show Rep _ _ _ (args.getD t (.v undef))
      by_cases ht : t < args.length
      · obtain ⟨x, hx, hR⟩ := hrep.get t args[t] (List.getElem?_eq_getElem ht)
        have : (vs.toArray ++ Array.replicate (fn.ntmps - vs.toArray.size) undef).getD t undef = x := by
          rw [Array.getD_eq_getD_getElem?, Array.getElem?_append_left (by simp; omega)]
          simp [hx]
        rw [this, List.getD_eq_getElem?_getD, List.getElem?_eq_getElem ht]
        exact hR
      · have : (vs.toArray ++ Array.replicate (fn.ntmps - vs.toArray.size) undef).getD t undef = undef := by
          rw [Array.getD_eq_getD_getElem?, Array.getElem?_append_right (by simp; omega), Array.getElem?_replicate]
          split <;> rfl
        rw [this, List.getD_eq_getElem?_getD, List.getElem?_eq_none (by omega)]
        exact .v _
    · have hi : (match objs[i]? with | some o => OS.ob o | none => .never) = .never := hi
      cases hq : objs[i]? with
      | none => exact List.getElem?_eq_none_iff.1 hq
      | some p => rw [hq] at hi; cases hi
  refine wp_mono (h _ _ _ hok hR) fun ex a' w' ⟨s', ⟨hex, hres, hobs⟩, g', hR'⟩ => ?_
  obtain ⟨v, hv, hrv⟩ := hres _ _ _ _ hR'
  have hpost : HPost objs objs' g g' w w' :=
    { ob := fun i o ho => hR'.ob i o (hobs i _ ho), inj := fun i j o o' b ho ho' => hR'.inj i j o o' b (hobs i _ ho) (hobs j _ ho'), own := fun i o b ho => hR'.own i o b (hobs i _ ho), base := hR'.base, hsize := hR'.hsize, F0 := hR'.F0, Fold := hR'.Fold, Flt := hR'.Flt, os := hR'.os, tape := hR'.tape, output := hR'.output, gext := hR'.gext, kept := hR'.kept }
  have hfin : a'.defers = [] ∧ ∃ v, (results fn a'.tmps).run P w' = .ok v w' ∧ ∃ v_1 g', Ending.returned v = .returned v_1 ∧ Rep g' w'.heap v_1 res ∧ HPost objs objs' g g' w w' :=
    ⟨hR'.defers, v, hv, v, g', rfl, hrv, hpost⟩
  rcases hex with rfl | rfl
  · exact hfin
  · exact hfin
/-- One result in a slot. -/
theorem resH_one {P : Program} {fn : Func} {s : St} {t : Nat} (hr : fn.results = #[.tmp t]) {res : SV} (hs : s.slot t = res) : ResH P fn s res := fun f g a w hR => by
  refine ⟨a.tmps.getD t undef, ?_, by rw [← hs]; exact hR.slot t⟩
  simp [results, hr]
theorem resH_none {P : Program} {fn : Func} {s : St} (hr : fn.results = #[]) : ResH P fn s (.tup []) := fun f g a w hR => by
  refine ⟨.tuple #[], ?_, .tup .nil⟩
  simp [results, hr]
theorem resH_two {P : Program} {fn : Func} {s : St} {t u : Nat} (hr : fn.results = #[.tmp t, .tmp u]) {res res' : SV} (hs : s.slot t = res) (hs' : s.slot u = res') : ResH P fn s (.tup [res, res']) := fun f g a w hR => by
  refine ⟨.tuple #[a.tmps.getD t undef, a.tmps.getD u undef], ?_, .tup (.cons (by rw [← hs]; exact hR.slot t) (.cons (by rw [← hs']; exact hR.slot u) .nil))⟩
  simp [results, hr]

/-! ### The call -/
def Ob.ren (ρ : Nat → Nat) (o : Ob) : Ob := ⟨o.m, renR ρ o.rows, o.fz⟩
def OS.ren (ρ : Nat → Nat) : OS → OS
  | .never => .never
  | .dead => .dead
  | .ob o => .ob (o.ren ρ)
def OS.okH (n : Nat) : OS → Bool
  | .never => false
  | .dead => true
  | .ob o => ltR n o.rows
def nameH (ids : List Nat) (i : Nat) : Nat := ids.getD i 0
def pullG (g : Gh) (ρ : Nat → Nat) (n : Nat) : Gh := ⟨fun i => if i < n then g.β (ρ i) else none, fun i => g.o0 (ρ i), fun i => g.mm (ρ i), g.F⟩
/-- What a slot holds, told under the callee's names. -/
def SolH (ρ : Nat → Nat) (n : Nat) (s : St) (sv sv' : SV) (L : List Loc) : Prop :=
  ∀ (f : Fr) (g : Gh) (σ : St) (a : Act) (w : World) (x : Value), Agree L s σ → Rel f g σ a w → Rep g w.heap x sv → Rep (pullG g ρ n) w.heap x sv'
theorem pull_pullG (g : Gh) (ρ : Nat → Nat) (n : Nat) : Pull (pullG g ρ n) g ρ n := ⟨fun i b hi hb => ⟨by show (if i < n then _ else _) = _; rw [if_pos hi]; exact hb, rfl, rfl⟩, fun _ h => h⟩
theorem SolH.ren {ρ : Nat → Nat} {n : Nat} {s : St} {sv sv' : SV} (h : sv'.ren ρ = sv) (hlt : sv'.lt n = true) : SolH ρ n s sv sv' [] := fun f g σ a w x hA hR hx => by
  subst h
  exact hx.pull (pull_pullG g ρ n) hlt
theorem SolH.sol {ρ : Nat → Nat} {n : Nat} {s : St} {sv sv' : SV} {L : List Loc} (h : Sol s sv sv' L) : SolH ρ n s sv sv' L := fun f g σ a w x hA hR hx => by
  have hg : GExt (clo g.F) (pullG g ρ n) := ⟨fun _ _ h => (by cases h), fun _ h => h⟩
  exact (h f g σ a w x hA hR hx).ext hg (Ext.refl _ _)
inductive SolHL (ρ : Nat → Nat) (n : Nat) (s : St) : List SV → List SV → List Loc → Prop where
  | nil : SolHL ρ n s [] [] []
  | cons {x x' : SV} {l l' : List SV} {L M : List Loc} (h : SolH ρ n s x x' L) (t : SolHL ρ n s l l' M) : SolHL ρ n s (x :: l) (x' :: l') (L ++ M)
theorem SolHL.rep {ρ : Nat → Nat} {n : Nat} {s : St} : ∀ {l l' : List SV} {L : List Loc}, SolHL ρ n s l l' L → ∀ {f : Fr} {g : Gh} {σ : St} {a : Act} {w : World} {xs : List Value}, Agree L s σ → Rel f g σ a w → RepL g w.heap xs l → RepL (pullG g ρ n) w.heap xs l'
  | _, _, _, .nil, _, _, _, _, _, _, _, _, .nil => .nil
  | _, _, _, .cons h t, _, _, _, _, _, _, hA, hR, .cons hx ht => .cons (h _ _ _ _ _ _ hA.left hR hx) (t.rep hA.right hR ht)
/-- The objects that a call leaves. -/
def zipH (ρ : Nat → Nat) : List Nat → List OS → List (Nat × OS)
  | i :: l, x :: m => (i, x.ren ρ) :: zipH ρ l m
  | _, _ => []
theorem zipH_obj (ρ : Nat → Nat) : ∀ (l : List Nat) (m : List OS) (s : St) (i : Nat), l.Nodup → l.length = m.length →
    (s.upds (zipH ρ l m)).obj i = match l.idxOf? i with | some j => ((m[j]?).map (OS.ren ρ)).getD (s.obj i) | none => s.obj i
  | [], [], s, i, _, _ => rfl
  | k :: l, x :: m, s, i, hn, hl => by
    rw [List.nodup_cons] at hn
    show ((s.upd k (x.ren ρ)).upds (zipH ρ l m)).obj i = _
    rw [zipH_obj ρ l m _ i hn.2 (by simpa using hl), List.idxOf?_cons]
    by_cases e : k = i
    · subst e
      have : l.idxOf? k = none := List.idxOf?_eq_none_iff.2 hn.1
      rw [this, if_pos (by simp)]
      show (if k = k then x.ren ρ else _) = _
      rw [if_pos rfl]
      rfl
    · rw [if_neg (by simpa using e)]
      have hs : (s.upd k (x.ren ρ)).obj i = s.obj i := by show (if i = k then _ else _) = _; rw [if_neg (Ne.symm e)]
      cases hq : l.idxOf? i with
      | none => exact hs
      | some j =>
        show ((m[j]?).map (OS.ren ρ)).getD _ = (((x :: m)[j + 1]?).map (OS.ren ρ)).getD _
        rw [hs, List.getElem?_cons_succ]
theorem zipH_slot (ρ : Nat → Nat) (l : List Nat) (m : List OS) (s : St) (t : Nat) : (s.upds (zipH ρ l m)).slot t = s.slot t := upds_slot _ _ _

theorem nameH_get {nm : List Nat} {j id : Nat} (h : nm[j]? = some id) : nameH nm j = id := by
  unfold nameH
  rw [List.getD_eq_getElem?_getD, h]
  rfl
theorem idx_get {nm : List Nat} (hn : nm.Nodup) {j id : Nat} (h : nm[j]? = some id) : nm.idxOf? id = some j := by
  induction nm generalizing j with
  | nil => simp at h
  | cons k nm ih =>
    rw [List.nodup_cons] at hn
    rw [List.idxOf?_cons]
    cases j with
    | zero =>
      simp only [List.getElem?_cons_zero, Option.some.injEq] at h
      rw [if_pos (by simpa using h)]
    | succ j =>
      rw [List.getElem?_cons_succ] at h
      have hk : k ≠ id := by rintro rfl; exact hn.1 (List.mem_of_getElem? h)
      rw [if_neg (by simpa using hk), ih hn.2 h]
      rfl
theorem get_idx {nm : List Nat} {j id : Nat} (h : nm.idxOf? id = some j) : nm[j]? = some id := by
  induction nm generalizing j with
  | nil => simp at h
  | cons k nm ih =>
    rw [List.idxOf?_cons] at h
    by_cases e : k = id
    · rw [if_pos (by simpa using e)] at h
      cases h
      simp [e]
    · rw [if_neg (by simpa using e)] at h
      obtain ⟨j', hj', rfl⟩ := Option.map_eq_some_iff.1 h
      rw [List.getElem?_cons_succ]
      exact ih hj'
def afterG (g gc : Gh) (nm : List Nat) (n : Nat) : Gh :=
  ⟨fun i => match nm.idxOf? i with | some j => if j < n then g.β i else gc.β j | none => g.β i,
   fun i => match nm.idxOf? i with | some j => if j < n then g.o0 i else gc.o0 j | none => g.o0 i,
   fun i => match nm.idxOf? i with | some j => if j < n then g.mm i else gc.mm j | none => g.mm i, gc.F⟩
theorem afterG_old {g gc : Gh} {nm : List Nat} {n i : Nat} (h : ∀ j, nm.idxOf? i = some j → j < n) : (afterG g gc nm n).β i = g.β i ∧ (afterG g gc nm n).o0 i = g.o0 i ∧ (afterG g gc nm n).mm i = g.mm i := by
  cases hq : nm.idxOf? i with
  | none => exact ⟨by simp [afterG, hq], by simp [afterG, hq], by simp [afterG, hq]⟩
  | some j => have := h j hq; exact ⟨by simp [afterG, hq, this], by simp [afterG, hq, this], by simp [afterG, hq, this]⟩
theorem afterG_new {g gc : Gh} {nm : List Nat} {n i j : Nat} (h : nm.idxOf? i = some j) (hj : ¬ j < n) : (afterG g gc nm n).β i = gc.β j ∧ (afterG g gc nm n).o0 i = gc.o0 j ∧ (afterG g gc nm n).mm i = gc.mm j :=
  ⟨by simp [afterG, h, hj], by simp [afterG, h, hj], by simp [afterG, h, hj]⟩
theorem Rel.afterH {f : Fr} {g gc : Gh} {σ : St} {a : Act} {w w' : World} (h : Rel f g σ a w) {ids new : List Nat} (hn : (ids ++ new).Nodup) {objs : List Ob} {objs' : List OS}
    (hin : ids.map σ.obj = objs.map fun o => .ob (o.ren (nameH (ids ++ new)))) (hnew : ∀ i ∈ new, σ.obj i = .never) (hl : objs'.length = (ids ++ new).length) (hok : objs'.all (OS.okH (ids ++ new).length) = true)
    (post : HPost objs objs' (pullG g (nameH (ids ++ new)) ids.length) gc w w') :
    ∃ g2, GExt g g2 ∧ Ext g.F w.heap w'.heap ∧ Push gc g2 (nameH (ids ++ new)) (ids ++ new).length ∧ Rel f g2 (σ.upds (zipH (nameH (ids ++ new)) (ids ++ new) objs')) a w' := by
  generalize hnm : ids ++ new = nm at *
  generalize hρ : nameH nm = ρ at *
  have hlen : ids.length = objs.length := by have := congrArg List.length hin; simpa using this
  have hnl : nm.length = ids.length + new.length := by rw [← hnm, List.length_append]
  have hρg : ∀ j id, nm[j]? = some id → ρ j = id := fun j id hj => by rw [← hρ]; exact nameH_get hj
  -- what was handed in
  have hA : ∀ j id, nm[j]? = some id → j < ids.length → ∃ o b, objs[j]? = some o ∧ σ.obj id = .ob (o.ren ρ) ∧ g.β id = some b ∧ gc.β j = some b ∧ gc.mm j = g.mm id ∧ gc.o0 j = g.o0 id := fun j id hj hlt => by
    have h1 : ids[j]? = some id := by rw [← hnm, List.getElem?_append_left hlt] at hj; exact hj
    have h2 := congrArg (fun l => l[j]?) hin
    simp only [List.getElem?_map, h1, Option.map_some] at h2
    cases hq : objs[j]? with
    | none => rw [hq] at h2; cases h2
    | some o =>
      rw [hq] at h2
      have h2 := Option.some.inj h2
      obtain ⟨⟨b, cs, T, fr, k1, _⟩, _⟩ := h.ob id _ h2
      have hp : (pullG g ρ ids.length).β j = some b := by
        show (if j < ids.length then g.β (ρ j) else none) = _
        rw [if_pos hlt, hρg j id hj]
        exact k1
      obtain ⟨q1, q2, q3⟩ := post.gext j b hp
      exact ⟨o, b, rfl, h2, k1, q1, by rw [q2]; show g.mm (ρ j) = _; rw [hρg j id hj], by rw [q3]; show g.o0 (ρ j) = _; rw [hρg j id hj]⟩
  have hB : ∀ j id, nm[j]? = some id → ¬ j < ids.length → σ.obj id = .never := fun j id hj hlt => by
    rw [← hnm, List.getElem?_append_right (by omega)] at hj
    exact hnew id (List.mem_of_getElem? hj)
  have hWr : ∀ b, HWr objs (pullG g ρ ids.length) b → ∃ id o, σ.obj id = .ob o ∧ o.fz = false ∧ g.β id = some b ∧ ∃ j, nm[j]? = some id ∧ j < ids.length := fun b ⟨j, o, hj, hz, hb⟩ => by
    have hlt : j < ids.length := by rw [hlen]; exact (List.getElem?_eq_some_iff.1 hj).1
    obtain ⟨id, hid⟩ : ∃ id, nm[j]? = some id := ⟨nm[j]'(by omega), List.getElem?_eq_getElem _⟩
    obtain ⟨o2, b2, q1, q2, q3, _⟩ := hA j id hid hlt
    rw [hj] at q1
    obtain rfl := Option.some.inj q1
    have hb : (if j < ids.length then g.β (ρ j) else none) = some b := hb
    rw [if_pos hlt, hρg j id hid] at hb
    exact ⟨id, _, q2, hz, hb, j, hid, hlt⟩
  have hFW : ∀ b, g.F b → ¬ HWr objs (pullG g ρ ids.length) b := fun b hF hW => by
    obtain ⟨id, o, q1, q2, q3, _⟩ := hWr b hW
    obtain ⟨⟨b2, cs, T, fr, k1, k2, k3, k4, k5, k6⟩, k7⟩ := h.ob id o q1
    rw [q3] at k1
    obtain rfl := Option.some.inj k1
    exact k6 q2 hF
  have hext : Ext g.F w.heap w'.heap := ⟨fun b cs T fr hb => by
    by_cases hF : g.F b
    · refine ⟨cs, fr, ?_, rfl, fun _ => rfl⟩
      rw [post.base b (Array.getElem?_eq_some_iff.1 hb).1 (hFW b hF)]
      exact hb
    · obtain ⟨cs', fr', h1, h2⟩ := post.kept b cs T fr hb
      exact ⟨cs', fr', h1, h2, fun h => (hF h).elim⟩⟩
  have hβ0 : ∀ id b, g.β id = some b → ∀ j, nm.idxOf? id = some j → j < ids.length := fun id b hb j hj => by
    rcases Nat.lt_or_ge j ids.length with h' | h'
    · exact h'
    · have := h.never id (hB j id (get_idx hj) (by omega))
      rw [this] at hb
      cases hb
  have hg : GExt g (afterG g gc nm ids.length) := ⟨fun id b hb => by
    obtain ⟨h1, h2, h3⟩ := afterG_old (g := g) (gc := gc) (hβ0 id b hb)
    exact ⟨by rw [h1, hb], h3, h2⟩, post.F0⟩
  have hpush : Push gc (afterG g gc nm ids.length) ρ nm.length := ⟨fun j b hj hb => by
    obtain ⟨id, hid⟩ : ∃ id, nm[j]? = some id := ⟨nm[j], List.getElem?_eq_getElem hj⟩
    rw [hρg j id hid]
    by_cases hlt : j < ids.length
    · obtain ⟨h1, h2, h3⟩ := afterG_old (g := g) (gc := gc) (n := ids.length) (nm := nm) (i := id) (fun j' hj' => by rw [idx_get hn hid] at hj'; cases hj'; exact hlt)
      obtain ⟨o, b2, q1, q2, q3, q4, q5, q6⟩ := hA j id hid hlt
      rw [q4] at hb
      obtain rfl := Option.some.inj hb
      exact ⟨by rw [h1, q3], by rw [h3, q5], by rw [h2, q6]⟩
    · obtain ⟨h1, h2, h3⟩ := afterG_new (g := g) (gc := gc) (n := ids.length) (idx_get hn hid) hlt
      exact ⟨by rw [h1, hb], h3, h2⟩, fun _ h => h⟩
  refine ⟨afterG g gc nm ids.length, hg, hext, hpush, ?_⟩
  have hobj : ∀ id, (∃ (j : Nat) (x : OS), nm[j]? = some id ∧ objs'[j]? = some x ∧ (σ.upds (zipH ρ nm objs')).obj id = x.ren ρ) ∨ (nm.idxOf? id = none ∧ (σ.upds (zipH ρ nm objs')).obj id = σ.obj id) := fun id => by
    rw [zipH_obj ρ nm objs' σ id hn hl.symm]
    cases hq : nm.idxOf? id with
    | none => exact .inr ⟨rfl, rfl⟩
    | some j =>
      have hj := get_idx hq
      have hlt : j < objs'.length := by rw [hl]; exact (List.getElem?_eq_some_iff.1 hj).1
      exact .inl ⟨j, objs'[j], hj, List.getElem?_eq_getElem hlt, by simp [List.getElem?_eq_getElem hlt]⟩
  have hobjb : ∀ id o, (σ.upds (zipH ρ nm objs')).obj id = .ob o → (∃ (j : Nat) (p : Ob), nm[j]? = some id ∧ objs'[j]? = some (OS.ob p) ∧ o = p.ren ρ) ∨ (nm.idxOf? id = none ∧ σ.obj id = .ob o) := fun id o ho => by
    rcases hobj id with ⟨j, x, h1, h2, h3⟩ | ⟨h1, h2⟩
    · rw [h3] at ho
      cases x with
      | never => cases ho
      | dead => cases ho
      | ob p => exact .inl ⟨j, p, h1, h2, (OS.ob.inj ho).symm⟩
    · exact .inr ⟨h1, by rw [← h2]; exact ho⟩
  have hout : ∀ id o b, nm.idxOf? id = none → σ.obj id = .ob o → g.β id = some b → ¬ HWr objs (pullG g ρ ids.length) b := fun id o b hid ho hb hW => by
    obtain ⟨id2, o2, q1, q2, q3, j, q4, _⟩ := hWr b hW
    cases hz : o.fz with
    | false =>
      have := h.inj id id2 o o2 b ho q1 hz q2 hb q3
      subst this
      rw [idx_get hn q4] at hid
      cases hid
    | true =>
      obtain ⟨⟨b2, cs, T, fr, k1, k2, k3, k4, k5, k6⟩, k7⟩ := h.ob id o ho
      rw [hb] at k1
      obtain rfl := Option.some.inj k1
      exact hFW b (k5 hz) hW
  have hinL : ∀ j id, nm[j]? = some id → ∀ b, (afterG g gc nm ids.length).β id = some b → gc.β j = some b := fun j id hid b hb => by
    by_cases hlt : j < ids.length
    · obtain ⟨h1, h2, h3⟩ := afterG_old (g := g) (gc := gc) (n := ids.length) (nm := nm) (i := id) (fun j' hj' => by rw [idx_get hn hid] at hj'; cases hj'; exact hlt)
      obtain ⟨o, b2, q1, q2, q3, q4, q5, q6⟩ := hA j id hid hlt
      rw [h1, q3] at hb
      rw [q4, hb]
    · obtain ⟨h1, h2, h3⟩ := afterG_new (g := g) (gc := gc) (n := ids.length) (idx_get hn hid) hlt
      rw [← h1, hb]
  have hold : ∀ id, nm.idxOf? id = none → (afterG g gc nm ids.length).β id = g.β id := fun id hid => (afterG_old (g := g) (gc := gc) (fun j hj => by rw [hid] at hj; cases hj)).1
  refine { slot := fun t => ?_, size := h.size, defers := h.defers, never := ?_, ob := ?_, inj := ?_, own := ?_, base := ?_, hsize := Nat.le_trans h.hsize post.hsize, F0 := fun b hF => post.F0 b (h.F0 b hF), Fold := ?_, Flt := post.Flt, os := by rw [post.os]; exact h.os, tape := by rw [post.tape]; exact h.tape, output := by rw [post.output]; exact h.output, gext := h.gx hg, kept := h.kx hext, tb := h.tb.ext post.F0 hext }
  · rw [zipH_slot]
    exact (h.slot t).ext hg hext
  · intro id hid
    rcases hobj id with ⟨j, x, h1, h2, h3⟩ | ⟨h1, h2⟩
    · have hx := List.all_eq_true.1 hok x (List.mem_of_getElem? h2)
      rw [h3] at hid
      cases x with
      | never => cases hx
      | dead => cases hid
      | ob p => cases hid
    · rw [h2] at hid
      rw [hold id h1]
      exact h.never id hid
  · intro id o ho
    rcases hobjb id o ho with ⟨j, p, h1, h2, rfl⟩ | ⟨h1, h2⟩
    · have hx : ltR nm.length p.rows = true := List.all_eq_true.1 hok _ (List.mem_of_getElem? h2)
      obtain ⟨⟨b, cs, T, fr, k1, k2, k3, k4, k5, k6⟩, k7⟩ := post.ob j p h2
      obtain ⟨q1, q2, q3⟩ := hpush.β j b (List.getElem?_eq_some_iff.1 h1).1 k1
      rw [hρg j id h1] at q1 q2 q3
      exact ⟨⟨b, cs, T, fr, q1, k2, by rw [q3]; exact k3.push hpush hx, k4, k5, k6⟩, by rw [q2]; exact k7⟩
    · obtain ⟨⟨b, cs, T, fr, k1, k2, k3, k4, k5, k6⟩, k7⟩ := h.ob id o h2
      obtain ⟨e1, e2, e3⟩ := hg.β id b k1
      have hnW := hout id o b h1 h2 k1
      have hlt := (Array.getElem?_eq_some_iff.1 k2).1
      refine ⟨⟨b, cs, T, fr, e1, by rw [post.base b hlt hnW]; exact k2, by rw [e3]; exact k3.ext hg hext, k4, fun e => post.F0 b (k5 e), fun e hF => ?_⟩, by rw [e2]; exact k7⟩
      rcases post.Fold b hF hlt with h' | h'
      · exact k6 e h'
      · exact hnW h'
  · intro i j o o' b ho ho' hz hz' hb hb'
    rcases hobjb i o ho with ⟨k, p, h1, h2, rfl⟩ | ⟨h1, h2⟩ <;> rcases hobjb j o' ho' with ⟨k', p', h1', h2', rfl⟩ | ⟨h1', h2'⟩
    · have := post.inj k k' p p' b h2 h2' hz hz' (hinL k i h1 b hb) (hinL k' j h1' b hb')
      subst this
      rw [h1] at h1'
      exact Option.some.inj h1'
    · exfalso
      rw [hold j h1'] at hb'
      obtain ⟨⟨b2, cs, T, fr, k1, k2, _⟩, _⟩ := h.ob j o' h2'
      rw [hb'] at k1
      obtain rfl := Option.some.inj k1
      rcases post.own k p b h2 hz (hinL k i h1 b hb) with h' | h'
      · have := (Array.getElem?_eq_some_iff.1 k2).1
        omega
      · exact hout j o' b h1' h2' hb' h'
    · exfalso
      rw [hold i h1] at hb
      obtain ⟨⟨b2, cs, T, fr, k1, k2, _⟩, _⟩ := h.ob i o h2
      rw [hb] at k1
      obtain rfl := Option.some.inj k1
      rcases post.own k' p' b h2' hz' (hinL k' j h1' b hb') with h' | h'
      · have := (Array.getElem?_eq_some_iff.1 k2).1
        omega
      · exact hout i o b h1 h2 hb h'
    · rw [hold i h1] at hb
      rw [hold j h1'] at hb'
      exact h.inj i j o o' b h2 h2' hz hz' hb hb'
  · intro id o b ho hz hb
    rcases hobjb id o ho with ⟨k, p, h1, h2, rfl⟩ | ⟨h1, h2⟩
    · rcases post.own k p b h2 hz (hinL k id h1 b hb) with h' | h'
      · exact .inl (Nat.le_trans h.hsize h')
      · obtain ⟨id2, o2, q1, q2, q3, _⟩ := hWr b h'
        exact h.own id2 o2 b q1 q2 q3
    · rw [hold id h1] at hb
      exact h.own id o b h2 hz hb
  · intro b hlt hW
    have hnW : ¬ HWr objs (pullG g ρ ids.length) b := fun h' => by
      obtain ⟨id2, o2, q1, q2, q3, _⟩ := hWr b h'
      rcases h.own id2 o2 b q1 q2 q3 with h' | h'
      · omega
      · exact hW h'
    rw [post.base b (Nat.lt_of_lt_of_le hlt h.hsize) hnW]
    exact h.base b hlt hW
  · intro b hF hlt
    rcases post.Fold b hF (Nat.lt_of_lt_of_le hlt h.hsize) with h' | h'
    · exact h.Fold b h' hlt
    · obtain ⟨id2, o2, q1, q2, q3, _⟩ := hWr b h'
      rcases h.own id2 o2 b q1 q2 q3 with h' | h'
      · omega
      · exact .inr h'
theorem upds_append : ∀ (l m : List (Nat × OS)) (s : St), s.upds (l ++ m) = (s.upds l).upds m
  | [], m, s => rfl
  | (i, x) :: l, m, s => upds_append l m (s.upd i x)
theorem step_hcall {P : Program} {o : Oper} {s : St} {fid : FuncId} {fn : Func} {xs : Array Operand} {ts : Array TypeId} (ho : o.op = .call { callee := .value (.func fid), args := xs, argTypes := ts }) (hf : P.funcs[fid]? = some fn) (hname : (fn.name == "runtime.NumGoroutine") = false) (hb : fn.body.isSome = true)
    (fzs : List (Nat × Ob)) (hfz : ∀ x ∈ fzs, s.obj x.1 = .ob x.2) (hnd : (fzs.map (·.1)).Nodup) (ids new : List Nat) (hn : (ids ++ new).Nodup) {objs : List Ob} {objs' : List OS} {args : List SV} {res : SV} {L : List Loc}
    (hin : ids.map (s.upds (frz fzs)).obj = objs.map fun o => .ob (o.ren (nameH (ids ++ new)))) (hnew : ∀ i ∈ new, (s.upds (frz fzs)).obj i = .never) (hlt : (objs.all fun o => ltR ids.length o.rows) = true)
    (hl : objs'.length = (ids ++ new).length) (hok : objs'.all (OS.okH (ids ++ new).length) = true) (hres : res.lt (ids ++ new).length = true)
    (hargs : SolHL (nameH (ids ++ new)) ids.length (s.upds (frz fzs)) (xs.toList.map s.ev) args L) (hc : HCall P fid objs args objs' res) :
    Step P o (locs xs.toList ++ objLocs fzs ++ L ++ (ids ++ new).map .obj) ⟨o.dst, res.ren (nameH (ids ++ new)), frz fzs ++ zipH (nameH (ids ++ new)) (ids ++ new) objs'⟩ s := by
  intro f σ a w K Q hA hd ⟨g, hR⟩ hK
  have hobj : ∀ x ∈ fzs, σ.obj x.1 = .ob x.2 := fun x hx => by
    rw [hA.left.left.right.2 x.1 (List.mem_map.2 ⟨x, hx, rfl⟩)]
    exact hfz x hx
  obtain ⟨g1, hg1, hR1⟩ := hR.freezes fzs hobj hnd
  have hA1 : Agree (L ++ (ids ++ new).map .obj) (s.upds (frz fzs)) (σ.upds (frz fzs)) := by
    refine ⟨fun t ht => ?_, fun i hi => ?_⟩
    · rw [upds_slot, upds_slot]
      rcases List.mem_append.1 ht with ht | ht
      · exact hA.left.right.1 t ht
      · obtain ⟨_, _, h⟩ := List.mem_map.1 ht
        cases h
    · rw [upds_obj, upds_obj]
      rcases List.mem_append.1 hi with hi | hi
      · rw [hA.left.right.2 i hi]
      · rw [hA.right.2 i hi]
  have hrep := repL_ev hR xs.toList
  rw [map_ev_agree hA.left.left.left] at hrep
  have hrep1 := hargs.rep hA1.left hR1 (hrep.ext hg1 (Ext.refl _ _))
  have hob1 : ∀ i ∈ ids ++ new, (σ.upds (frz fzs)).obj i = (s.upds (frz fzs)).obj i := fun i hi => hA1.right.2 i (List.mem_map.2 ⟨i, hi, rfl⟩)
  have hin1 : ids.map (σ.upds (frz fzs)).obj = objs.map fun o => .ob (o.ren (nameH (ids ++ new))) := by
    rw [← hin]
    exact List.map_congr_left fun i hi => hob1 i (List.mem_append_left _ hi)
  have hnew1 : ∀ i ∈ new, (σ.upds (frz fzs)).obj i = .never := fun i hi => by rw [hob1 i (List.mem_append_right _ hi)]; exact hnew i hi
  have hlen : ids.length = objs.length := by have := congrArg List.length hin; simpa using this
  have hget : ∀ i o, objs[i]? = some o → ∃ id, (ids ++ new)[i]? = some id ∧ (σ.upds (frz fzs)).obj id = .ob (o.ren (nameH (ids ++ new))) ∧ i < ids.length := fun i o hi => by
    have hi' := (List.getElem?_eq_some_iff.1 hi).1
    obtain ⟨id, hid⟩ : ∃ id, ids[i]? = some id := ⟨ids[i]'(by omega), List.getElem?_eq_getElem _⟩
    refine ⟨id, by rw [List.getElem?_append_left (by omega)]; exact hid, ?_, by omega⟩
    have h2 := congrArg (fun l => l[i]?) hin1
    simp only [List.getElem?_map, hid, hi, Option.map_some] at h2
    exact Option.some.inj h2
  have hpre : HPre objs (pullG g1 (nameH (ids ++ new)) ids.length) w := by
    refine ⟨hR1.tb, hR1.Flt, fun i o hi => ?_, fun i hi => ?_, fun i j o o' b hi hj hz hz' hb hb' => ?_⟩
    · obtain ⟨id, h1, h2, h3⟩ := hget i o hi
      obtain ⟨⟨b, cs, T, fr, k1, k2, k3, k4, k5, k6⟩, k7⟩ := hR1.ob id _ h2
      have e := nameH_get h1
      refine ⟨⟨b, cs, T, fr, ?_, k2, ?_, k4, k5, k6⟩, ?_⟩
      · show (if i < ids.length then g1.β (nameH (ids ++ new) i) else none) = _
        rw [if_pos h3, e]
        exact k1
      · show RepR _ _ (cs.toList.drop (g1.o0 (nameH (ids ++ new) i))) _ _
        rw [e]
        exact RepR.pull (pull_pullG g1 (nameH (ids ++ new)) ids.length) k3 (List.all_eq_true.1 hlt o (List.mem_of_getElem? hi))
      · show g1.mm (nameH (ids ++ new) i) = _
        rw [e]
        exact k7
    · show (if i < ids.length then _ else none) = none
      rw [if_neg (by omega)]
    · obtain ⟨id, h1, h2, h3⟩ := hget i o hi
      obtain ⟨id', h1', h2', h3'⟩ := hget j o' hj
      have hb : (if i < ids.length then g1.β (nameH (ids ++ new) i) else none) = some b := hb
      have hb' : (if j < ids.length then g1.β (nameH (ids ++ new) j) else none) = some b := hb'
      rw [if_pos h3, nameH_get h1] at hb
      rw [if_pos h3', nameH_get h1'] at hb'
      have := hR1.inj id id' _ _ b h2 h2' hz hz' hb hb'
      subst this
      have e1 := idx_get hn h1
      rw [idx_get hn h1'] at e1
      exact (Option.some.inj e1).symm
  have hcall := hc _ w _ hpre hrep1
  unfold Oper.wp
  rw [run_call ho hf hname hb, Oper.upon_enter]
  have harr : (xs.map a.eval) = (xs.toList.map a.eval).toArray := by
    apply Array.ext'
    simp
  rw [harr]
  refine hcall.mono fun e w' he => ?_
  obtain ⟨v, gc, rfl, hv, post⟩ := he
  obtain ⟨g2, hg2, hext2, hpush, hR2⟩ := hR1.afterH hn hin1 hnew1 hl hok post
  refine hK _ _ ⟨g2, ?_⟩
  have hput := Rel.put hR2 o.dst hd (hv.push hpush hres)
  unfold St.app
  rw [upds_append]
  exact hput
end Go.Proofs.YtcbbpidnocgoiaaDoor.Eng

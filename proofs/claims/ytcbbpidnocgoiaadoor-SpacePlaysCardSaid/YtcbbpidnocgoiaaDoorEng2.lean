/- A told state and the machine's: what holds between them, and what becomes of it. -/
import Derived.Test.YtcbbpidnocgoiaaDoorEng1
import Derived.Deep.MidRow
import Derived.Deep.AppendSrc
import Derived.Laws.MakeOwn
namespace Go.Proofs.YtcbbpidnocgoiaaDoor.Eng
open Go Go.RowKit
set_option linter.unusedVariables false
set_option linter.unusedSimpArgs false

/-- What a call began with: the world, the blocks that it may write, those that nobody ever writes again, how many slots, where things lay. -/
structure Fr where
  w0 : World
  Wr : Nat → Prop
  F0 : Nat → Prop
  N : Nat
  g0 : Gh

def TabsOk (F : Nat → Prop) (w : World) : Prop := ∀ p ∈ tabs, F p.1 ∧ ∃ (cs : Array Value) (T : TypeId) (fr : Nat × Nat), w.heap[p.1]? = some (Go.Obj.cells cs T fr) ∧ ∀ (k : Nat) (v : Value), p.2[k]? = some v → cs[k]? = some v
structure ObRep (g : Gh) (H : Array Go.Obj) (id : Nat) (o : Ob) : Prop where
  ex : ∃ b cs T fr, g.β id = some b ∧ H[b]? = some (.cells cs T fr) ∧ RepR g H (cs.toList.drop (g.o0 id)) o.m o.rows ∧ (∀ i, i < cs.size → ¬ (fr.1 ≤ i ∧ i < fr.2)) ∧ (o.fz = true → g.F b) ∧ (o.fz = false → ¬ g.F b)
  mm : g.mm id = o.m

structure Rel (f : Fr) (g : Gh) (s : St) (a : Act) (w : World) : Prop where
  slot : ∀ t, Rep g w.heap (a.tmps.getD t undef) (s.slot t)
  size : a.tmps.size = f.N
  defers : a.defers = []
  never : ∀ id, s.obj id = .never → g.β id = none
  ob : ∀ id o, s.obj id = .ob o → ObRep g w.heap id o
  inj : ∀ id id' o o' b, s.obj id = .ob o → s.obj id' = .ob o' → o.fz = false → o'.fz = false → g.β id = some b → g.β id' = some b → id = id'
  own : ∀ id o b, s.obj id = .ob o → o.fz = false → g.β id = some b → f.w0.heap.size ≤ b ∨ f.Wr b
  base : ∀ b, b < f.w0.heap.size → ¬ f.Wr b → w.heap[b]? = f.w0.heap[b]?
  hsize : f.w0.heap.size ≤ w.heap.size
  F0 : ∀ b, f.F0 b → g.F b
  Fold : ∀ b, g.F b → b < f.w0.heap.size → f.F0 b ∨ f.Wr b
  Flt : ∀ b, g.F b → b < w.heap.size
  os : w.os = f.w0.os
  tape : w.tape = f.w0.tape
  output : w.output = f.w0.output
  gext : ∀ id b, f.g0.β id = some b → g.β id = some b ∧ g.mm id = f.g0.mm id ∧ g.o0 id = f.g0.o0 id
  kept : ∀ (b : Nat) (cs : Array Value) (T : TypeId) (fr : Nat × Nat), f.w0.heap[b]? = some (Go.Obj.cells cs T fr) → ∃ (cs' : Array Value) (fr' : Nat × Nat), w.heap[b]? = some (Go.Obj.cells cs' T fr') ∧ cs'.size = cs.size
  tb : TabsOk g.F w
theorem TabsOk.ext {F F' : Nat → Prop} {w w' : World} (h : TabsOk F w) (hF : ∀ b, F b → F' b) (hH : Ext F w.heap w'.heap) : TabsOk F' w' := fun p hp => by
  obtain ⟨h1, cs, T, fr, h2, h5⟩ := h p hp
  obtain ⟨cs', fr', h3, _, h4⟩ := hH.cells _ _ _ _ h2
  obtain rfl := h4 h1
  exact ⟨hF _ h1, _, T, fr', h3, h5⟩
theorem Rel.gx {f : Fr} {g g' : Gh} {s : St} {a : Act} {w : World} (h : Rel f g s a w) (hg : GExt g g') : ∀ id b, f.g0.β id = some b → g'.β id = some b ∧ g'.mm id = f.g0.mm id ∧ g'.o0 id = f.g0.o0 id := fun id b hb => by
  obtain ⟨h1, h2, h3⟩ := h.gext id b hb
  obtain ⟨k1, k2, k3⟩ := hg.β id b h1
  exact ⟨k1, by rw [k2, h2], by rw [k3, h3]⟩
theorem Rel.kx {f : Fr} {g : Gh} {s : St} {a : Act} {w w' : World} {F : Nat → Prop} (h : Rel f g s a w) (hH : Ext F w.heap w'.heap) : ∀ (b : Nat) (cs : Array Value) (T : TypeId) (fr : Nat × Nat), f.w0.heap[b]? = some (Go.Obj.cells cs T fr) → ∃ (cs' : Array Value) (fr' : Nat × Nat), w'.heap[b]? = some (Go.Obj.cells cs' T fr') ∧ cs'.size = cs.size := fun b cs T fr hb => by
  obtain ⟨cs1, fr1, h1, h2⟩ := h.kept b cs T fr hb
  obtain ⟨cs2, fr2, k1, k2, _⟩ := hH.cells b cs1 T fr1 h1
  exact ⟨cs2, fr2, k1, by rw [k2, h2]⟩

/-- As `Rel`, wherever things lie. -/
def R (f : Fr) (s : St) (a : Act) (w : World) : Prop := ∃ g, Rel f g s a w

theorem GExt.refl (g : Gh) : GExt g g := ⟨fun _ _ h => ⟨h, rfl, rfl⟩, fun _ h => h⟩
theorem Ext.refl (F : Nat → Prop) (H : Array Go.Obj) : Ext F H H := ⟨fun b cs T fr h => ⟨cs, fr, h, rfl, fun _ => rfl⟩⟩
theorem Ext.push (F : Nat → Prop) (H : Array Go.Obj) (o : Go.Obj) : Ext F H (H.push o) := ⟨fun b cs T fr h => by
  refine ⟨cs, fr, ?_, rfl, fun _ => rfl⟩
  have hlt : b < H.size := (Array.getElem?_eq_some_iff.1 h).1
  rw [Array.getElem?_push, if_neg (by omega)]
  exact h⟩

/-- One slot is written. -/
def St.put (s : St) (d : Option Nat) (x : SV) : St := { s with slot := fun t => if d = some t then x else s.slot t }
def St.upd (s : St) (id : Nat) (x : OS) : St := { s with obj := fun i => if i = id then x else s.obj i }

theorem getD_put (a : Act) (d : Option Nat) (x : Value) (t : Nat) (ht : ∀ k, d = some k → k < a.tmps.size) : (a.put d x).tmps.getD t undef = if d = some t then x else a.tmps.getD t undef := by
  cases d with
  | none => rw [if_neg (by simp)]; rfl
  | some d =>
    by_cases h : d = t
    · subst h
      rw [if_pos rfl]
      have := ht d rfl
      simp [Act.put, Array.getD_eq_getD_getElem?, this]
    · rw [if_neg (by simpa using h)]
      simp [Act.put, Array.getD_eq_getD_getElem?, Array.getElem?_setIfInBounds_ne h]
theorem size_put (a : Act) (d : Option Nat) (x : Value) : (a.put d x).tmps.size = a.tmps.size := by cases d <;> simp [Act.put]
theorem defers_put (a : Act) (d : Option Nat) (x : Value) : (a.put d x).defers = a.defers := by cases d <;> rfl

theorem Rel.put {f : Fr} {g : Gh} {s : St} {a : Act} {w : World} (h : Rel f g s a w) (d : Option Nat) (hd : ∀ k, d = some k → k < f.N) {x : Value} {sv : SV} (hx : Rep g w.heap x sv) : Rel f g (s.put d sv) (a.put d x) w :=
  { h with
    slot := fun t => by
      rw [getD_put a d x t (by rw [h.size]; exact hd)]
      show Rep _ _ _ (if d = some t then sv else s.slot t)
      by_cases e : d = some t
      · rw [if_pos e, if_pos e]; exact hx
      · rw [if_neg e, if_neg e]; exact h.slot t
    size := by rw [size_put]; exact h.size
    defers := by rw [defers_put]; exact h.defers }
/-- A draw. -/
theorem Rel.drew {f : Fr} {g : Gh} {s : St} {a : Act} {w w' : World} (h : Rel f g s a w) (h1 : w'.heap = w.heap) (h2 : w'.os = w.os) (h3 : w'.tape = w.tape) (h4 : w'.output = w.output) : Rel f g s a w' :=
  { h with
    slot := by rw [h1]; exact h.slot
    ob := by rw [h1]; exact h.ob
    base := by rw [h1]; exact h.base
    hsize := by rw [h1]; exact h.hsize
    Flt := by rw [h1]; exact h.Flt
    kept := by rw [h1]; exact h.kept
    tb := fun p hp => by rw [h1]; exact h.tb p hp
    os := by rw [h2]; exact h.os
    tape := by rw [h3]; exact h.tape
    output := by rw [h4]; exact h.output }

theorem ObRep.ext {g g' : Gh} {H H' : Array Go.Obj} {id : Nat} {o : Ob} (hg : GExt g g') (hF : ∀ b, g'.F b → b < H.size → g.F b ∨ False) (hH : Ext g.F H H') (hcs : ∀ b cs T fr, g.β id = some b → H[b]? = some (.cells cs T fr) → H'[b]? = some (.cells cs T fr)) (h : ObRep g H id o) : ObRep g' H' id o := by
  obtain ⟨⟨b, cs, T, fr, h1, h2, h3, h4, h5, h6⟩, h7⟩ := h
  obtain ⟨k1, k2, k3⟩ := hg.β _ _ h1
  refine ⟨⟨b, cs, T, fr, k1, hcs _ _ _ _ h1 h2, by rw [k3]; exact h3.ext hg hH, h4, fun e => hg.F _ (h5 e), fun e hb => ?_⟩, by rw [k2, h7]⟩
  rcases hF b hb (Array.getElem?_eq_some_iff.1 h2).1 with h | h
  · exact h6 e h
  · exact h

/-- A new block, of which an object is told. -/
theorem Rel.new {f : Fr} {g : Gh} {s : St} {a : Act} {w : World} (h : Rel f g s a w) (id : Nat) (hid : s.obj id = .never) (cs : Array Value) (T : TypeId) (fr : Nat × Nat) (m : Nat) (rows : List (List SV))
    (hr : RepR g w.heap cs.toList m rows) (hfr : ∀ i, i < cs.size → ¬ (fr.1 ≤ i ∧ i < fr.2)) :
    Rel f { g with β := fun i => if i = id then some w.heap.size else g.β i, o0 := fun i => if i = id then 0 else g.o0 i, mm := fun i => if i = id then m else g.mm i } (s.upd id (.ob ⟨m, rows, false⟩)) a (w.alloc (.cells cs T fr)) := by
  have hn := h.never id hid
  have hne : ∀ i b, g.β i = some b → i ≠ id := fun i b hb e => by rw [e, hn] at hb; cases hb
  have hg : GExt g { g with β := fun i => if i = id then some w.heap.size else g.β i, o0 := fun i => if i = id then 0 else g.o0 i, mm := fun i => if i = id then m else g.mm i } :=
    ⟨fun i b hb => ⟨by show (if i = id then _ else _) = _; rw [if_neg (hne i b hb)]; exact hb, by show (if i = id then _ else _) = _; rw [if_neg (hne i b hb)], by show (if i = id then _ else _) = _; rw [if_neg (hne i b hb)]⟩, fun _ h => h⟩
  have hH : Ext g.F w.heap (w.alloc (.cells cs T fr)).heap := Ext.push _ _ _
  have hold : ∀ (b : Nat) (o : Go.Obj), w.heap[b]? = some o → (w.alloc (.cells cs T fr)).heap[b]? = some o := fun b o hb => by
    have hlt : b < w.heap.size := (Array.getElem?_eq_some_iff.1 hb).1
    show (w.heap.push _)[b]? = _
    rw [Array.getElem?_push, if_neg (by omega)]
    exact hb
  have hnew : (w.alloc (.cells cs T fr)).heap[w.heap.size]? = some (.cells cs T fr) := by
    show (w.heap.push _)[w.heap.size]? = _
    rw [Array.getElem?_push, if_pos rfl]
  have hsz : (w.alloc (.cells cs T fr)).heap.size = w.heap.size + 1 := Array.size_push ..
  have hobj : ∀ i o, (s.upd id (.ob ⟨m, rows, false⟩)).obj i = .ob o → (i = id ∧ o = ⟨m, rows, false⟩) ∨ (i ≠ id ∧ s.obj i = .ob o) := fun i o ho => by
    by_cases e : i = id
    · refine .inl ⟨e, ?_⟩
      have : (s.upd id (.ob ⟨m, rows, false⟩)).obj i = .ob ⟨m, rows, false⟩ := by show (if i = id then _ else _) = _; rw [if_pos e]
      rw [this] at ho
      exact (OS.ob.inj ho).symm
    · refine .inr ⟨e, ?_⟩
      have : (s.upd id (.ob ⟨m, rows, false⟩)).obj i = s.obj i := by show (if i = id then _ else _) = _; rw [if_neg e]
      rw [this] at ho
      exact ho
  refine { slot := fun t => (h.slot t).ext hg hH, size := h.size, defers := h.defers, never := ?_, ob := ?_, inj := ?_, own := ?_, base := ?_, hsize := ?_, F0 := h.F0, Fold := h.Fold, Flt := ?_, os := h.os, tape := h.tape, output := h.output, gext := h.gx hg, kept := h.kx hH, tb := h.tb.ext hg.F hH }
  · intro i hi
    by_cases e : i = id
    · have : (s.upd id (.ob ⟨m, rows, false⟩)).obj i = .ob ⟨m, rows, false⟩ := by show (if i = id then _ else _) = _; rw [if_pos e]
      rw [this] at hi
      cases hi
    · have : (s.upd id (.ob ⟨m, rows, false⟩)).obj i = s.obj i := by show (if i = id then _ else _) = _; rw [if_neg e]
      rw [this] at hi
      show (if i = id then _ else _) = _
      rw [if_neg e]
      exact h.never i hi
  · intro i o ho
    rcases hobj i o ho with ⟨rfl, rfl⟩ | ⟨e, ho⟩
    · refine ⟨⟨w.heap.size, cs, T, fr, by show (if i = i then _ else _) = _; rw [if_pos rfl], hnew, by show RepR _ _ (cs.toList.drop (if i = i then 0 else g.o0 i)) _ _; rw [if_pos rfl, List.drop_zero]; exact hr.ext hg hH, hfr, fun e => (by cases e), fun _ hF => ?_⟩, by show (if i = i then _ else _) = _; rw [if_pos rfl]⟩
      have := h.Flt _ hF
      omega
    · exact ObRep.ext hg (fun b hb _ => .inl hb) hH (fun b cs T fr _ hb => hold _ _ hb) (h.ob i o ho)
  · intro i j o o' b ho ho' hz hz' hb hb'
    have key : ∀ i o, s.obj i = .ob o → g.β i ≠ some w.heap.size := fun i o ho hb => by
      obtain ⟨⟨b, cs, T, fr, h1, h2, _⟩, _⟩ := h.ob i o ho
      rw [h1] at hb
      have hlt := (Array.getElem?_eq_some_iff.1 h2).1
      have := Option.some.inj hb
      omega
    have hb : (if i = id then some w.heap.size else g.β i) = some b := hb
    have hb' : (if j = id then some w.heap.size else g.β j) = some b := hb'
    rcases hobj i o ho with ⟨rfl, rfl⟩ | ⟨e, ho1⟩ <;> rcases hobj j o' ho' with ⟨rfl, rfl⟩ | ⟨e', ho1'⟩
    · rfl
    · rw [if_pos rfl] at hb
      rw [if_neg e'] at hb'
      exact (key j o' ho1' (by rw [hb', hb])).elim
    · rw [if_pos rfl] at hb'
      rw [if_neg e] at hb
      exact (key i o ho1 (by rw [hb, hb'])).elim
    · rw [if_neg e] at hb
      rw [if_neg e'] at hb'
      exact h.inj i j o o' b ho1 ho1' hz hz' hb hb'
  · intro i o b ho hz hb
    have hb : (if i = id then some w.heap.size else g.β i) = some b := hb
    rcases hobj i o ho with ⟨rfl, rfl⟩ | ⟨e, ho⟩
    · rw [if_pos rfl] at hb
      have := Option.some.inj hb
      have := h.hsize
      exact .inl (by omega)
    · rw [if_neg e] at hb
      exact h.own i o b ho hz hb
  · intro b hb hW
    have := h.hsize
    show (w.heap.push _)[b]? = _
    rw [Array.getElem?_push, if_neg (by omega)]
    exact h.base b hb hW
  · have := h.hsize
    omega
  · intro b hb
    have := h.Flt b hb
    omega

/-- An object is dropped. -/
theorem Rel.kill {f : Fr} {g : Gh} {s : St} {a : Act} {w : World} (h : Rel f g s a w) (id : Nat) : Rel f g (s.upd id .dead) a w := by
  have hobj : ∀ i o, (s.upd id .dead).obj i = .ob o → s.obj i = .ob o := fun i o ho => by
    have ho : (if i = id then OS.dead else s.obj i) = .ob o := ho
    by_cases e : i = id
    · rw [if_pos e] at ho; cases ho
    · rw [if_neg e] at ho; exact ho
  exact { h with
    never := fun i hi => by
      have hi : (if i = id then OS.dead else s.obj i) = .never := hi
      by_cases e : i = id
      · rw [if_pos e] at hi; cases hi
      · rw [if_neg e] at hi; exact h.never i hi
    ob := fun i o ho => h.ob i o (hobj i o ho)
    inj := fun i j o o' b ho ho' => h.inj i j o o' b (hobj i o ho) (hobj j o' ho')
    own := fun i o b ho => h.own i o b (hobj i o ho) }

/-- Memory where an object lies is written: what it holds then. -/
theorem Rel.turn {f : Fr} {g : Gh} {s : St} {a : Act} {w w' : World} (h : Rel f g s a w) {id : Nat} {o : Ob} (ho : s.obj id = .ob o) (hz : o.fz = false) {b : Nat} (hb : g.β id = some b)
    {cs cs' : Array Value} {T : TypeId} {fr : Nat × Nat} (hH : w.heap[b]? = some (.cells cs T fr)) (hH' : w'.heap[b]? = some (.cells cs' T fr)) (hsz : cs'.size = cs.size)
    (hoth : ∀ k, k ≠ b → w'.heap[k]? = w.heap[k]?) (hs : w'.heap.size = w.heap.size) (h1 : w'.os = w.os) (h2 : w'.tape = w.tape) (h3 : w'.output = w.output) (rows : List (List SV))
    (hr : RepR g w.heap (cs'.toList.drop (g.o0 id)) o.m rows) : Rel f g (s.upd id (.ob ⟨o.m, rows, false⟩)) a w' := by
  obtain ⟨⟨b0, cs0, T0, fr0, k1, k2, k3, k4, k5, k6⟩, k7⟩ := h.ob id o ho
  rw [hb] at k1
  obtain rfl := Option.some.inj k1
  rw [hH] at k2
  obtain ⟨rfl, rfl, rfl⟩ := Go.Obj.cells.inj (Option.some.inj k2)
  have hext : Ext g.F w.heap w'.heap := ⟨fun k c U q hk => by
    by_cases e : k = b
    · subst e
      rw [hH] at hk
      obtain ⟨rfl, rfl, rfl⟩ := Go.Obj.cells.inj (Option.some.inj hk)
      exact ⟨cs', fr, hH', hsz, fun hF => (k6 hz hF).elim⟩
    · exact ⟨c, q, by rw [hoth k e]; exact hk, rfl, fun _ => rfl⟩⟩
  have hobj : ∀ i p, (s.upd id (.ob ⟨o.m, rows, false⟩)).obj i = .ob p → (i = id ∧ p = ⟨o.m, rows, false⟩) ∨ (i ≠ id ∧ s.obj i = .ob p) := fun i p hp => by
    have hp : (if i = id then OS.ob ⟨o.m, rows, false⟩ else s.obj i) = .ob p := hp
    by_cases e : i = id
    · rw [if_pos e] at hp; exact .inl ⟨e, (OS.ob.inj hp).symm⟩
    · rw [if_neg e] at hp; exact .inr ⟨e, hp⟩
  have hold : ∀ i p, (s.upd id (.ob ⟨o.m, rows, false⟩)).obj i = .ob p → ∃ q, s.obj i = .ob q ∧ q.fz = p.fz := fun i p hp => by
    rcases hobj i p hp with ⟨rfl, rfl⟩ | ⟨e, hp⟩
    · exact ⟨o, ho, hz⟩
    · exact ⟨p, hp, rfl⟩
  refine { slot := fun t => (h.slot t).ext (GExt.refl g) hext, size := h.size, defers := h.defers, never := ?_, ob := ?_, inj := ?_, own := ?_, base := ?_, hsize := by rw [hs]; exact h.hsize, F0 := h.F0, Fold := h.Fold, Flt := by rw [hs]; exact h.Flt, os := by rw [h1]; exact h.os, tape := by rw [h2]; exact h.tape, output := by rw [h3]; exact h.output, gext := h.gext, kept := h.kx hext, tb := h.tb.ext (fun _ h => h) hext }
  · intro i hi
    have hi : (if i = id then OS.ob ⟨o.m, rows, false⟩ else s.obj i) = .never := hi
    by_cases e : i = id
    · rw [if_pos e] at hi; cases hi
    · rw [if_neg e] at hi; exact h.never i hi
  · intro i p hp
    rcases hobj i p hp with ⟨rfl, rfl⟩ | ⟨e, hp⟩
    · exact ⟨⟨b, cs', T, fr, hb, hH', hr.ext (GExt.refl g) hext, by rw [hsz]; exact k4, fun e => (by cases e), fun _ => k6 hz⟩, k7⟩
    · refine ObRep.ext (GExt.refl g) (fun b hb _ => .inl hb) hext (fun k c U q hk hq => ?_) (h.ob i p hp)
      have hkb : k ≠ b := by
        rintro rfl
        cases hpz : p.fz with
        | false => exact e (h.inj i id p o _ hp ho hpz hz hk hb)
        | true =>
          obtain ⟨⟨b1, _, _, _, q1, _, _, _, q5, _⟩, _⟩ := h.ob i p hp
          rw [hk] at q1
          obtain rfl := Option.some.inj q1
          exact k6 hz (q5 hpz)
      rw [hoth k hkb]
      exact hq
  · intro i j p p' k hp hp' hz1 hz2 hk hk'
    obtain ⟨q, hq, e1⟩ := hold i p hp
    obtain ⟨q', hq', e2⟩ := hold j p' hp'
    exact h.inj i j q q' k hq hq' (by rw [e1, hz1]) (by rw [e2, hz2]) hk hk'
  · intro i p k hp hz1 hk
    obtain ⟨q, hq, e1⟩ := hold i p hp
    exact h.own i q k hq (by rw [e1, hz1]) hk
  · intro k hk hW
    have : k ≠ b := by
      rintro rfl
      rcases h.own id o _ ho hz hb with h | h
      · omega
      · exact hW h
    rw [hoth k this]
    exact h.base k hk hW

/-- An object is never written again. -/
theorem Rel.freeze {f : Fr} {g : Gh} {s : St} {a : Act} {w : World} (h : Rel f g s a w) (id : Nat) (o : Ob) (ho : s.obj id = .ob o) :
    ∃ g', GExt g g' ∧ Rel f g' (s.upd id (.ob ⟨o.m, o.rows, true⟩)) a w := by
  cases hz : o.fz with
  | true =>
    refine ⟨g, GExt.refl g, ?_⟩
    have : s.upd id (.ob ⟨o.m, o.rows, true⟩) = s := by
      cases s with
      | mk sl ob =>
        unfold St.upd
        congr
        funext i
        by_cases e : i = id
        · subst e
          rw [if_pos rfl]
          have ho : ob i = .ob o := ho
          rw [ho, ← hz]
        · rw [if_neg e]
    rw [this]
    exact h
  | false =>
    obtain ⟨⟨b, cs, T, fr, k1, k2, k3, k4, k5, k6⟩, k7⟩ := h.ob id o ho
    have hg : GExt g { g with F := fun k => g.F k ∨ k = b } := ⟨fun _ _ h => ⟨h, rfl, rfl⟩, fun _ h => .inl h⟩
    have hobj : ∀ i p, (s.upd id (.ob ⟨o.m, o.rows, true⟩)).obj i = .ob p → (i = id ∧ p = ⟨o.m, o.rows, true⟩) ∨ (i ≠ id ∧ s.obj i = .ob p) := fun i p hp => by
      have hp : (if i = id then OS.ob ⟨o.m, o.rows, true⟩ else s.obj i) = .ob p := hp
      by_cases e : i = id
      · rw [if_pos e] at hp; exact .inl ⟨e, (OS.ob.inj hp).symm⟩
      · rw [if_neg e] at hp; exact .inr ⟨e, hp⟩
    have hoth : ∀ i p, i ≠ id → s.obj i = .ob p → p.fz = false → g.β i ≠ some b := fun i p e hp hpz hb => e (h.inj i id p o b hp ho hpz hz hb k1)
    refine ⟨_, hg, { slot := fun t => (h.slot t).ext hg (Ext.refl _ _), size := h.size, defers := h.defers, never := ?_, ob := ?_, inj := ?_, own := ?_, base := h.base, hsize := h.hsize, F0 := fun k hk => .inl (h.F0 k hk), Fold := ?_, Flt := ?_, os := h.os, tape := h.tape, output := h.output, gext := h.gext, kept := h.kept, tb := h.tb.ext hg.F (Ext.refl _ _) }⟩
    · intro i hi
      have hi : (if i = id then OS.ob ⟨o.m, o.rows, true⟩ else s.obj i) = .never := hi
      by_cases e : i = id
      · rw [if_pos e] at hi; cases hi
      · rw [if_neg e] at hi; exact h.never i hi
    · intro i p hp
      rcases hobj i p hp with ⟨rfl, rfl⟩ | ⟨e, hp⟩
      · exact ⟨⟨b, cs, T, fr, k1, k2, k3.ext hg (Ext.refl _ _), k4, fun _ => .inr rfl, fun e => (by cases e)⟩, k7⟩
      · obtain ⟨⟨b1, c1, T1, f1, q1, q2, q3, q4, q5, q6⟩, q7⟩ := h.ob i p hp
        refine ⟨⟨b1, c1, T1, f1, q1, q2, q3.ext hg (Ext.refl _ _), q4, fun e => .inl (q5 e), fun hpz hF => ?_⟩, q7⟩
        rcases hF with hF | rfl
        · exact q6 hpz hF
        · exact hoth i p e hp hpz q1
    · intro i j p p' k hp hp' hz1 hz2 hk hk'
      rcases hobj i p hp with ⟨rfl, rfl⟩ | ⟨e, hp⟩
      · cases hz1
      · rcases hobj j p' hp' with ⟨rfl, rfl⟩ | ⟨e', hp'⟩
        · cases hz2
        · exact h.inj i j p p' k hp hp' hz1 hz2 hk hk'
    · intro i p k hp hz1 hk
      rcases hobj i p hp with ⟨rfl, rfl⟩ | ⟨e, hp⟩
      · cases hz1
      · exact h.own i p k hp hz1 hk
    · intro k hk hlt
      rcases hk with hk | rfl
      · exact h.Fold k hk hlt
      · rcases h.own id o k ho hz k1 with h' | h'
        · omega
        · exact .inr h'
    · intro k hk
      rcases hk with hk | rfl
      · exact h.Flt k hk
      · exact (Array.getElem?_eq_some_iff.1 k2).1
end Go.Proofs.YtcbbpidnocgoiaaDoor.Eng

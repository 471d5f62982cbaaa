/- Texts of this claim, put together: part 1. -/
import Derived.Below
import Derived.Orders
import Derived.Deep.MidRow
import Derived.Deep.AppendSrc
import Derived.Laws.MakeOwn
/- States that are told by lists and numbers, and how the machine's memory holds them. -/
namespace Go.Proofs.YtmcflglkfgnbbaaDoor.Eng
open Go Go.RowKit
set_option linter.unusedVariables false
set_option linter.unusedSimpArgs false

/-- Blocks that hold a table that nobody ever writes. -/
def tab0 : Array Value := #[.int .u8 0, .int .u8 1, .int .u8 56, .int .u8 2, .int .u8 57, .int .u8 49, .int .u8 28, .int .u8 3, .int .u8 61, .int .u8 58, .int .u8 42, .int .u8 50, .int .u8 38, .int .u8 29, .int .u8 17, .int .u8 4, .int .u8 62, .int .u8 47, .int .u8 59, .int .u8 36, .int .u8 45, .int .u8 43, .int .u8 51, .int .u8 22, .int .u8 53, .int .u8 39, .int .u8 33, .int .u8 30, .int .u8 24, .int .u8 18, .int .u8 12, .int .u8 5, .int .u8 63, .int .u8 55, .int .u8 48, .int .u8 27, .int .u8 60, .int .u8 41, .int .u8 37, .int .u8 16, .int .u8 46, .int .u8 35, .int .u8 44, .int .u8 21, .int .u8 52, .int .u8 32, .int .u8 23, .int .u8 11, .int .u8 54, .int .u8 26, .int .u8 40, .int .u8 15, .int .u8 34, .int .u8 20, .int .u8 31, .int .u8 10, .int .u8 25, .int .u8 14, .int .u8 19, .int .u8 9, .int .u8 13, .int .u8 8, .int .u8 7, .int .u8 6]
def tabs : List (Nat × Array Value) := [(0, tab0)]
/-- What a slot, or a cell, is told to hold. -/
inductive SV where
  | v (x : Value)
  | ref (id i j : Nat)
  | own (id lo len : Nat)
  | lst (m : Nat) (rows : List (List SV))
  | agg (cells : List SV)
  | tup (vs : List SV)
  | elt (cells : List SV) (j : Nat)
  | mp (id : Nat)
  | fn (f : FuncId) (vs : List SV)
instance : Inhabited SV := ⟨.v (.tuple #[])⟩

/-- A row of cells, or a variable: its element's cells, what it holds, whether it is never written again. -/
structure Ob where
  m : Nat
  rows : List (List SV)
  fz : Bool
inductive OS where
  | never
  | dead
  | ob (o : Ob)
instance : Inhabited OS := ⟨.never⟩
structure St where
  slot : Nat → SV
  obj : Nat → OS

/-- Where things lie: the block of each object, from which cell on, how many cells its element has, which blocks are never written again. -/
structure Gh where
  β : Nat → Option Nat
  o0 : Nat → Nat
  mm : Nat → Nat
  F : Nat → Prop

mutual
inductive Rep (g : Gh) (H : Array Go.Obj) : Value → SV → Prop where
  | v (x : Value) : Rep g H x (.v x)
  | ref {id i j b : Nat} {cs : Array Value} {T : TypeId} {fr : Nat × Nat} (hb : g.β id = some b) (hH : H[b]? = some (.cells cs T fr)) : Rep g H (.pointer (some ⟨b, g.o0 id + (i * g.mm id + j), none⟩)) (.ref id i j)
  | own {id lo len cap b : Nat} {cs : Array Value} {T : TypeId} {fr : Nat × Nat} (hb : g.β id = some b) (hl : len ≤ cap) (hH : H[b]? = some (.cells cs T fr)) (hc : g.o0 id + (lo + cap) * g.mm id ≤ cs.size) :
      Rep g H (.slice (some ⟨b, g.o0 id + lo * g.mm id, none⟩) len cap) (.own id lo len)
  | nil {m c : Nat} {A : Option Addr} : Rep g H (.slice A 0 c) (.lst m [])
  | lst {m b off n cap : Nat} {rows : List (List SV)} {cs : Array Value} {T : TypeId} {fr : Nat × Nat} (hn : n = rows.length) (hF : g.F b) (hH : H[b]? = some (.cells cs T fr)) (hl : n ≤ cap)
      (hc : off + cap * m ≤ cs.size) (hr : RepR g H (cs.toList.drop off) m rows) : Rep g H (.slice (some ⟨b, off, none⟩) n cap) (.lst m rows)
  | agg {vs : Array Value} {ss : List SV} (h : RepL g H vs.toList ss) : Rep g H (.agg vs) (.agg ss)
  | tup {vs : Array Value} {ss : List SV} (h : RepL g H vs.toList ss) : Rep g H (.tuple vs) (.tup ss)
  | elt {b off j : Nat} {cells : List SV} {cs : Array Value} {T : TypeId} {fr : Nat × Nat} (hF : g.F b) (hH : H[b]? = some (.cells cs T fr)) (hj : off + cells.length ≤ cs.size)
      (hr : RepL g H ((cs.toList.drop off).take cells.length) cells) : Rep g H (.pointer (some ⟨b, off + j, none⟩)) (.elt cells j)
  | mp {id b : Nat} (hb : g.β id = some b) (hm : g.mm id = 0) : Rep g H (.map (some b)) (.mp id)
  | fn {f : FuncId} {vs : Array Value} {ss : List SV} (h : RepL g H vs.toList ss) : Rep g H (.func (.func f) #[] vs) (.fn f ss)
inductive RepL (g : Gh) (H : Array Go.Obj) : List Value → List SV → Prop where
  | nil : RepL g H [] []
  | cons {x : Value} {s : SV} {xs : List Value} {ss : List SV} (h : Rep g H x s) (t : RepL g H xs ss) : RepL g H (x :: xs) (s :: ss)
inductive RepR (g : Gh) (H : Array Go.Obj) : List Value → Nat → List (List SV) → Prop where
  | nil {xs : List Value} {m : Nat} : RepR g H xs m []
  | cons {xs ys : List Value} {m : Nat} {r : List SV} {rows : List (List SV)} (hm : xs.length = m) (h : RepL g H xs r) (t : RepR g H ys m rows) : RepR g H (xs ++ ys) m (r :: rows)
end

/-- What may become of memory: nothing goes, no block changes its length, what is never written again stays. -/
structure Ext (F : Nat → Prop) (H H' : Array Go.Obj) : Prop where
  cells : ∀ b cs T fr, H[b]? = some (.cells cs T fr) → ∃ cs' fr', H'[b]? = some (.cells cs' T fr') ∧ cs'.size = cs.size ∧ (F b → cs' = cs)
structure GExt (g g' : Gh) : Prop where
  β : ∀ id b, g.β id = some b → g'.β id = some b ∧ g'.mm id = g.mm id ∧ g'.o0 id = g.o0 id
  F : ∀ b, g.F b → g'.F b

mutual
theorem Rep.ext {g g' : Gh} {H H' : Array Go.Obj} (hg : GExt g g') (hH : Ext g.F H H') : ∀ {x : Value} {s : SV}, Rep g H x s → Rep g' H' x s
  | _, _, .v x => .v x
  | _, _, @Rep.ref _ _ id i j b cs T fr hb h => by
    obtain ⟨h1, h2, h3⟩ := hg.β _ _ hb
    obtain ⟨cs', fr', h4, _, _⟩ := hH.cells _ _ _ _ h
    rw [← h2, ← h3]
    exact .ref h1 h4
  | _, _, @Rep.own _ _ id lo len cap b cs T fr hb hl h hc => by
    obtain ⟨h1, h2, h5⟩ := hg.β _ _ hb
    obtain ⟨cs', fr', h3, h4, _⟩ := hH.cells _ _ _ _ h
    rw [← h2, ← h5] at hc ⊢
    exact .own h1 hl h3 (by omega)
  | _, _, .nil => .nil
  | _, _, @Rep.lst _ _ m b off n cap rows cs T fr hn hF h hl hc hr => by
    obtain ⟨cs', fr', h3, h4, h5⟩ := hH.cells _ _ _ _ h
    obtain rfl := h5 hF
    exact .lst hn (hg.F _ hF) h3 hl hc (RepR.ext hg hH hr)
  | _, _, .agg h => .agg (RepL.ext hg hH h)
  | _, _, .tup h => .tup (RepL.ext hg hH h)
  | _, _, @Rep.elt _ _ b off j cells cs T fr hF h hj hr => by
    obtain ⟨cs', fr', h3, h4, h5⟩ := hH.cells _ _ _ _ h
    obtain rfl := h5 hF
    exact .elt (hg.F _ hF) h3 hj (RepL.ext hg hH hr)
  | _, _, @Rep.mp _ _ id b hb hm => by
    obtain ⟨h1, h2, h3⟩ := hg.β _ _ hb
    exact .mp h1 (by rw [h2, hm])
  | _, _, .fn h => .fn (RepL.ext hg hH h)
theorem RepL.ext {g g' : Gh} {H H' : Array Go.Obj} (hg : GExt g g') (hH : Ext g.F H H') : ∀ {xs : List Value} {ss : List SV}, RepL g H xs ss → RepL g' H' xs ss
  | _, _, .nil => .nil
  | _, _, .cons h t => .cons (Rep.ext hg hH h) (RepL.ext hg hH t)
theorem RepR.ext {g g' : Gh} {H H' : Array Go.Obj} (hg : GExt g g') (hH : Ext g.F H H') : ∀ {xs : List Value} {m : Nat} {rows : List (List SV)}, RepR g H xs m rows → RepR g' H' xs m rows
  | _, _, _, .nil => .nil
  | _, _, _, .cons hm h t => .cons hm (RepL.ext hg hH h) (RepR.ext hg hH t)
end

theorem RepL.length {g : Gh} {H : Array Go.Obj} : ∀ {xs : List Value} {ss : List SV}, RepL g H xs ss → xs.length = ss.length
  | _, _, .nil => rfl
  | _, _, .cons _ t => by rw [List.length_cons, List.length_cons, t.length]
theorem RepL.get {g : Gh} {H : Array Go.Obj} : ∀ {xs : List Value} {ss : List SV}, RepL g H xs ss → ∀ (j : Nat) (s : SV), ss[j]? = some s → ∃ x, xs[j]? = some x ∧ Rep g H x s
  | _, _, .nil, j, s, h => by simp at h
  | _, _, .cons (x := x) h t, 0, s, hs => by
    simp only [List.getElem?_cons_zero, Option.some.injEq] at hs
    exact ⟨x, rfl, hs ▸ h⟩
  | _, _, .cons h t, j + 1, s, hs => by
    simp only [List.getElem?_cons_succ] at hs ⊢
    exact t.get j s hs
theorem RepL.set {g : Gh} {H : Array Go.Obj} : ∀ {xs : List Value} {ss : List SV}, RepL g H xs ss → ∀ (j : Nat) {x : Value} {s : SV}, Rep g H x s → RepL g H (xs.set j x) (ss.set j s)
  | _, _, .nil, j, _, _, _ => by rw [List.set_nil, List.set_nil]; exact .nil
  | _, _, .cons h t, 0, _, _, hx => by rw [List.set_cons_zero, List.set_cons_zero]; exact .cons hx t
  | _, _, .cons h t, j + 1, _, _, hx => by rw [List.set_cons_succ, List.set_cons_succ]; exact .cons h (t.set j hx)
theorem RepL.app {g : Gh} {H : Array Go.Obj} : ∀ {xs : List Value} {ss : List SV}, RepL g H xs ss → ∀ {ys : List Value} {ts : List SV}, RepL g H ys ts → RepL g H (xs ++ ys) (ss ++ ts)
  | _, _, .nil, _, _, h => h
  | _, _, .cons h t, _, _, k => .cons h (t.app k)
theorem RepL.take {g : Gh} {H : Array Go.Obj} : ∀ {xs : List Value} {ss : List SV}, RepL g H xs ss → ∀ n, RepL g H (xs.take n) (ss.take n)
  | _, _, .nil, n => by rw [List.take_nil, List.take_nil]; exact .nil
  | _, _, .cons h t, 0 => .nil
  | _, _, .cons h t, n + 1 => .cons h (t.take n)
theorem RepL.drop {g : Gh} {H : Array Go.Obj} : ∀ {xs : List Value} {ss : List SV}, RepL g H xs ss → ∀ n, RepL g H (xs.drop n) (ss.drop n)
  | _, _, .nil, n => by rw [List.drop_nil, List.drop_nil]; exact .nil
  | _, _, .cons h t, 0 => .cons h t
  | _, _, .cons h t, n + 1 => t.drop n
theorem RepL.of_get {g : Gh} {H : Array Go.Obj} : ∀ {xs : List Value} {ss : List SV}, xs.length = ss.length → (∀ (j : Nat) (x : Value) (s : SV), xs[j]? = some x → ss[j]? = some s → Rep g H x s) → RepL g H xs ss
  | [], [], _, _ => .nil
  | x :: xs, s :: ss, hl, h => .cons (h 0 x s rfl rfl) (RepL.of_get (by simpa using hl) fun j y t hy ht => h (j + 1) y t hy ht)
  | [], _ :: _, hl, _ => by simp at hl
  | _ :: _, [], hl, _ => by simp at hl
/-- Rows, by their places. -/
theorem RepR.get {g : Gh} {H : Array Go.Obj} : ∀ {xs : List Value} {m : Nat} {rows : List (List SV)}, RepR g H xs m rows → ∀ (i : Nat) (r : List SV), rows[i]? = some r → r.length = m ∧ RepL g H ((xs.drop (i * m)).take m) r
  | _, _, _, .nil, i, r, h => by simp at h
  | _, m, _, .cons (xs := xs) (ys := ys) hm h t, 0, r, hr => by
    simp only [List.getElem?_cons_zero, Option.some.injEq] at hr
    subst hr
    rw [Nat.zero_mul, List.drop_zero, List.take_left' hm]
    exact ⟨by rw [← h.length, hm], h⟩
  | _, m, _, .cons (xs := xs) (ys := ys) hm h t, i + 1, r, hr => by
    simp only [List.getElem?_cons_succ] at hr
    obtain ⟨h1, h2⟩ := t.get i r hr
    refine ⟨h1, ?_⟩
    rw [Nat.succ_mul, Nat.add_comm, ← List.drop_drop, List.drop_left' hm]
    exact h2
theorem RepR.len {g : Gh} {H : Array Go.Obj} : ∀ {xs : List Value} {m : Nat} {rows : List (List SV)}, RepR g H xs m rows → rows.length * m ≤ xs.length
  | _, _, _, .nil => by simp
  | _, m, _, .cons (rows := rows) hm h t => by
    have := t.len
    rw [List.length_cons, List.length_append, Nat.succ_mul]
    omega
theorem RepR.cell {g : Gh} {H : Array Go.Obj} {xs : List Value} {m : Nat} {rows : List (List SV)} (h : RepR g H xs m rows) {i j : Nat} {r : List SV} {s : SV} (hi : rows[i]? = some r) (hj : r[j]? = some s) :
    ∃ x, xs[i * m + j]? = some x ∧ Rep g H x s := by
  obtain ⟨h1, h2⟩ := h.get i r hi
  obtain ⟨x, hx, hR⟩ := h2.get j s hj
  refine ⟨x, ?_, hR⟩
  rw [List.getElem?_take] at hx
  split at hx
  · rw [List.getElem?_drop] at hx
    exact hx
  · cases hx
/-- One cell is written. -/
theorem RepR.set {g : Gh} {H : Array Go.Obj} : ∀ {xs : List Value} {m : Nat} {rows : List (List SV)}, RepR g H xs m rows → ∀ {i j : Nat} {r : List SV} {x : Value} {s : SV}, rows[i]? = some r → j < m → Rep g H x s →
    RepR g H (xs.set (i * m + j) x) m (rows.set i (r.set j s))
  | _, _, _, .nil, i, j, r, x, s, h, _, _ => by simp at h
  | _, m, _, .cons (xs := xs) (ys := ys) hm h t, 0, j, r, x, s, hr, hj, hx => by
    simp only [List.getElem?_cons_zero, Option.some.injEq] at hr
    subst hr
    rw [Nat.zero_mul, Nat.zero_add, List.set_append_left _ _ (by omega), List.set_cons_zero]
    exact .cons (by rw [List.length_set]; exact hm) (h.set j hx) t
  | _, m, _, .cons (xs := xs) (ys := ys) hm h t, i + 1, j, r, x, s, hr, hj, hx => by
    simp only [List.getElem?_cons_succ] at hr
    have he : (i + 1) * m + j = xs.length + (i * m + j) := by rw [Nat.succ_mul]; omega
    rw [he, List.set_append_right _ _ (by omega), List.set_cons_succ, Nat.add_sub_cancel_left]
    exact .cons hm h (t.set hr hj hx)
/-- Rows of a longer row. -/
theorem RepR.more {g : Gh} {H : Array Go.Obj} : ∀ {xs : List Value} {m : Nat} {rows : List (List SV)}, RepR g H xs m rows → ∀ ys, RepR g H (xs ++ ys) m rows
  | _, _, _, .nil, ys => .nil
  | _, _, _, .cons hm h t, ys => by rw [List.append_assoc]; exact .cons hm h (t.more ys)
theorem RepR.app {g : Gh} {H : Array Go.Obj} : ∀ {xs : List Value} {m : Nat} {rows : List (List SV)}, RepR g H xs m rows → xs.length = rows.length * m → ∀ {ys : List Value} {ts : List (List SV)}, RepR g H ys m ts → RepR g H (xs ++ ys) m (rows ++ ts)
  | xs, m, _, .nil, hl, ys, ts, k => by
    have : xs = [] := List.eq_nil_of_length_eq_zero (by simpa using hl)
    rw [this]
    exact k
  | _, m, _, .cons (rows := rows) hm h t, hl, ys, ts, k => by
    rw [List.append_assoc, List.cons_append]
    refine .cons hm h (t.app ?_ k)
    rw [List.length_append, List.length_cons, Nat.succ_mul] at hl
    omega
theorem RepR.drop {g : Gh} {H : Array Go.Obj} : ∀ {xs : List Value} {m : Nat} {rows : List (List SV)}, RepR g H xs m rows → ∀ n, n ≤ rows.length → RepR g H (xs.drop (n * m)) m (rows.drop n)
  | xs, m, _, .nil, n, hn => by rw [List.drop_nil]; exact .nil
  | _, m, _, .cons hm h t, 0, hn => by rw [Nat.zero_mul]; exact .cons hm h t
  | _, m, _, .cons (xs := xs) hm h t, n + 1, hn => by
    rw [Nat.succ_mul, Nat.add_comm, ← List.drop_drop, List.drop_left' hm, List.drop_succ_cons]
    exact t.drop n (by simpa using hn)
theorem RepR.take {g : Gh} {H : Array Go.Obj} : ∀ {xs : List Value} {m : Nat} {rows : List (List SV)}, RepR g H xs m rows → ∀ n, RepR g H xs m (rows.take n)
  | _, _, _, .nil, n => by rw [List.take_nil]; exact .nil
  | _, _, _, .cons hm h t, 0 => .nil
  | _, _, _, .cons hm h t, n + 1 => by rw [List.take_succ_cons]; exact .cons hm h (t.take n)
theorem RepR.one {g : Gh} {H : Array Go.Obj} {xs : List Value} {r : List SV} (h : RepL g H xs r) : RepR g H xs xs.length [r] := by
  have := RepR.cons (ys := []) rfl h (.nil (xs := []) (m := xs.length))
  rwa [List.append_nil] at this
theorem RepR.left {g : Gh} {H : Array Go.Obj} : ∀ {xs : List Value} {m : Nat} {rows : List (List SV)}, RepR g H xs m rows → ∀ n, rows.length * m ≤ n → RepR g H (xs.take n) m rows
  | _, _, _, .nil, n, hn => .nil
  | _, m, _, .cons (xs := xs) (ys := ys) (rows := rows) hm h t, n, hn => by
    rw [List.length_cons, Nat.succ_mul] at hn
    rw [List.take_append, List.take_of_length_le (by omega)]
    exact .cons hm h (t.left _ (by omega))
end Go.Proofs.YtmcflglkfgnbbaaDoor.Eng

/- A told state and the machine's: what holds between them, and what becomes of it. -/
namespace Go.Proofs.YtmcflglkfgnbbaaDoor.Eng
open Go Go.RowKit
set_option linter.unusedVariables false
set_option linter.unusedSimpArgs false

/-- What a call began with: the world, the blocks that it may write, those that nobody ever writes again, how many slots, where things lay. -/
structure Fr where
  w0 : World
  Wr : Nat → Prop
  F0 : Nat → Prop
  N : Nat
  g0 : Gh

def TabsOk (F : Nat → Prop) (w : World) : Prop := ∀ p ∈ tabs, F p.1 ∧ ∃ (cs : Array Value) (T : TypeId) (fr : Nat × Nat), w.heap[p.1]? = some (Go.Obj.cells cs T fr) ∧ ∀ (k : Nat) (v : Value), p.2[k]? = some v → cs[k]? = some v
/-- What a map holds, pair by pair. -/
def flatM (es : Array MapEntry) : Array Value := (es.toList.flatMap fun e => [e.key, e.val]).toArray
/-- Cells in a block: its own, or those of a map, pair by pair. -/
def InH (H : Array Go.Obj) (b mm o0 m n : Nat) (cs : Array Value) (T : TypeId) (fr : Nat × Nat) : Prop :=
  (mm = m ∧ H[b]? = some (.cells cs T fr)) ∨ (m = 2 ∧ mm = 0 ∧ o0 = 0 ∧ fr = (0, 0) ∧ ∃ es ck, H[b]? = some (.map es ck) ∧ cs = flatM es ∧ es.size = n)
theorem InH.lt {H : Array Go.Obj} {b mm o0 m n : Nat} {cs : Array Value} {T : TypeId} {fr : Nat × Nat} (h : InH H b mm o0 m n cs T fr) : b < H.size := by
  rcases h with ⟨_, h⟩ | ⟨_, _, _, _, es, ck, h, _⟩ <;> exact (Array.getElem?_eq_some_iff.1 h).1
theorem InH.of_eq {H H' : Array Go.Obj} {b mm o0 m n : Nat} {cs : Array Value} {T : TypeId} {fr : Nat × Nat} (h : InH H b mm o0 m n cs T fr) (he : H'[b]? = H[b]?) : InH H' b mm o0 m n cs T fr := by
  unfold InH at *
  rw [he]
  exact h
theorem InH.mono {H H' : Array Go.Obj} {b mm o0 m n : Nat} {cs : Array Value} {T : TypeId} {fr : Nat × Nat} (h : InH H b mm o0 m n cs T fr) (hm : ∀ o, H[b]? = some o → H'[b]? = some o) : InH H' b mm o0 m n cs T fr := by
  rcases h with ⟨h1, h⟩ | ⟨h1, h2, h3, h4, es, ck, h, h5⟩
  · exact .inl ⟨h1, hm _ h⟩
  · exact .inr ⟨h1, h2, h3, h4, es, ck, hm _ h, h5⟩
theorem InH.cells {H : Array Go.Obj} {b mm o0 m n : Nat} {cs cs' : Array Value} {T T' : TypeId} {fr fr' : Nat × Nat} (h : InH H b mm o0 m n cs T fr) (hH : H[b]? = some (.cells cs' T' fr')) : mm = m ∧ H[b]? = some (.cells cs T fr) := by
  rcases h with h | ⟨_, _, _, _, es, ck, h, _⟩
  · exact h
  · rw [hH] at h
    cases h
theorem InH.map {H : Array Go.Obj} {b mm o0 m n : Nat} {cs : Array Value} {T : TypeId} {fr : Nat × Nat} (h : InH H b mm o0 m n cs T fr) (h0 : mm = 0) (h2 : m = 2) : o0 = 0 ∧ fr = (0, 0) ∧ ∃ es ck, H[b]? = some (.map es ck) ∧ cs = flatM es ∧ es.size = n := by
  rcases h with ⟨h, _⟩ | ⟨_, _, h3, h4, h5⟩
  · omega
  · exact ⟨h3, h4, h5⟩
structure ObRep (g : Gh) (H : Array Go.Obj) (id : Nat) (o : Ob) : Prop where
  ex : ∃ b cs T fr, g.β id = some b ∧ InH H b (g.mm id) (g.o0 id) o.m o.rows.length cs T fr ∧ RepR g H (cs.toList.drop (g.o0 id)) o.m o.rows ∧ (∀ i, i ≤ cs.size → ¬ (fr.1 ≤ i ∧ i < fr.2)) ∧ (o.fz = true → g.F b) ∧ (o.fz = false → ¬ g.F b)
  mm : True

structure Rel (f : Fr) (g : Gh) (s : St) (a : Act) (w : World) : Prop where
  slot : ∀ t, Rep g w.heap (a.tmps.getD t undef) (s.slot t)
  size : a.tmps.size = f.N
  defers : a.defers = []
  never : ∀ id, s.obj id = .never → g.β id = none
  ob : ∀ id o, s.obj id = .ob o → ObRep g w.heap id o
  inj : ∀ id id' o o' b, s.obj id = .ob o → s.obj id' = .ob o' → o.fz = false → o'.fz = false → g.β id = some b → g.β id' = some b → id = id'
  own : ∀ id o b, s.obj id = .ob o → o.fz = false → g.β id = some b → f.w0.heap.size ≤ b ∨ f.Wr b
  base : ∀ b, b < f.w0.heap.size → ¬ f.Wr b → w.heap[b]? = f.w0.heap[b]?
  hsize : f.w0.heap.size ≤ w.heap.size
  F0 : ∀ b, f.F0 b → g.F b
  Fold : ∀ b, g.F b → b < f.w0.heap.size → f.F0 b ∨ f.Wr b
  Flt : ∀ b, g.F b → b < w.heap.size
  os : w.os = f.w0.os
  tape : w.tape = f.w0.tape
  output : w.output = f.w0.output
  gext : ∀ id b, f.g0.β id = some b → g.β id = some b ∧ g.mm id = f.g0.mm id ∧ g.o0 id = f.g0.o0 id
  kept : ∀ (b : Nat) (cs : Array Value) (T : TypeId) (fr : Nat × Nat), f.w0.heap[b]? = some (Go.Obj.cells cs T fr) → ∃ (cs' : Array Value) (fr' : Nat × Nat), w.heap[b]? = some (Go.Obj.cells cs' T fr') ∧ cs'.size = cs.size
  tb : TabsOk g.F w
theorem TabsOk.ext {F F' : Nat → Prop} {w w' : World} (h : TabsOk F w) (hF : ∀ b, F b → F' b) (hH : Ext F w.heap w'.heap) : TabsOk F' w' := fun p hp => by
  obtain ⟨h1, cs, T, fr, h2, h5⟩ := h p hp
  obtain ⟨cs', fr', h3, _, h4⟩ := hH.cells _ _ _ _ h2
  obtain rfl := h4 h1
  exact ⟨hF _ h1, _, T, fr', h3, h5⟩
theorem Rel.gx {f : Fr} {g g' : Gh} {s : St} {a : Act} {w : World} (h : Rel f g s a w) (hg : GExt g g') : ∀ id b, f.g0.β id = some b → g'.β id = some b ∧ g'.mm id = f.g0.mm id ∧ g'.o0 id = f.g0.o0 id := fun id b hb => by
  obtain ⟨h1, h2, h3⟩ := h.gext id b hb
  obtain ⟨k1, k2, k3⟩ := hg.β id b h1
  exact ⟨k1, by rw [k2, h2], by rw [k3, h3]⟩
theorem Rel.kx {f : Fr} {g : Gh} {s : St} {a : Act} {w w' : World} {F : Nat → Prop} (h : Rel f g s a w) (hH : Ext F w.heap w'.heap) : ∀ (b : Nat) (cs : Array Value) (T : TypeId) (fr : Nat × Nat), f.w0.heap[b]? = some (Go.Obj.cells cs T fr) → ∃ (cs' : Array Value) (fr' : Nat × Nat), w'.heap[b]? = some (Go.Obj.cells cs' T fr') ∧ cs'.size = cs.size := fun b cs T fr hb => by
  obtain ⟨cs1, fr1, h1, h2⟩ := h.kept b cs T fr hb
  obtain ⟨cs2, fr2, k1, k2, _⟩ := hH.cells b cs1 T fr1 h1
  exact ⟨cs2, fr2, k1, by rw [k2, h2]⟩

/-- As `Rel`, wherever things lie. -/
def R (f : Fr) (s : St) (a : Act) (w : World) : Prop := ∃ g, Rel f g s a w

theorem GExt.refl (g : Gh) : GExt g g := ⟨fun _ _ h => ⟨h, rfl, rfl⟩, fun _ h => h⟩
theorem Ext.refl (F : Nat → Prop) (H : Array Go.Obj) : Ext F H H := ⟨fun b cs T fr h => ⟨cs, fr, h, rfl, fun _ => rfl⟩⟩
theorem Ext.push (F : Nat → Prop) (H : Array Go.Obj) (o : Go.Obj) : Ext F H (H.push o) := ⟨fun b cs T fr h => by
  refine ⟨cs, fr, ?_, rfl, fun _ => rfl⟩
  have hlt : b < H.size := (Array.getElem?_eq_some_iff.1 h).1
  rw [Array.getElem?_push, if_neg (by omega)]
  exact h⟩

/-- One slot is written. -/
def St.put (s : St) (d : Option Nat) (x : SV) : St := { s with slot := fun t => if d = some t then x else s.slot t }
def St.upd (s : St) (id : Nat) (x : OS) : St := { s with obj := fun i => if i = id then x else s.obj i }

theorem getD_put (a : Act) (d : Option Nat) (x : Value) (t : Nat) (ht : ∀ k, d = some k → k < a.tmps.size) : (a.put d x).tmps.getD t undef = if d = some t then x else a.tmps.getD t undef := by
  cases d with
  | none => rw [if_neg (by simp)]; rfl
  | some d =>
    by_cases h : d = t
    · subst h
      rw [if_pos rfl]
      have := ht d rfl
      simp [Act.put, Array.getD_eq_getD_getElem?, this]
    · rw [if_neg (by simpa using h)]
      simp [Act.put, Array.getD_eq_getD_getElem?, Array.getElem?_setIfInBounds_ne h]
theorem size_put (a : Act) (d : Option Nat) (x : Value) : (a.put d x).tmps.size = a.tmps.size := by cases d <;> simp [Act.put]
theorem defers_put (a : Act) (d : Option Nat) (x : Value) : (a.put d x).defers = a.defers := by cases d <;> rfl

theorem Rel.put {f : Fr} {g : Gh} {s : St} {a : Act} {w : World} (h : Rel f g s a w) (d : Option Nat) (hd : ∀ k, d = some k → k < f.N) {x : Value} {sv : SV} (hx : Rep g w.heap x sv) : Rel f g (s.put d sv) (a.put d x) w :=
  { h with
    slot := fun t => by
      rw [getD_put a d x t (by rw [h.size]; exact hd)]
      show Rep _ _ _ (if d = some t then sv else s.slot t)
      by_cases e : d = some t
      · rw [if_pos e, if_pos e]; exact hx
      · rw [if_neg e, if_neg e]; exact h.slot t
    size := by rw [size_put]; exact h.size
    defers := by rw [defers_put]; exact h.defers }
/-- A draw. -/
theorem Rel.drew {f : Fr} {g : Gh} {s : St} {a : Act} {w w' : World} (h : Rel f g s a w) (h1 : w'.heap = w.heap) (h2 : w'.os = w.os) (h3 : w'.tape = w.tape) (h4 : w'.output = w.output) : Rel f g s a w' :=
  { h with
    slot := by rw [h1]; exact h.slot
    ob := by rw [h1]; exact h.ob
    base := by rw [h1]; exact h.base
    hsize := by rw [h1]; exact h.hsize
    Flt := by rw [h1]; exact h.Flt
    kept := by rw [h1]; exact h.kept
    tb := fun p hp => by rw [h1]; exact h.tb p hp
    os := by rw [h2]; exact h.os
    tape := by rw [h3]; exact h.tape
    output := by rw [h4]; exact h.output }

theorem ObRep.ext {g g' : Gh} {H H' : Array Go.Obj} {id : Nat} {o : Ob} (hg : GExt g g') (hF : ∀ b, g'.F b → b < H.size → g.F b ∨ False) (hH : Ext g.F H H') (hcs : ∀ b mm o0 cs T fr, g.β id = some b → InH H b mm o0 o.m o.rows.length cs T fr → InH H' b mm o0 o.m o.rows.length cs T fr) (h : ObRep g H id o) : ObRep g' H' id o := by
  obtain ⟨⟨b, cs, T, fr, h1, h2, h3, h4, h5, h6⟩, h7⟩ := h
  obtain ⟨k1, k2, k3⟩ := hg.β _ _ h1
  refine ⟨⟨b, cs, T, fr, k1, by rw [k2, k3]; exact hcs _ _ _ _ _ _ h1 h2, by rw [k3]; exact h3.ext hg hH, h4, fun e => hg.F _ (h5 e), fun e hb => ?_⟩, trivial⟩
  rcases hF b hb h2.lt with h | h
  · exact h6 e h
  · exact h

/-- A new block, of which an object is told. -/
theorem Rel.newG {f : Fr} {g : Gh} {s : St} {a : Act} {w : World} (h : Rel f g s a w) (id : Nat) (hid : s.obj id = .never) (O : Go.Obj) (mm0 : Nat) (cs : Array Value) (T : TypeId) (fr : Nat × Nat) (m : Nat) (rows : List (List SV))
    (hin : ∀ H : Array Go.Obj, H[w.heap.size]? = some O → InH H w.heap.size mm0 0 m rows.length cs T fr)
    (hr : RepR g w.heap cs.toList m rows) (hfr : ∀ i, i ≤ cs.size → ¬ (fr.1 ≤ i ∧ i < fr.2)) :
    Rel f { g with β := fun i => if i = id then some w.heap.size else g.β i, o0 := fun i => if i = id then 0 else g.o0 i, mm := fun i => if i = id then mm0 else g.mm i } (s.upd id (.ob ⟨m, rows, false⟩)) a (w.alloc O) := by
  have hn := h.never id hid
  have hne : ∀ i b, g.β i = some b → i ≠ id := fun i b hb e => by rw [e, hn] at hb; cases hb
  have hg : GExt g { g with β := fun i => if i = id then some w.heap.size else g.β i, o0 := fun i => if i = id then 0 else g.o0 i, mm := fun i => if i = id then mm0 else g.mm i } :=
    ⟨fun i b hb => ⟨by show (if i = id then _ else _) = _; rw [if_neg (hne i b hb)]; exact hb, by show (if i = id then _ else _) = _; rw [if_neg (hne i b hb)], by show (if i = id then _ else _) = _; rw [if_neg (hne i b hb)]⟩, fun _ h => h⟩
  have hH : Ext g.F w.heap (w.alloc O).heap := Ext.push _ _ _
  have hold : ∀ (b : Nat) (o : Go.Obj), w.heap[b]? = some o → (w.alloc O).heap[b]? = some o := fun b o hb => by
    have hlt : b < w.heap.size := (Array.getElem?_eq_some_iff.1 hb).1
    show (w.heap.push _)[b]? = _
    rw [Array.getElem?_push, if_neg (by omega)]
    exact hb
  have hnew : (w.alloc O).heap[w.heap.size]? = some O := by
    show (w.heap.push _)[w.heap.size]? = _
    rw [Array.getElem?_push, if_pos rfl]
  have hsz : (w.alloc O).heap.size = w.heap.size + 1 := Array.size_push ..
  have hobj : ∀ i o, (s.upd id (.ob ⟨m, rows, false⟩)).obj i = .ob o → (i = id ∧ o = ⟨m, rows, false⟩) ∨ (i ≠ id ∧ s.obj i = .ob o) := fun i o ho => by
    by_cases e : i = id
    · refine .inl ⟨e, ?_⟩
      have : (s.upd id (.ob ⟨m, rows, false⟩)).obj i = .ob ⟨m, rows, false⟩ := by show (if i = id then _ else _) = _; rw [if_pos e]
      rw [this] at ho
      exact (OS.ob.inj ho).symm
    · refine .inr ⟨e, ?_⟩
      have : (s.upd id (.ob ⟨m, rows, false⟩)).obj i = s.obj i := by show (if i = id then _ else _) = _; rw [if_neg e]
      rw [this] at ho
      exact ho
  refine { slot := fun t => (h.slot t).ext hg hH, size := h.size, defers := h.defers, never := ?_, ob := ?_, inj := ?_, own := ?_, base := ?_, hsize := ?_, F0 := h.F0, Fold := h.Fold, Flt := ?_, os := h.os, tape := h.tape, output := h.output, gext := h.gx hg, kept := h.kx hH, tb := h.tb.ext hg.F hH }
  · intro i hi
    by_cases e : i = id
    · have : (s.upd id (.ob ⟨m, rows, false⟩)).obj i = .ob ⟨m, rows, false⟩ := by show (if i = id then _ else _) = _; rw [if_pos e]
      rw [this] at hi
      cases hi
    · have : (s.upd id (.ob ⟨m, rows, false⟩)).obj i = s.obj i := by show (if i = id then _ else _) = _; rw [if_neg e]
      rw [this] at hi
      show (if i = id then _ else _) = _
      rw [if_neg e]
      exact h.never i hi
  · intro i o ho
    rcases hobj i o ho with ⟨rfl, rfl⟩ | ⟨e, ho⟩
    · refine ⟨⟨w.heap.size, cs, T, fr, by show (if i = i then _ else _) = _; rw [if_pos rfl], by show InH _ _ (if i = i then mm0 else g.mm i) (if i = i then 0 else g.o0 i) _ _ _ _ _; rw [if_pos rfl, if_pos rfl]; exact hin _ hnew, by show RepR _ _ (cs.toList.drop (if i = i then 0 else g.o0 i)) _ _; rw [if_pos rfl, List.drop_zero]; exact hr.ext hg hH, hfr, fun e => (by cases e), fun _ hF => ?_⟩, trivial⟩
      have := h.Flt _ hF
      omega
    · exact ObRep.ext hg (fun b hb _ => .inl hb) hH (fun b _ _ cs T fr _ hb => hb.mono (hold b)) (h.ob i o ho)
  · intro i j o o' b ho ho' hz hz' hb hb'
    have key : ∀ i o, s.obj i = .ob o → g.β i ≠ some w.heap.size := fun i o ho hb => by
      obtain ⟨⟨b, cs, T, fr, h1, h2, _⟩, _⟩ := h.ob i o ho
      rw [h1] at hb
      have hlt := h2.lt
      have := Option.some.inj hb
      omega
    have hb : (if i = id then some w.heap.size else g.β i) = some b := hb
    have hb' : (if j = id then some w.heap.size else g.β j) = some b := hb'
    rcases hobj i o ho with ⟨rfl, rfl⟩ | ⟨e, ho1⟩ <;> rcases hobj j o' ho' with ⟨rfl, rfl⟩ | ⟨e', ho1'⟩
    · rfl
    · rw [if_pos rfl] at hb
      rw [if_neg e'] at hb'
      exact (key j o' ho1' (by rw [hb', hb])).elim
    · rw [if_pos rfl] at hb'
      rw [if_neg e] at hb
      exact (key i o ho1 (by rw [hb, hb'])).elim
    · rw [if_neg e] at hb
      rw [if_neg e'] at hb'
      exact h.inj i j o o' b ho1 ho1' hz hz' hb hb'
  · intro i o b ho hz hb
    have hb : (if i = id then some w.heap.size else g.β i) = some b := hb
    rcases hobj i o ho with ⟨rfl, rfl⟩ | ⟨e, ho⟩
    · rw [if_pos rfl] at hb
      have := Option.some.inj hb
      have := h.hsize
      exact .inl (by omega)
    · rw [if_neg e] at hb
      exact h.own i o b ho hz hb
  · intro b hb hW
    have := h.hsize
    show (w.heap.push _)[b]? = _
    rw [Array.getElem?_push, if_neg (by omega)]
    exact h.base b hb hW
  · have := h.hsize
    omega
  · intro b hb
    have := h.Flt b hb
    omega

theorem Rel.new {f : Fr} {g : Gh} {s : St} {a : Act} {w : World} (h : Rel f g s a w) (id : Nat) (hid : s.obj id = .never) (cs : Array Value) (T : TypeId) (fr : Nat × Nat) (m : Nat) (rows : List (List SV))
    (hr : RepR g w.heap cs.toList m rows) (hfr : ∀ i, i ≤ cs.size → ¬ (fr.1 ≤ i ∧ i < fr.2)) :
    Rel f { g with β := fun i => if i = id then some w.heap.size else g.β i, o0 := fun i => if i = id then 0 else g.o0 i, mm := fun i => if i = id then m else g.mm i } (s.upd id (.ob ⟨m, rows, false⟩)) a (w.alloc (.cells cs T fr)) :=
  h.newG id hid (.cells cs T fr) m cs T fr m rows (fun H hH => .inl ⟨rfl, hH⟩) hr hfr
/-- An object is dropped. -/
theorem Rel.kill {f : Fr} {g : Gh} {s : St} {a : Act} {w : World} (h : Rel f g s a w) (id : Nat) : Rel f g (s.upd id .dead) a w := by
  have hobj : ∀ i o, (s.upd id .dead).obj i = .ob o → s.obj i = .ob o := fun i o ho => by
    have ho : (if i = id then OS.dead else s.obj i) = .ob o := ho
    by_cases e : i = id
    · rw [if_pos e] at ho; cases ho
    · rw [if_neg e] at ho; exact ho
  exact { h with
    never := fun i hi => by
      have hi : (if i = id then OS.dead else s.obj i) = .never := hi
      by_cases e : i = id
      · rw [if_pos e] at hi; cases hi
      · rw [if_neg e] at hi; exact h.never i hi
    ob := fun i o ho => h.ob i o (hobj i o ho)
    inj := fun i j o o' b ho ho' => h.inj i j o o' b (hobj i o ho) (hobj j o' ho')
    own := fun i o b ho => h.own i o b (hobj i o ho) }

/-- Memory where an object lies is written: what it holds then. -/
theorem Rel.turn {f : Fr} {g : Gh} {s : St} {a : Act} {w w' : World} (h : Rel f g s a w) {id : Nat} {o : Ob} (ho : s.obj id = .ob o) (hz : o.fz = false) {b : Nat} (hb : g.β id = some b)
    {cs cs' : Array Value} {T : TypeId} {fr : Nat × Nat} (hH : w.heap[b]? = some (.cells cs T fr)) (hH' : w'.heap[b]? = some (.cells cs' T fr)) (hsz : cs'.size = cs.size)
    (hoth : ∀ k, k ≠ b → w'.heap[k]? = w.heap[k]?) (hs : w'.heap.size = w.heap.size) (h1 : w'.os = w.os) (h2 : w'.tape = w.tape) (h3 : w'.output = w.output) (rows : List (List SV))
    (hr : RepR g w.heap (cs'.toList.drop (g.o0 id)) o.m rows) : Rel f g (s.upd id (.ob ⟨o.m, rows, false⟩)) a w' := by
  obtain ⟨⟨b0, cs0, T0, fr0, k1, k2, k3, k4, k5, k6⟩, k7⟩ := h.ob id o ho
  rw [hb] at k1
  obtain rfl := Option.some.inj k1
  obtain ⟨k7, k2⟩ := k2.cells hH
  rw [hH] at k2
  obtain ⟨rfl, rfl, rfl⟩ := Go.Obj.cells.inj (Option.some.inj k2)
  have hext : Ext g.F w.heap w'.heap := ⟨fun k c U q hk => by
    by_cases e : k = b
    · subst e
      rw [hH] at hk
      obtain ⟨rfl, rfl, rfl⟩ := Go.Obj.cells.inj (Option.some.inj hk)
      exact ⟨cs', fr, hH', hsz, fun hF => (k6 hz hF).elim⟩
    · exact ⟨c, q, by rw [hoth k e]; exact hk, rfl, fun _ => rfl⟩⟩
  have hobj : ∀ i p, (s.upd id (.ob ⟨o.m, rows, false⟩)).obj i = .ob p → (i = id ∧ p = ⟨o.m, rows, false⟩) ∨ (i ≠ id ∧ s.obj i = .ob p) := fun i p hp => by
    have hp : (if i = id then OS.ob ⟨o.m, rows, false⟩ else s.obj i) = .ob p := hp
    by_cases e : i = id
    · rw [if_pos e] at hp; exact .inl ⟨e, (OS.ob.inj hp).symm⟩
    · rw [if_neg e] at hp; exact .inr ⟨e, hp⟩
  have hold : ∀ i p, (s.upd id (.ob ⟨o.m, rows, false⟩)).obj i = .ob p → ∃ q, s.obj i = .ob q ∧ q.fz = p.fz := fun i p hp => by
    rcases hobj i p hp with ⟨rfl, rfl⟩ | ⟨e, hp⟩
    · exact ⟨o, ho, hz⟩
    · exact ⟨p, hp, rfl⟩
  refine { slot := fun t => (h.slot t).ext (GExt.refl g) hext, size := h.size, defers := h.defers, never := ?_, ob := ?_, inj := ?_, own := ?_, base := ?_, hsize := by rw [hs]; exact h.hsize, F0 := h.F0, Fold := h.Fold, Flt := by rw [hs]; exact h.Flt, os := by rw [h1]; exact h.os, tape := by rw [h2]; exact h.tape, output := by rw [h3]; exact h.output, gext := h.gext, kept := h.kx hext, tb := h.tb.ext (fun _ h => h) hext }
  · intro i hi
    have hi : (if i = id then OS.ob ⟨o.m, rows, false⟩ else s.obj i) = .never := hi
    by_cases e : i = id
    · rw [if_pos e] at hi; cases hi
    · rw [if_neg e] at hi; exact h.never i hi
  · intro i p hp
    rcases hobj i p hp with ⟨rfl, rfl⟩ | ⟨e, hp⟩
    · exact ⟨⟨b, cs', T, fr, hb, .inl ⟨k7, hH'⟩, hr.ext (GExt.refl g) hext, by rw [hsz]; exact k4, fun e => (by cases e), fun _ => k6 hz⟩, trivial⟩
    · refine ObRep.ext (GExt.refl g) (fun b hb _ => .inl hb) hext (fun k _ _ c U q hk hq => ?_) (h.ob i p hp)
      have hkb : k ≠ b := by
        rintro rfl
        cases hpz : p.fz with
        | false => exact e (h.inj i id p o _ hp ho hpz hz hk hb)
        | true =>
          obtain ⟨⟨b1, _, _, _, q1, _, _, _, q5, _⟩, _⟩ := h.ob i p hp
          rw [hk] at q1
          obtain rfl := Option.some.inj q1
          exact k6 hz (q5 hpz)
      exact hq.of_eq (hoth k hkb)
  · intro i j p p' k hp hp' hz1 hz2 hk hk'
    obtain ⟨q, hq, e1⟩ := hold i p hp
    obtain ⟨q', hq', e2⟩ := hold j p' hp'
    exact h.inj i j q q' k hq hq' (by rw [e1, hz1]) (by rw [e2, hz2]) hk hk'
  · intro i p k hp hz1 hk
    obtain ⟨q, hq, e1⟩ := hold i p hp
    exact h.own i q k hq (by rw [e1, hz1]) hk
  · intro k hk hW
    have : k ≠ b := by
      rintro rfl
      rcases h.own id o _ ho hz hb with h | h
      · omega
      · exact hW h
    rw [hoth k this]
    exact h.base k hk hW

/-- An object is never written again. -/
theorem Rel.freeze {f : Fr} {g : Gh} {s : St} {a : Act} {w : World} (h : Rel f g s a w) (id : Nat) (o : Ob) (ho : s.obj id = .ob o) :
    ∃ g', GExt g g' ∧ Rel f g' (s.upd id (.ob ⟨o.m, o.rows, true⟩)) a w := by
  cases hz : o.fz with
  | true =>
    refine ⟨g, GExt.refl g, ?_⟩
    have : s.upd id (.ob ⟨o.m, o.rows, true⟩) = s := by
      cases s with
      | mk sl ob =>
        unfold St.upd
        congr
        funext i
        by_cases e : i = id
        · subst e
          rw [if_pos rfl]
          have ho : ob i = .ob o := ho
          rw [ho, ← hz]
        · rw [if_neg e]
    rw [this]
    exact h
  | false =>
    obtain ⟨⟨b, cs, T, fr, k1, k2, k3, k4, k5, k6⟩, k7⟩ := h.ob id o ho
    have hg : GExt g { g with F := fun k => g.F k ∨ k = b } := ⟨fun _ _ h => ⟨h, rfl, rfl⟩, fun _ h => .inl h⟩
    have hobj : ∀ i p, (s.upd id (.ob ⟨o.m, o.rows, true⟩)).obj i = .ob p → (i = id ∧ p = ⟨o.m, o.rows, true⟩) ∨ (i ≠ id ∧ s.obj i = .ob p) := fun i p hp => by
      have hp : (if i = id then OS.ob ⟨o.m, o.rows, true⟩ else s.obj i) = .ob p := hp
      by_cases e : i = id
      · rw [if_pos e] at hp; exact .inl ⟨e, (OS.ob.inj hp).symm⟩
      · rw [if_neg e] at hp; exact .inr ⟨e, hp⟩
    have hoth : ∀ i p, i ≠ id → s.obj i = .ob p → p.fz = false → g.β i ≠ some b := fun i p e hp hpz hb => e (h.inj i id p o b hp ho hpz hz hb k1)
    refine ⟨_, hg, { slot := fun t => (h.slot t).ext hg (Ext.refl _ _), size := h.size, defers := h.defers, never := ?_, ob := ?_, inj := ?_, own := ?_, base := h.base, hsize := h.hsize, F0 := fun k hk => .inl (h.F0 k hk), Fold := ?_, Flt := ?_, os := h.os, tape := h.tape, output := h.output, gext := h.gext, kept := h.kept, tb := h.tb.ext hg.F (Ext.refl _ _) }⟩
    · intro i hi
      have hi : (if i = id then OS.ob ⟨o.m, o.rows, true⟩ else s.obj i) = .never := hi
      by_cases e : i = id
      · rw [if_pos e] at hi; cases hi
      · rw [if_neg e] at hi; exact h.never i hi
    · intro i p hp
      rcases hobj i p hp with ⟨rfl, rfl⟩ | ⟨e, hp⟩
      · exact ⟨⟨b, cs, T, fr, k1, k2, k3.ext hg (Ext.refl _ _), k4, fun _ => .inr rfl, fun e => (by cases e)⟩, k7⟩
      · obtain ⟨⟨b1, c1, T1, f1, q1, q2, q3, q4, q5, q6⟩, q7⟩ := h.ob i p hp
        refine ⟨⟨b1, c1, T1, f1, q1, q2, q3.ext hg (Ext.refl _ _), q4, fun e => .inl (q5 e), fun hpz hF => ?_⟩, q7⟩
        rcases hF with hF | rfl
        · exact q6 hpz hF
        · exact hoth i p e hp hpz q1
    · intro i j p p' k hp hp' hz1 hz2 hk hk'
      rcases hobj i p hp with ⟨rfl, rfl⟩ | ⟨e, hp⟩
      · cases hz1
      · rcases hobj j p' hp' with ⟨rfl, rfl⟩ | ⟨e', hp'⟩
        · cases hz2
        · exact h.inj i j p p' k hp hp' hz1 hz2 hk hk'
    · intro i p k hp hz1 hk
      rcases hobj i p hp with ⟨rfl, rfl⟩ | ⟨e, hp⟩
      · cases hz1
      · exact h.own i p k hp hz1 hk
    · intro k hk hlt
      rcases hk with hk | rfl
      · exact h.Fold k hk hlt
      · rcases h.own id o k ho hz k1 with h' | h'
        · omega
        · exact .inr h'
    · intro k hk
      rcases hk with hk | rfl
      · exact h.Flt k hk
      · exact k2.lt
end Go.Proofs.YtmcflglkfgnbbaaDoor.Eng

/- What an operation does to a told state. -/
namespace Go.Proofs.YtmcflglkfgnbbaaDoor.Eng
open Go Go.RowKit
set_option linter.unusedVariables false
set_option linter.unusedSimpArgs false

inductive Loc where
  | slot (t : Nat)
  | obj (id : Nat)
  deriving DecidableEq
/-- What an operation leaves: its result, and objects as they are then. -/
structure Eff where
  dst : Option Nat
  v : SV
  ob : List (Nat × OS)
def St.upds (s : St) : List (Nat × OS) → St
  | [] => s
  | (i, x) :: l => (s.upd i x).upds l
def St.app (s : St) (e : Eff) : St := (s.upds e.ob).put e.dst e.v
/-- Alike at these places. -/
def Agree (L : List Loc) (s σ : St) : Prop := (∀ t, .slot t ∈ L → σ.slot t = s.slot t) ∧ (∀ i, .obj i ∈ L → σ.obj i = s.obj i)
theorem Agree.refl (L : List Loc) (s : St) : Agree L s s := ⟨fun _ _ => rfl, fun _ _ => rfl⟩
theorem Agree.left {L M : List Loc} {s σ : St} (h : Agree (L ++ M) s σ) : Agree L s σ := ⟨fun t ht => h.1 t (List.mem_append_left _ ht), fun t ht => h.2 t (List.mem_append_left _ ht)⟩
theorem Agree.right {L M : List Loc} {s σ : St} (h : Agree (L ++ M) s σ) : Agree M s σ := ⟨fun t ht => h.1 t (List.mem_append_right _ ht), fun t ht => h.2 t (List.mem_append_right _ ht)⟩

def St.ev (s : St) : Operand → SV
  | .tmp t => s.slot t
  | .const v => .v v
  | .global g => .v (.pointer (some ⟨g, 0, none⟩))
  | .func f => .v (.func (.func f) #[] #[])
def locO : Operand → List Loc
  | .tmp t => [.slot t]
  | _ => []
def locs : List Operand → List Loc
  | [] => []
  | x :: l => locO x ++ locs l
theorem ev_agree {x : Operand} {s σ : St} (h : Agree (locO x) s σ) : σ.ev x = s.ev x := by
  cases x with
  | tmp t => exact h.1 t (List.mem_singleton.2 rfl)
  | _ => rfl
theorem Rel.ev {f : Fr} {g : Gh} {s : St} {a : Act} {w : World} (h : Rel f g s a w) (x : Operand) : Rep g w.heap (a.eval x) (s.ev x) := by
  cases x with
  | tmp t => exact h.slot t
  | _ => exact .v _

/-- From a state that is alike at the places that it looks at, an operation comes to what it leaves. -/
def Step (P : Program) (o : Oper) (L : List Loc) (e : Eff) (s : St) : Prop :=
  ∀ (f : Fr) (σ : St) (a : Act) (w : World) (K : Act → World → Prop) (Q : Exit → Act → World → Prop), Agree L s σ → (∀ d, o.dst = some d → d < f.N) → R f σ a w →
    (∀ a' w', R f (σ.app e) a' w' → K a' w') → o.wp P a w K Q

section
variable {P : Program} {o : Oper} {s : St}

/-- A value is yielded, the world stays. -/
theorem step_value {L : List Loc} {sv : SV} (h : ∀ (g : Gh) (σ : St) (f : Fr) (a : Act) (w : World), Agree L s σ → Rel f g σ a w → ∃ v, (execOp a.eval o).run P w = .ok (.value v) w ∧ Rep g w.heap v sv) : Step P o L ⟨o.dst, sv, []⟩ s := by
  intro f σ a w K Q hA hd ⟨g, hR⟩ hK
  obtain ⟨v, hv, hRep⟩ := h g σ f a w hA hR
  unfold Oper.wp
  rw [hv, Oper.upon_value]
  exact hK _ _ ⟨g, hR.put o.dst hd hRep⟩
theorem step_move {x : Operand} (ho : o.op = .move x) : Step P o (locO x) ⟨o.dst, s.ev x, []⟩ s :=
  step_value fun g σ f a w hA hR => ⟨a.eval x, by simp [execOp, ho], by rw [← ev_agree hA]; exact hR.ev x⟩
theorem step_assign {x : Operand} (ho : o.op = .assign x) : Step P o (locO x) ⟨o.dst, s.ev x, []⟩ s :=
  step_value fun g σ f a w hA hR => ⟨a.eval x, by simp [execOp, ho], by rw [← ev_agree hA]; exact hR.ev x⟩
theorem rep_v {g : Gh} {H : Array Go.Obj} {x y : Value} (h : Rep g H x (.v y)) : x = y := by cases h; rfl
theorem ev_v {f : Fr} {g : Gh} {σ : St} {a : Act} {w : World} {x : Operand} {y : Value} (hR : Rel f g σ a w) (hA : Agree (locO x) s σ) (hx : s.ev x = .v y) : a.eval x = y := by
  have := hR.ev x
  rw [ev_agree hA, hx] at this
  exact rep_v this
def SV.val : SV → Value
  | .v x => x
  | _ => undef
def SV.flat : SV → Bool
  | .v _ => true
  | _ => false
theorem SV.flat_val : ∀ {s : SV}, s.flat = true → s = .v s.val
  | .v x, _ => rfl
  | .ref .., h => by cases h
  | .own .., h => by cases h
  | .lst .., h => by cases h
  | .agg .., h => by cases h
  | .tup .., h => by cases h
  | .elt .., h => by cases h
  | .mp .., h => by cases h
  | .fn .., h => by cases h
theorem mem_locs {x : Operand} : ∀ {l : List Operand}, x ∈ l → ∀ y ∈ locO x, y ∈ locs l
  | z :: l, h, y, hy => by
    rcases List.mem_cons.1 h with rfl | h
    · exact List.mem_append_left _ hy
    · exact List.mem_append_right _ (mem_locs h y hy)
theorem Agree.of_mem {L M : List Loc} {s σ : St} (h : Agree M s σ) (hs : ∀ y ∈ L, y ∈ M) : Agree L s σ := ⟨fun t ht => h.1 t (hs _ ht), fun t ht => h.2 t (hs _ ht)⟩
/-- Of values alone: what the operation says of them in any world. -/
theorem step_pure (v : Value) (hs : ∀ cs b, o.op ≠ .select cs b) (hf : (o.op.operands.toList.all fun x => (s.ev x).flat) = true)
    (h : ∀ w : World, (execOp (fun x => (s.ev x).val) o).run P w = .ok (.value v) w) : Step P o (locs o.op.operands.toList) ⟨o.dst, .v v, []⟩ s :=
  step_value fun g σ f a w hA hR => by
    refine ⟨v, ?_, .v _⟩
    rw [← h w]
    congr 1
    refine execOp_congr o hs fun x hx => ?_
    have hx' : x ∈ o.op.operands.toList := by simpa using hx
    have hfl : (s.ev x).flat = true := List.all_eq_true.1 hf x hx'
    exact ev_v hR (hA.of_mem (mem_locs hx')) (SV.flat_val hfl)
theorem step_pick {c x y : Operand} {b : Bool} (ho : o.op = .pick c x y) (hc : s.ev c = .v (.bool b)) : Step P o (locO c ++ locO x ++ locO y) ⟨o.dst, if b then s.ev x else s.ev y, []⟩ s :=
  step_value fun g σ f a w hA hR => by
    have h1 := ev_v hR hA.left.left hc
    refine ⟨if b then a.eval x else a.eval y, ?_, ?_⟩
    · cases b <;> simp [execOp, ho, h1, asBool]
    · cases b
      · rw [if_neg (by simp), if_neg (by simp), ← ev_agree hA.right]; exact hR.ev y
      · rw [if_pos rfl, if_pos rfl, ← ev_agree hA.left.right]; exact hR.ev x

/-! ### Memory that is read -/
theorem agree_obj {L : List Loc} {σ : St} {id : Nat} (h : Agree (L ++ [.obj id]) s σ) : σ.obj id = s.obj id := h.2 id (List.mem_append_right _ (List.mem_singleton.2 rfl))
theorem rep_ref {g : Gh} {H : Array Go.Obj} {x : Value} {id i j : Nat} (h : Rep g H x (.ref id i j)) : ∃ b, g.β id = some b ∧ x = .pointer (some ⟨b, g.o0 id + (i * g.mm id + j), none⟩) := by
  cases h with | ref hb _ => exact ⟨_, hb, rfl⟩
theorem rep_refH {g : Gh} {H : Array Go.Obj} {x : Value} {id i j : Nat} (h : Rep g H x (.ref id i j)) {b : Nat} (hb : g.β id = some b) : ∃ cs T fr, H[b]? = some (.cells cs T fr) := by
  cases h with
  | ref hb' hH =>
    rw [hb'] at hb
    obtain rfl := Option.some.inj hb
    exact ⟨_, _, _, hH⟩
theorem cell_of {w : World} {b : Nat} {cs : Array Value} {T : TypeId} {fr : Nat × Nat} (h : w.heap[b]? = some (.cells cs T fr)) (k : Nat) : w.cell? ⟨b, k, none⟩ = cs[k]? := by simp [World.cell?, h]
/-- The cells of an object's row, in memory. -/
theorem ObRep.cellAt {g : Gh} {w : World} {id : Nat} {o : Ob} (h : ObRep g w.heap id o) {b i j : Nat} {r : List SV} {sv : SV} (hb : g.β id = some b) (hH : ∃ cs T fr, w.heap[b]? = some (.cells cs T fr)) (hr : o.rows[i]? = some r) (hj : r[j]? = some sv) :
    ∃ x, w.cell? ⟨b, g.o0 id + (i * g.mm id + j), none⟩ = some x ∧ Rep g w.heap x sv := by
  obtain ⟨⟨b', cs, T, fr, k1, k2, k3, _⟩, k7⟩ := h
  rw [hb] at k1
  obtain rfl := Option.some.inj k1
  obtain ⟨_, _, _, hH⟩ := hH
  obtain ⟨k7, k2⟩ := k2.cells hH
  obtain ⟨x, hx, hR⟩ := k3.cell hr hj
  refine ⟨x, ?_, hR⟩
  rw [cell_of k2, k7]
  rw [List.getElem?_drop] at hx
  simpa using hx
theorem rep_elt {g : Gh} {w : World} {x : Value} {cells : List SV} {j : Nat} (h : Rep g w.heap x (.elt cells j)) :
    ∃ b off, x = .pointer (some ⟨b, off + j, none⟩) ∧ ∀ k sv, cells[k]? = some sv → ∃ y, w.cell? ⟨b, off + k, none⟩ = some y ∧ Rep g w.heap y sv := by
  cases h with
  | elt hF hH hj hr =>
    refine ⟨_, _, rfl, fun k sv hk => ?_⟩
    obtain ⟨y, hy, hR⟩ := hr.get k sv hk
    refine ⟨y, ?_, hR⟩
    rw [cell_of hH]
    rw [List.getElem?_take] at hy
    split at hy
    · rw [List.getElem?_drop] at hy
      simpa using hy
    · cases hy
theorem isRow_load {T : TypeId} {d : TypeDesc} (hu : P.underlying T = some d) (hd : d.isRow = false) (ad : Addr) (v : Value) (w : World) (hc : w.cell? ad = some v) : (Instr.loadAt T (.pointer (some ad))).run P w = .ok v w := by
  have hagg : (isAgg T).run P w = .ok false w := by
    unfold isAgg
    rw [Sem.run_bind, run_underlying hu w]
    cases d <;> simp_all
  simp [Instr.loadAt, Instr.sureAddr, loadVar, Sem.run_bind, hagg, load, Sem.run, hc]
/-- A cell. -/
theorem step_load {T : TypeId} {x : Operand} {d : TypeDesc} (ho : o.op = .load T x) (hu : P.underlying T = some d) (hd : d.isRow = false) {id i j : Nat} {ob : Ob} {r : List SV} {sv : SV}
    (hx : s.ev x = .ref id i j) (hob : s.obj id = .ob ob) (hr : ob.rows[i]? = some r) (hj : r[j]? = some sv) : Step P o (locO x ++ [.obj id]) ⟨o.dst, sv, []⟩ s :=
  step_value fun g σ f a w hA hR => by
    have h1 := hR.ev x
    rw [ev_agree hA.left, hx] at h1
    obtain ⟨b, hb, he⟩ := rep_ref h1
    obtain ⟨y, hy, hRy⟩ := (hR.ob id ob (by rw [agree_obj hA]; exact hob)).cellAt hb (rep_refH h1 hb) hr hj
    refine ⟨y, ?_, hRy⟩
    simp only [execOp, ho, he, isRow_load hu hd _ _ w hy]
    simp [Sem.run_bind, isRow_load hu hd _ _ w hy]
theorem step_load_elt {T : TypeId} {x : Operand} {d : TypeDesc} (ho : o.op = .load T x) (hu : P.underlying T = some d) (hd : d.isRow = false) {cells : List SV} {j : Nat} {sv : SV}
    (hx : s.ev x = .elt cells j) (hj : cells[j]? = some sv) : Step P o (locO x) ⟨o.dst, sv, []⟩ s :=
  step_value fun g σ f a w hA hR => by
    have h1 := hR.ev x
    rw [ev_agree hA, hx] at h1
    obtain ⟨b, off, he, hc⟩ := rep_elt h1
    obtain ⟨y, hy, hRy⟩ := hc j sv hj
    refine ⟨y, ?_, hRy⟩
    simp only [execOp, ho, he]
    simp [Sem.run_bind, isRow_load hu hd _ _ w hy]
/-- The cells from a place on, as a list of values. -/
theorem range_vals {g : Gh} {w : World} {b off : Nat} {cells : List SV} : ∀ (l : List SV) (j : Nat), (∀ k sv, l[k]? = some sv → ∃ y, w.cell? ⟨b, off + (j + k), none⟩ = some y ∧ Rep g w.heap y sv) →
    ∃ vs : List Value, RepL g w.heap vs l ∧ w.rangeAt b (off + j) vs
  | [], j, _ => ⟨[], .nil, fun k v hk => by simp at hk⟩
  | sv :: l, j, h => by
    obtain ⟨y, hy, hR⟩ := h 0 sv rfl
    obtain ⟨vs, hvs, hra⟩ := range_vals (cells := cells) l (j + 1) fun k sv hk => by
      obtain ⟨y, hy, hR⟩ := h (k + 1) sv hk
      exact ⟨y, by rw [show j + 1 + k = j + (k + 1) by omega]; exact hy, hR⟩
    refine ⟨y :: vs, .cons hR hvs, fun k v hk => ?_⟩
    cases k with
    | zero =>
      simp only [List.getElem?_cons_zero, Option.some.injEq] at hk
      subst hk
      exact hy
    | succ k =>
      simp only [List.getElem?_cons_succ] at hk
      have := hra k v hk
      rwa [show off + (j + 1) + k = off + j + (k + 1) by omega] at this
theorem take_get {l : List SV} {j n k : Nat} {sv : SV} (h : ((l.drop j).take n)[k]? = some sv) : l[j + k]? = some sv := by
  rw [List.getElem?_take] at h
  split at h
  · rwa [List.getElem?_drop] at h
  · cases h
/-- A struct. -/
theorem step_loads {T : TypeId} {x : Operand} {d : TypeDesc} (ho : o.op = .load T x) (hu : P.underlying T = some d) (hd : d.isRow = true) {n : Nat} (hn : (P.info? T).map (·.size) = some n) {id i j : Nat} {ob : Ob} {r cells : List SV}
    (hx : s.ev x = .ref id i j) (hob : s.obj id = .ob ob) (hr : ob.rows[i]? = some r) (hc : (r.drop j).take n = cells) (hl : cells.length = n) : Step P o (locO x ++ [.obj id]) ⟨o.dst, .agg cells, []⟩ s :=
  step_value fun g σ f a w hA hR => by
    have h1 := hR.ev x
    rw [ev_agree hA.left, hx] at h1
    obtain ⟨b, hb, he⟩ := rep_ref h1
    have hO := hR.ob id ob (by rw [agree_obj hA]; exact hob)
    obtain ⟨vs, hvs, hra⟩ := range_vals (cells := cells) (b := b) (off := g.o0 id + i * g.mm id) cells j fun k sv hk => by
      rw [← hc] at hk
      have := hO.cellAt hb (rep_refH h1 hb) hr (take_get hk)
      rwa [← Nat.add_assoc] at this
    refine ⟨.agg vs.toArray, ?_, .agg (by simpa using hvs)⟩
    have hm := run_loadAt_mid (P := P) w b (g.o0 id + i * g.mm id + j) T vs d hra hu hd (by rw [hn, hvs.length, hl])
    rw [Nat.add_assoc] at hm
    simp only [execOp, ho, he]
    simp [Sem.run_bind, hm]
theorem step_loads_elt {T : TypeId} {x : Operand} {d : TypeDesc} (ho : o.op = .load T x) (hu : P.underlying T = some d) (hd : d.isRow = true) {n : Nat} (hn : (P.info? T).map (·.size) = some n) {cells r : List SV} {j : Nat}
    (hx : s.ev x = .elt r j) (hc : (r.drop j).take n = cells) (hl : cells.length = n) : Step P o (locO x) ⟨o.dst, .agg cells, []⟩ s :=
  step_value fun g σ f a w hA hR => by
    have h1 := hR.ev x
    rw [ev_agree hA, hx] at h1
    obtain ⟨b, off, he, hcl⟩ := rep_elt h1
    obtain ⟨vs, hvs, hra⟩ := range_vals (cells := cells) (b := b) (off := off) cells j fun k sv hk => by
      rw [← hc] at hk
      exact hcl _ _ (take_get hk)
    refine ⟨.agg vs.toArray, ?_, .agg (by simpa using hvs)⟩
    have hm := run_loadAt_mid (P := P) w b (off + j) T vs d hra hu hd (by rw [hn, hvs.length, hl])
    simp only [execOp, ho, he]
    simp [Sem.run_bind, hm]
end
end Go.Proofs.YtmcflglkfgnbbaaDoor.Eng

/- What is written, and what is made. -/
namespace Go.Proofs.YtmcflglkfgnbbaaDoor.Eng
open Go Go.RowKit
set_option linter.unusedVariables false
set_option linter.unusedSimpArgs false

/-- A value's cells. -/
def SV.cells : SV → List SV
  | .v x => x.cells.toList.map SV.v
  | .agg cs => cs
  | s => [s]
theorem repL_v {g : Gh} {H : Array Go.Obj} : ∀ l : List Value, RepL g H l (l.map SV.v)
  | [] => .nil
  | x :: l => .cons (.v x) (repL_v l)
theorem Rep.cells {g : Gh} {H : Array Go.Obj} {x : Value} {s : SV} (h : Rep g H x s) : RepL g H x.cells.toList s.cells := by
  cases h with
  | v x => exact repL_v _
  | agg h => exact h
  | ref hb hH => exact .cons (.ref hb hH) .nil
  | own hb hl hH hc => exact .cons (.own hb hl hH hc) .nil
  | nil => exact .cons .nil .nil
  | lst hn hF hH hl hc hr => exact .cons (.lst hn hF hH hl hc hr) .nil
  | tup h => exact .cons (.tup h) .nil
  | elt hF hH hj hr => exact .cons (.elt hF hH hj hr) .nil
  | mp hb hm => exact .cons (.mp hb hm) .nil
  | fn h => exact .cons (.fn h) .nil
/-- Each cell's value is one cell. -/
def SV.one : SV → Bool
  | .v x => x.oneCell'
  | .agg _ => false
  | .tup _ => false
  | _ => true
theorem Rep.one {g : Gh} {H : Array Go.Obj} {x : Value} {s : SV} (h : Rep g H x s) (hs : s.one = true) : x.oneCell' = true := by
  cases h <;> first | exact hs | rfl | cases hs
theorem RepL.one {g : Gh} {H : Array Go.Obj} : ∀ {xs : List Value} {ss : List SV}, RepL g H xs ss → ss.all SV.one = true → ∀ v ∈ xs, v.oneCell' = true
  | _, _, .nil, _, v, hv => by cases hv
  | _, _, .cons h t, hs, v, hv => by
    rw [List.all_cons, Bool.and_eq_true] at hs
    rcases List.mem_cons.1 hv with rfl | hv
    · exact h.one hs.1
    · exact t.one hs.2 v hv

/-- Cells written over, from a place on. -/
def owr {α : Type} (l : List α) : Nat → List α → List α
  | _, [] => l
  | o, c :: cs => owr (l.set o c) (o + 1) cs
theorem length_owr {α : Type} : ∀ (cs : List α) (l : List α) (o : Nat), (owr l o cs).length = l.length
  | [], _, _ => rfl
  | c :: cs, l, o => by rw [owr, length_owr cs, List.length_set]
theorem owr_nil {α : Type} : ∀ (cs : List α) (o : Nat), owr ([] : List α) o cs = []
  | [], _ => rfl
  | c :: cs, o => by rw [owr, List.set_nil, owr_nil cs]
theorem owr_cons {α : Type} (x : α) : ∀ (cs : List α) (l : List α) (o : Nat), owr (x :: l) (o + 1) cs = x :: owr l o cs
  | [], _, _ => rfl
  | c :: cs, l, o => by rw [owr, owr, List.set_cons_succ, owr_cons x cs]
theorem RepL.owr {g : Gh} {H : Array Go.Obj} : ∀ {ys : List Value} {ts : List SV}, RepL g H ys ts → ∀ {xs : List Value} {ss : List SV}, RepL g H xs ss → ∀ o, RepL g H (owr xs o ys) (owr ss o ts)
  | _, _, .nil, _, _, h, o => h
  | _, _, .cons hx t, _, _, h, o => t.owr (h.set o hx) (o + 1)
theorem RepR.owr {g : Gh} {H : Array Go.Obj} {i m : Nat} : ∀ {ys : List Value} {ts : List SV}, RepL g H ys ts → ∀ {xs : List Value} {rows : List (List SV)}, RepR g H xs m rows → ∀ {r : List SV} (j : Nat), rows[i]? = some r → j + ts.length ≤ m →
    RepR g H (owr xs (i * m + j) ys) m (rows.set i (owr r j ts))
  | _, _, .nil, xs, rows, h, r, j, hr, hj => by
    show RepR g H xs m (rows.set i r)
    have : rows.set i r = rows := by
      apply List.ext_getElem?
      intro k
      rw [List.getElem?_set]
      split
      · rename_i e
        subst e
        have hlt : i < rows.length := (List.getElem?_eq_some_iff.1 hr).1
        rw [if_pos hlt, hr]
      · rfl
    rw [this]
    exact h
  | _, _, .cons (s := sv) (ss := ts) hx t, xs, rows, h, r, j, hr, hj => by
    rw [List.length_cons] at hj
    have h1 := h.set (j := j) hr (by omega) hx
    have hlt : i < rows.length := (List.getElem?_eq_some_iff.1 hr).1
    have h2 := RepR.owr t h1 (r := r.set j sv) (j + 1) (by rw [List.getElem?_set, if_pos rfl, if_pos hlt]) (by omega)
    rw [List.set_set] at h2
    exact h2
theorem toList_setIfInBounds (cs : Array Value) (k : Nat) (x : Value) : (cs.setIfInBounds k x).toList = cs.toList.set k x := by simp
/-- A block's cells written one by one. -/
theorem setCells_heap (b : Nat) : ∀ (vs : List Value) (o : Nat) (w : World) (cs : Array Value) (T : TypeId) (fr : Nat × Nat), w.heap[b]? = some (.cells cs T fr) →
    (w.setCells b o vs).heap[b]? = some (.cells (owr cs.toList o vs).toArray T fr) ∧ (∀ k, k ≠ b → (w.setCells b o vs).heap[k]? = w.heap[k]?) ∧ (w.setCells b o vs).heap.size = w.heap.size ∧
      (w.setCells b o vs).os = w.os ∧ (w.setCells b o vs).tape = w.tape ∧ (w.setCells b o vs).output = w.output
  | [], o, w, cs, T, fr, h => ⟨by simpa [World.setCells, owr] using h, fun _ _ => rfl, rfl, rfl, rfl, rfl⟩
  | v :: vs, o, w, cs, T, fr, h => by
    have h1 : (w.setCell ⟨b, o, none⟩ v).heap[b]? = some (.cells (cs.setIfInBounds o v) T fr) := by
      simp [World.setCell, Array.getElem?_modify, h]
    obtain ⟨k1, k2, k3, k4, k5, k6⟩ := setCells_heap b vs (o + 1) (w.setCell ⟨b, o, none⟩ v) _ T fr h1
    refine ⟨?_, fun k hk => ?_, ?_, k4, k5, k6⟩
    · rw [toList_setIfInBounds] at k1
      exact k1
    · show ((w.setCell ⟨b, o, none⟩ v).setCells b (o + 1) vs).heap[k]? = _
      rw [k2 k hk]
      exact Below.heap_setCell _ _ _ _ hk
    · show ((w.setCell ⟨b, o, none⟩ v).setCells b (o + 1) vs).heap.size = _
      rw [k3]
      simp [World.setCell]

theorem drop_owr {α : Type} : ∀ (n : Nat) (l : List α) (k : Nat) (cs : List α), (owr l (n + k) cs).drop n = owr (l.drop n) k cs
  | 0, l, k, cs => by rw [Nat.zero_add, List.drop_zero, List.drop_zero]
  | n + 1, [], k, cs => by rw [owr_nil, List.drop_nil, owr_nil]
  | n + 1, x :: l, k, cs => by rw [show n + 1 + k = n + k + 1 by omega, owr_cons, List.drop_succ_cons, List.drop_succ_cons, drop_owr n l k cs]
section
variable {P : Program} {o : Oper} {s : St}
theorem frozen_none {w : World} {b : Nat} {cs : Array Value} {T : TypeId} {fr : Nat × Nat} (h : w.heap[b]? = some (.cells cs T fr)) (hfr : ∀ i, i ≤ cs.size → ¬ (fr.1 ≤ i ∧ i < fr.2)) (k : Nat) (hk : k < cs.size) : w.frozen? ⟨b, k, none⟩ = false := by
  have := hfr k (Nat.le_of_lt hk)
  simp only [World.frozen?, h]
  by_cases h1 : fr.1 ≤ k
  · have h2 : ¬ k < fr.2 := fun h2 => this ⟨h1, h2⟩
    simp [h2]
  · simp [h1]
theorem run_store_any {T : TypeId} {w : World} {b k : Nat} {v : Value} {n : Nat} (hn : (P.info? T).map (·.size) = some n) (hsz : v.cells.size = n) (hth : w.there b k n) (h1 : ∀ x ∈ v.cells.toList, x.oneCell' = true) :
    (Instr.storeAt T (.pointer (some ⟨b, k, none⟩)) v).run P w = .ok () (w.setCells b k v.cells.toList) := by
  have := run_storeCells_cells (P := P) b k v.cells.toList 0 w (fun j hj => by simpa using (hth j (by rw [Array.length_toList] at hj; omega)).1) (fun j hj => by simpa using (hth j (by rw [Array.length_toList] at hj; omega)).2) h1
  simp only [Nat.add_zero] at this
  cases hq : P.info? T with
  | none => simp [hq] at hn
  | some i =>
    have hs : i.size = n := by simpa [hq] using hn
    simp [Instr.storeAt, Instr.sureAddr, storeVar, sizeOf, typeInfo, hq, hs, hsz, this]
/-- A store into a variable, or into an element of a row. -/
theorem step_store {T : TypeId} {x y : Operand} (ho : o.op = .store T x y) {n : Nat} (hn : (P.info? T).map (·.size) = some n) {id i j : Nat} {ob : Ob} {r : List SV}
    (hx : s.ev x = .ref id i j) (hob : s.obj id = .ob ob) (hz : ob.fz = false) (hr : ob.rows[i]? = some r) (hy : ((s.ev y).cells.all SV.one) = true) (hl : (s.ev y).cells.length = n) (hm : j + n ≤ r.length) :
    Step P o (locO x ++ locO y ++ [.obj id]) ⟨o.dst, .v undef, [(id, .ob ⟨ob.m, ob.rows.set i (owr r j (s.ev y).cells), false⟩)]⟩ s := by
  intro f σ a w K Q hA hd ⟨g, hR⟩ hK
  have hob' : σ.obj id = .ob ob := by rw [agree_obj hA]; exact hob
  have h1 := hR.ev x
  rw [ev_agree hA.left.left, hx] at h1
  obtain ⟨b, hb, he⟩ := rep_ref h1
  have h2 := hR.ev y
  rw [ev_agree hA.left.right] at h2
  have hc := h2.cells
  obtain ⟨⟨b', cs, T', fr, k1, k2, k3, k4, k5, k6⟩, k7⟩ := hR.ob id ob hob'
  rw [hb] at k1
  obtain rfl := Option.some.inj k1
  obtain ⟨_, _, _, hHc⟩ := rep_refH h1 hb
  obtain ⟨k7, k2⟩ := k2.cells hHc
  obtain ⟨hrm, _⟩ := k3.get i r hr
  have hlen := k3.len
  have hi : i < ob.rows.length := (List.getElem?_eq_some_iff.1 hr).1
  have hbound : 0 < ob.m → g.o0 id + (i * ob.m + ob.m) ≤ cs.size := by
    have : (i + 1) * ob.m ≤ ob.rows.length * ob.m := Nat.mul_le_mul_right _ hi
    rw [Nat.succ_mul] at this
    rw [List.length_drop, Array.length_toList] at hlen
    omega
  have hsz : (a.eval y).cells.size = n := by rw [← Array.length_toList, hc.length, hl]
  have hth : w.there b (g.o0 id + (i * g.mm id + j)) n := fun q hq => by
    have hlt : g.o0 id + (i * g.mm id + j) + q < cs.size := by rw [k7]; have := hbound (by omega); omega
    refine ⟨?_, frozen_none k2 k4 _ hlt⟩
    rw [cell_of k2]
    simp [hlt]
  have hrun := run_store_any (P := P) hn hsz hth (hc.one hy)
  obtain ⟨q1, q2, q3, q4, q5, q6⟩ := setCells_heap b (a.eval y).cells.toList (g.o0 id + (i * g.mm id + j)) w cs T' fr k2
  unfold Oper.wp
  have hex : (execOp a.eval o).run P w = .ok .skip (w.setCells b (g.o0 id + (i * g.mm id + j)) (a.eval y).cells.toList) := by
    simp only [execOp, ho, he]
    simp [Sem.run_bind, hrun]
  rw [hex, Oper.upon_skip]
  refine hK _ _ ⟨g, ?_⟩
  have hT := hR.turn hob' hz hb k2 q1 (by simp [length_owr]) q2 q3 q4 q5 q6 (ob.rows.set i (owr r j (s.ev y).cells)) (by
    rw [k7, List.toList_toArray, drop_owr]
    exact RepR.owr (i := i) hc k3 j hr (by omega))
  exact Rel.put hT o.dst hd (.v _)

/-! ### New memory -/
theorem run_newVar {w : World} (T : TypeId) (v : Value) : (newVar T v).run P w = .ok ⟨w.heap.size, 0, none⟩ (w.alloc (.cells v.cells T)) := by
  rfl
theorem new_step {f : Fr} {σ : St} {a : Act} {w : World} {g : Gh} (hd : ∀ d, o.dst = some d → d < f.N) (hR : Rel f g σ a w) (id : Nat) (hid : σ.obj id = .never) (cs : Array Value) (T : TypeId) (m : Nat) (rows : List (List SV))
    (hr : RepR g w.heap cs.toList m rows) (v : Value) (sv : SV)
    (hv : ∀ g', g'.β id = some w.heap.size → g'.mm id = m → g'.o0 id = 0 → Rep g' (w.alloc (.cells cs T)).heap v sv) :
    R f (σ.app ⟨o.dst, sv, [(id, .ob ⟨m, rows, false⟩)]⟩) (a.put o.dst v) (w.alloc (.cells cs T)) := by
  have hn := hR.new id hid cs T (0, 0) m rows hr (fun i _ h => by omega)
  have hb0 := hR.never id hid
  refine ⟨_, Rel.put hn o.dst hd (hv _ (by show (if id = id then _ else _) = _; rw [if_pos rfl]) (by show (if id = id then _ else _) = _; rw [if_pos rfl]) (by show (if id = id then _ else _) = _; rw [if_pos rfl]))⟩
theorem RepR.row {g : Gh} {H : Array Go.Obj} {xs : List Value} {r : List SV} {m : Nat} (h : RepL g H xs r) (hm : r.length = m) : RepR g H xs m [r] := by
  rw [← hm, ← h.length]
  exact RepR.one h
/-- A variable. -/
theorem step_alloc {T : TypeId} (ho : o.op = .alloc T) {z : Value} (hz : (P.info? T).bind (·.zero) = some z) {id m : Nat} (hid : s.obj id = .never) (hm : z.cells.size = m) :
    Step P o [.obj id] ⟨o.dst, .ref id 0 0, [(id, .ob ⟨m, [z.cells.toList.map SV.v], false⟩)]⟩ s := by
  intro f σ a w K Q hA hd ⟨g, hR⟩ hK
  have hid' : σ.obj id = .never := by rw [hA.2 id (List.mem_singleton.2 rfl)]; exact hid
  have hrun : (execOp a.eval o).run P w = .ok (.value (.pointer (some ⟨w.heap.size, 0, none⟩))) (w.alloc (.cells z.cells T)) := by
    cases hq : P.info? T with
    | none => simp [hq] at hz
    | some i =>
      have hzz : i.zero = some z := by simpa [hq] using hz
      simp [execOp, ho, Instr.alloc, zeroValue, typeInfo, hq, hzz, run_newVar]
  unfold Oper.wp
  rw [hrun, Oper.upon_value]
  refine hK _ _ (new_step hd hR id hid' _ T m _ (RepR.row (repL_v _) (by simpa using hm)) _ _ fun g' h1 h2 h3 => ?_)
  have := Rep.ref (g := g') (H := (w.alloc (.cells z.cells T)).heap) (i := 0) (j := 0) h1 (by show (w.heap.push _)[w.heap.size]? = _; rw [Array.getElem?_push, if_pos rfl])
  rw [h3] at this
  simpa using this
theorem step_box {T : TypeId} {x : Operand} (ho : o.op = .box T x) {id m : Nat} (hid : s.obj id = .never) (hm : (s.ev x).cells.length = m) :
    Step P o (locO x ++ [.obj id]) ⟨o.dst, .ref id 0 0, [(id, .ob ⟨m, [(s.ev x).cells], false⟩)]⟩ s := by
  intro f σ a w K Q hA hd ⟨g, hR⟩ hK
  have hid' : σ.obj id = .never := by rw [agree_obj hA]; exact hid
  have h2 := hR.ev x
  rw [ev_agree hA.left] at h2
  have hrun : (execOp a.eval o).run P w = .ok (.value (.pointer (some ⟨w.heap.size, 0, none⟩))) (w.alloc (.cells (a.eval x).cells T)) := by
    simp [execOp, ho, Instr.box, run_newVar]
  unfold Oper.wp
  rw [hrun, Oper.upon_value]
  refine hK _ _ (new_step hd hR id hid' _ T m _ (RepR.row h2.cells hm) _ _ fun g' h1 h2 h3 => ?_)
  have := Rep.ref (g := g') (H := (w.alloc (.cells (a.eval x).cells T)).heap) (i := 0) (j := 0) h1 (by show (w.heap.push _)[w.heap.size]? = _; rw [Array.getElem?_push, if_pos rfl])
  rw [h3] at this
  simpa using this
/-- A row of zeros. -/
theorem step_makeSlice {T e : TypeId} {x y : Operand} (ho : o.op = .makeSlice T x y) (hu : P.underlying T = some (.slice e)) {i : TypeInfo} (hi : P.info? e = some i) {z : Value} (hz : i.zero = some z) {k : IntKind} {n : Int}
    (hx : s.ev x = .v (.int k n)) (hy : s.ev y = .v (.int k n)) (h0 : 0 ≤ n) (hb : (i.bytes : Int) * n ≤ 281474976710656) (h63 : n ≤ 9223372036854775807) (hs : z.cells.size = i.size) {id m : Nat} (hm : i.size = m) (hm0 : 0 < m) (hid : s.obj id = .never) :
    Step P o (locO x ++ locO y ++ [.obj id]) ⟨o.dst, .own id 0 n.toNat, [(id, .ob ⟨m, List.replicate n.toNat (z.cells.toList.map SV.v), false⟩)]⟩ s := by
  intro f σ a w K Q hA hd ⟨g, hR⟩ hK
  have hid' : σ.obj id = .never := by rw [agree_obj hA]; exact hid
  have e1 := ev_v hR hA.left.left hx
  have e2 := ev_v hR hA.left.right hy
  have hmk := run_make (P := P) w T e i z hu hi hz k k n n h0 (Int.le_refl _) hb h63
  have hrun : (execOp a.eval o).run P w = .ok (.value (.slice (some ⟨w.heap.size, 0, none⟩) n.toNat n.toNat)) (w.alloc (.cells (madeCells z.cells (n.toNat * i.size)) e)) := by
    simp [execOp, ho, e1, e2, hmk]
  unfold Oper.wp
  rw [hrun, Oper.upon_value]
  have hrep : ∀ q : Nat, RepR g w.heap (madeCells z.cells (q * m)).toList m (List.replicate q (z.cells.toList.map SV.v)) := by
    intro q
    have hlist : ∀ q : Nat, (madeCells z.cells (q * m)).toList = (List.replicate q z.cells.toList).flatten := by
      intro q
      apply List.ext_getElem?
      intro k
      have hfl : ∀ (q k : Nat), (List.replicate q z.cells.toList).flatten[k]? = if k < q * m then z.cells[k % m]? else none := by
        intro q
        induction q with
        | zero => intro k; simp
        | succ q ih =>
          intro k
          rw [List.replicate_succ, List.flatten_cons, List.getElem?_append]
          have hl : z.cells.toList.length = m := by rw [Array.length_toList, hs, hm]
          rw [hl]
          by_cases hk : k < m
          · rw [if_pos hk, if_pos (by rw [Nat.succ_mul]; omega), Nat.mod_eq_of_lt hk]
            simp
          · rw [if_neg hk, ih]
            by_cases hk2 : k - m < q * m
            · rw [if_pos hk2, if_pos (by rw [Nat.succ_mul]; omega), ← Nat.mod_eq_sub_mod (Nat.le_of_not_lt hk)]
            · rw [if_neg hk2, if_neg (by rw [Nat.succ_mul]; omega)]
      rw [hfl]
      simp only [madeCells, Array.toList_map, Array.toList_range, List.getElem?_map]
      by_cases hk : k < q * m
      · have hmod : k % m < z.cells.size := by rw [hs, hm]; exact Nat.mod_lt _ hm0
        rw [if_pos hk, List.getElem?_range hk]
        simp [hs, hm, getElem!_pos z.cells (k % m) hmod, hmod]
      · rw [if_neg hk]
        simp
        omega
    rw [hlist]
    induction q with
    | zero => exact .nil
    | succ q ih =>
      rw [List.replicate_succ, List.replicate_succ, List.flatten_cons]
      exact .cons (by rw [Array.length_toList, hs, hm]) (repL_v _) ih
  refine hK _ _ (new_step hd hR id hid' _ e m _ (by rw [hm]; exact hrep _) _ _ fun g' h1 h2 h3 => ?_)
  have hH : (w.alloc (.cells (madeCells z.cells (n.toNat * i.size)) e)).heap[w.heap.size]? = some (.cells (madeCells z.cells (n.toNat * i.size)) e (0, 0)) := by
    show (w.heap.push _)[w.heap.size]? = _
    rw [Array.getElem?_push, if_pos rfl]
  have := Rep.own (g := g') (lo := 0) (len := n.toNat) (cap := n.toNat) h1 (Nat.le_refl _) hH (by rw [h3, h2, size_madeCells, Nat.zero_add, Nat.zero_add, hm]; exact Nat.le_refl _)
  rw [h3] at this
  simpa using this
end
end Go.Proofs.YtmcflglkfgnbbaaDoor.Eng

/- Rows as lists: they are read, cut, appended to. -/
namespace Go.Proofs.YtmcflglkfgnbbaaDoor.Eng
open Go Go.RowKit
set_option linter.unusedVariables false
set_option linter.unusedSimpArgs false

theorem take_get0 {α : Type} {l : List α} {n k : Nat} {x : α} (h : (l.take n)[k]? = some x) : l[k]? = some x := by
  rw [List.getElem?_take] at h
  split at h
  · exact h
  · cases h
/-- What list a slot's slice is, and which objects tell it. -/
inductive LstOf (s : St) : SV → Nat → List (List SV) → List Loc → Prop where
  | own {id lo len : Nat} {ob : Ob} {rows : List (List SV)} (h : s.obj id = .ob ob) (hr : (ob.rows.drop lo).take len = rows) (hl : rows.length = len) : LstOf s (.own id lo len) ob.m rows [.obj id]
  | lst {m : Nat} {rows : List (List SV)} : LstOf s (.lst m rows) m rows []
  | nil {m : Nat} : LstOf s (.v (.slice none 0 0)) m [] []
theorem LstOf.agree {s σ : St} {sv : SV} {m : Nat} {rows : List (List SV)} {L : List Loc} (h : LstOf s sv m rows L) (hA : Agree L s σ) : LstOf σ sv m rows L := by
  cases h with
  | own h hr hl => exact .own (by rw [hA.2 _ (List.mem_singleton.2 rfl)]; exact h) hr hl
  | lst => exact .lst
  | nil => exact .nil
/-- The cells that a list's rows lie in. -/
structure LstAt (g : Gh) (w : World) (x : Value) (m : Nat) (rows : List (List SV)) (vs : List Value) : Prop where
  ex : ∃ A c, x = .slice A rows.length c ∧ ∀ j u, vs[j]? = some u → ∃ b off, A = some ⟨b, off, none⟩ ∧ w.cell? ⟨b, off + j, none⟩ = some u
  len : vs.length = rows.length * m
  rep : RepR g w.heap vs m rows
theorem rep_ownH {g : Gh} {H : Array Go.Obj} {x : Value} {id lo len : Nat} (h : Rep g H x (.own id lo len)) : ∀ b, g.β id = some b → ∃ cs T fr, H[b]? = some (.cells cs T fr) := fun b hb => by
  cases h with
  | own hb' hl hH hc =>
    rw [hb'] at hb
    obtain rfl := Option.some.inj hb
    exact ⟨_, _, _, hH⟩
theorem ObRep.cells {g : Gh} {w : World} {id : Nat} {o : Ob} (h : ObRep g w.heap id o) (lo len : Nat) {rows : List (List SV)} (hH : ∀ b, g.β id = some b → ∃ cs T fr, w.heap[b]? = some (.cells cs T fr)) (hr : (o.rows.drop lo).take len = rows) (hl : rows.length = len) :
    ∃ b vs, g.β id = some b ∧ vs.length = len * o.m ∧ RepR g w.heap vs o.m rows ∧ (∀ j u, vs[j]? = some u → w.cell? ⟨b, g.o0 id + lo * g.mm id + j, none⟩ = some u) := by
  obtain ⟨⟨b, cs, T, fr, k1, k2, k3, _⟩, k7⟩ := h
  obtain ⟨_, _, _, hHc⟩ := hH b k1
  obtain ⟨k7, k2⟩ := k2.cells hHc
  have hlen := k3.len
  have hlr : lo + len ≤ o.rows.length ∨ len = 0 := by
    have := congrArg List.length hr
    rw [List.length_take, List.length_drop, hl] at this
    omega
  have hle : lo ≤ o.rows.length ∨ len = 0 := by omega
  rcases Nat.eq_zero_or_pos len with h0 | hpos
  · subst h0
    have : rows = [] := List.eq_nil_of_length_eq_zero hl
    subst this
    exact ⟨b, [], k1, by simp, .nil, fun j u hj => by simp at hj⟩
  have hlr : lo + len ≤ o.rows.length := by omega
  have hd := (k3.drop lo (by omega)).take len
  rw [hr] at hd
  have hmul : (lo + len) * o.m ≤ o.rows.length * o.m := Nat.mul_le_mul_right _ hlr
  rw [Nat.add_mul] at hmul
  have hcut := RepR.left hd (len * o.m) (by rw [hl]; exact Nat.le_refl _)
  refine ⟨b, _, k1, ?_, hcut, fun j u hj => ?_⟩
  · rw [List.length_take, List.length_drop]
    omega
  · have hj := take_get0 hj
    rw [List.getElem?_drop, List.getElem?_drop] at hj
    rw [cell_of k2, k7]
    simpa [Nat.add_assoc] using hj
theorem LstOf.at {f : Fr} {g : Gh} {s : St} {a : Act} {w : World} (hR : Rel f g s a w) {x : Value} {sv : SV} {m : Nat} {rows : List (List SV)} {L : List Loc} (h : LstOf s sv m rows L) (hx : Rep g w.heap x sv) :
    ∃ vs, LstAt g w x m rows vs := by
  cases h with
  | @own id lo len ob rows h hr hl =>
    obtain ⟨b, vs, hb, hvl, hrep, hcell⟩ := (hR.ob id ob h).cells lo len (rep_ownH hx) hr hl
    cases hx with
    | own hb' hlc hH hc =>
      rw [hb] at hb'
      obtain rfl := Option.some.inj hb'
      exact ⟨vs, ⟨_, _, by rw [hl], fun j u hj => ⟨_, _, rfl, hcell j u hj⟩⟩, by rw [hvl, hl], hrep⟩
  | lst =>
    cases hx with
    | nil => exact ⟨[], ⟨_, _, rfl, fun j u hj => by simp at hj⟩, by simp, .nil⟩
    | @lst m b off n cap rows cs T fr hn hF hH hl hc hr =>
      have hle : rows.length * m ≤ cap * m := Nat.mul_le_mul_right _ (by omega)
      refine ⟨(cs.toList.drop off).take (rows.length * m), ⟨_, _, by rw [hn], fun j u hj => ⟨_, _, rfl, ?_⟩⟩, ?_, RepR.left hr _ (Nat.le_refl _)⟩
      · have hj := take_get0 hj
        rw [List.getElem?_drop] at hj
        rw [cell_of hH]
        simpa using hj
      · have hcs : cs.toList.length = cs.size := Array.length_toList
        rw [List.length_take, List.length_drop]
        omega
  | nil =>
    obtain rfl := rep_v hx
    exact ⟨[], ⟨none, 0, rfl, fun j u hj => by simp at hj⟩, by simp, .nil⟩

section
variable {P : Program} {o : Oper} {s : St}
theorem execOp_builtin {b : Builtin} {xs : Array Operand} {ts : Array TypeId} (ho : o.op = .call { callee := .builtin b, args := xs, argTypes := ts }) (ρ : Operand → Value) (w : World) :
    (execOp ρ o).run P w = (builtin b ts o.type (xs.map fun | .const _ => true | _ => false) (xs.map ρ)).run P w := by
  simp only [execOp, ho, resolve, invoke]
  rfl
/-- How many elements. -/
theorem step_len {x : Operand} {T e : TypeId} (ho : o.op = .call { callee := .builtin .len, args := #[x], argTypes := #[T] }) (hu : P.underlying T = some (.slice e)) {m : Nat} {rows : List (List SV)} {L : List Loc}
    (hx : LstOf s (s.ev x) m rows L) : Step P o (locO x ++ L) ⟨o.dst, .v (.int .i64 (rows.length : Int)), []⟩ s :=
  step_value fun g σ f a w hA hR => by
    have h1 := hR.ev x
    rw [ev_agree hA.left] at h1
    obtain ⟨vs, ⟨⟨A, c, he, _⟩, _, _⟩⟩ := LstOf.at hR (hx.agree hA.right) h1
    refine ⟨_, ?_, .v _⟩
    rw [execOp_builtin ho]
    simp [builtin, Builtin.len_, he, run_underlying hu, goInt]
/-- The address of a field. -/
theorem run_fieldAt {T : TypeId} {fs : Array Field} {k : Nat} {fl : Field} (hu : P.underlying T = some (.struct fs)) (hk : fs[k]? = some fl) {n : Nat} (hn : (P.info? fl.type).map (·.size) = some n) (hn0 : n ≠ 0) (b off : Nat) (w : World) :
    (Instr.fieldAt T (.pointer (some ⟨b, off, none⟩)) k).run P w = .ok (.pointer (some ⟨b, off + fl.offset, none⟩)) w := by
  cases hq : P.info? fl.type with
  | none => simp [hq] at hn
  | some i =>
    have hs : i.size = n := by simpa [hq] using hn
    simp [Instr.fieldAt, run_underlying hu, hk, Instr.sureAddr, fieldPlace, sizeOf, typeInfo, hq, hs, hn0, Addr.add_mid]
theorem step_fieldAddr {T : TypeId} {x : Operand} {k : Nat} {fs : Array Field} {fl : Field} (ho : o.op = .fieldAddr T x k) (hu : P.underlying T = some (.struct fs)) (hk : fs[k]? = some fl) {n : Nat} (hn : (P.info? fl.type).map (·.size) = some n) (hn0 : n ≠ 0)
    {id i j : Nat} (hx : s.ev x = .ref id i j) : Step P o (locO x) ⟨o.dst, .ref id i (j + fl.offset), []⟩ s :=
  step_value fun g σ f a w hA hR => by
    have h1 := hR.ev x
    rw [ev_agree hA, hx] at h1
    obtain ⟨b, hb, he⟩ := rep_ref h1
    obtain ⟨_, _, _, hHc⟩ := rep_refH h1 hb
    refine ⟨.pointer (some ⟨b, g.o0 id + (i * g.mm id + (j + fl.offset)), none⟩), ?_, .ref hb hHc⟩
    have hf := run_fieldAt hu hk hn hn0 b (g.o0 id + (i * g.mm id + j)) w
    rw [show g.o0 id + (i * g.mm id + j) + fl.offset = g.o0 id + (i * g.mm id + (j + fl.offset)) by omega] at hf
    simp only [execOp, ho, he]
    simp [Sem.run_bind, hf]
theorem step_fieldAddr_elt {T : TypeId} {x : Operand} {k : Nat} {fs : Array Field} {fl : Field} (ho : o.op = .fieldAddr T x k) (hu : P.underlying T = some (.struct fs)) (hk : fs[k]? = some fl) {n : Nat} (hn : (P.info? fl.type).map (·.size) = some n) (hn0 : n ≠ 0)
    {cells : List SV} {j : Nat} (hx : s.ev x = .elt cells j) : Step P o (locO x) ⟨o.dst, .elt cells (j + fl.offset), []⟩ s :=
  step_value fun g σ f a w hA hR => by
    have h1 := hR.ev x
    rw [ev_agree hA, hx] at h1
    generalize he : a.eval x = v at h1
    cases h1 with
    | @elt b off _ _ cs T' fr hF hH hj hr =>
      have hf := run_fieldAt hu hk hn hn0 b (off + j) w
      refine ⟨.pointer (some ⟨b, off + (j + fl.offset), none⟩), ?_, .elt hF hH hj hr⟩
      rw [Nat.add_assoc] at hf
      simp only [execOp, ho, he]
      simp [Sem.run_bind, hf]
/-- A field of a value. -/
theorem step_field {T : TypeId} {x : Operand} {k : Nat} {fs : Array Field} {fl : Field} {d : TypeDesc} (ho : o.op = .field T x k) (hu : P.underlying T = some (.struct fs)) (hk : fs[k]? = some fl) (hd : P.underlying fl.type = some d) (hrow : d.isRow = false)
    {cells : List SV} {sv : SV} (hx : s.ev x = .agg cells) (hj : cells[fl.offset]? = some sv) : Step P o (locO x) ⟨o.dst, sv, []⟩ s :=
  step_value fun g σ f a w hA hR => by
    have h1 := hR.ev x
    rw [ev_agree hA, hx] at h1
    generalize he : a.eval x = v at h1
    cases h1 with
    | @agg vs _ h =>
      obtain ⟨y, hy, hRy⟩ := h.get _ _ hj
      refine ⟨y, ?_, hRy⟩
      have hagg : (isAgg fl.type).run P w = .ok false w := by
        unfold isAgg
        rw [Sem.run_bind, run_underlying hd w]
        cases d <;> simp_all
      have hy' : vs[fl.offset]? = some y := by simpa using hy
      simp only [execOp, ho, he]
      simp [Instr.field, run_underlying hu, hk, asAgg, part, Sem.run_bind, hagg, hy']
theorem step_fields {T : TypeId} {x : Operand} {k : Nat} {fs : Array Field} {fl : Field} {d : TypeDesc} (ho : o.op = .field T x k) (hu : P.underlying T = some (.struct fs)) (hk : fs[k]? = some fl) (hd : P.underlying fl.type = some d) (hrow : d.isRow = true)
    {n : Nat} (hn : (P.info? fl.type).map (·.size) = some n) {cells cs' : List SV} (hx : s.ev x = .agg cells) (hj : (cells.drop fl.offset).take n = cs') : Step P o (locO x) ⟨o.dst, .agg cs', []⟩ s :=
  step_value fun g σ f a w hA hR => by
    have h1 := hR.ev x
    rw [ev_agree hA, hx] at h1
    generalize he : a.eval x = v at h1
    cases h1 with
    | @agg vs _ h =>
      have hagg : (isAgg fl.type).run P w = .ok true w := by
        unfold isAgg
        rw [Sem.run_bind, run_underlying hd w]
        cases d <;> simp_all
      cases hq : P.info? fl.type with
      | none => simp [hq] at hn
      | some i =>
        have hs : i.size = n := by simpa [hq] using hn
        refine ⟨.agg (vs.extract fl.offset (fl.offset + n)), ?_, .agg ?_⟩
        · simp only [execOp, ho, he]
          simp [Instr.field, run_underlying hu, hk, asAgg, part, Sem.run_bind, hagg, sizeOf, typeInfo, hq, hs]
        · rw [← hj]
          have := (h.drop fl.offset).take n
          rw [Array.toList_extract, List.extract_eq_take_drop, Nat.add_sub_cancel_left]
          exact this
/-- The address of an element. -/
theorem run_indexAt_in {T e : TypeId} (hu : P.underlying T = some (.slice e)) {m : Nat} (hm : (P.info? e).map (·.size) = some m) {b off len cap : Nat} {k : IntKind} {i : Int} (h0 : 0 ≤ i) (h1 : i < len) (w : World) :
    (Instr.indexAt T (.slice (some ⟨b, off, none⟩) len cap) (.int k i)).run P w = .ok (.pointer (some ⟨b, off + i.toNat * m, none⟩)) w := by
  cases hq : P.info? e with
  | none => simp [hq] at hm
  | some q =>
    have hs : q.size = m := by simpa [hq] using hm
    simp [Instr.indexAt, asIntOf, run_underlying hu, sizeOf, typeInfo, hq, hs, h0, h1, Addr.add_mid]
theorem step_index_own {T e : TypeId} {x y : Operand} (ho : o.op = .indexAddr T x y) (hu : P.underlying T = some (.slice e)) {m : Nat} (hm : (P.info? e).map (·.size) = some m) {id lo len : Nat} {ob : Ob} {k : IntKind} {i : Int}
    (hx : s.ev x = .own id lo len) (hob : s.obj id = .ob ob) (hom : ob.m = m) (hy : s.ev y = .v (.int k i)) (h0 : 0 ≤ i) (h1 : i < len) : Step P o (locO x ++ locO y ++ [.obj id]) ⟨o.dst, .ref id (lo + i.toNat) 0, []⟩ s :=
  step_value fun g σ f a w hA hR => by
    have hx1 := hR.ev x
    rw [ev_agree hA.left.left, hx] at hx1
    have hy1 := ev_v hR hA.left.right hy
    have hOb := hR.ob id ob (by rw [agree_obj hA]; exact hob)
    generalize he : a.eval x = v at hx1
    cases hx1 with
    | @own _ _ _ cap b cs T' fr hb hl hH hc =>
      have hmm : g.mm id = ob.m := by
        obtain ⟨⟨b', cs', T'', fr', k1, k2, _⟩, _⟩ := hOb
        rw [hb] at k1
        obtain rfl := Option.some.inj k1
        exact (k2.cells hH).1
      refine ⟨.pointer (some ⟨b, g.o0 id + ((lo + i.toNat) * g.mm id + 0), none⟩), ?_, .ref hb hH⟩
      have hrun := run_indexAt_in hu hm (b := b) (off := g.o0 id + lo * g.mm id) (len := len) (cap := cap) (k := k) h0 h1 w
      rw [show g.o0 id + lo * g.mm id + i.toNat * m = g.o0 id + ((lo + i.toNat) * g.mm id + 0) by rw [hmm, hom, Nat.add_mul]; omega] at hrun
      simp only [execOp, ho, he, hy1]
      simp [Sem.run_bind, hrun]
theorem step_index_lst {T e : TypeId} {x y : Operand} (ho : o.op = .indexAddr T x y) (hu : P.underlying T = some (.slice e)) {m : Nat} (hm : (P.info? e).map (·.size) = some m) {rows : List (List SV)} {r : List SV} {k : IntKind} {i : Int}
    (hx : s.ev x = .lst m rows) (hy : s.ev y = .v (.int k i)) (h0 : 0 ≤ i) (hr : rows[i.toNat]? = some r) : Step P o (locO x ++ locO y) ⟨o.dst, .elt r 0, []⟩ s :=
  step_value fun g σ f a w hA hR => by
    have hx1 := hR.ev x
    rw [ev_agree hA.left, hx] at hx1
    have hy1 := ev_v hR hA.right hy
    have hlt : i.toNat < rows.length := (List.getElem?_eq_some_iff.1 hr).1
    have h1 : i < (rows.length : Int) := by omega
    generalize he : a.eval x = v at hx1
    cases hx1 with
    | nil => simp at hr
    | @lst _ b off n cap _ cs T' fr hn hF hH hl hc hrr =>
      have hrun := run_indexAt_in hu hm (b := b) (off := off) (len := n) (cap := cap) (k := k) h0 (by omega) w
      obtain ⟨hrl, hrep⟩ := hrr.get _ _ hr
      have hmul : (i.toNat + 1) * m ≤ cap * m := Nat.mul_le_mul_right _ (by omega)
      rw [Nat.succ_mul] at hmul
      rw [List.drop_drop] at hrep
      refine ⟨.pointer (some ⟨b, off + i.toNat * m + 0, none⟩), ?_, .elt hF hH (by rw [hrl]; omega) (by rw [hrl]; exact hrep)⟩
      simp only [execOp, ho, he, hy1]
      simp [Sem.run_bind, hrun]
theorem step_nilCheck {x : Operand} (ho : o.op = .nilCheck x) {id i j : Nat} (hx : s.ev x = .ref id i j) : Step P o (locO x) ⟨o.dst, .ref id i j, []⟩ s :=
  step_value fun g σ f a w hA hR => by
    have h1 := hR.ev x
    rw [ev_agree hA, hx] at h1
    obtain ⟨b, hb, he⟩ := rep_ref h1
    exact ⟨a.eval x, by simp [execOp, ho, he], h1⟩
theorem step_nilCheck_elt {x : Operand} (ho : o.op = .nilCheck x) {cells : List SV} {j : Nat} (hx : s.ev x = .elt cells j) : Step P o (locO x) ⟨o.dst, .elt cells j, []⟩ s :=
  step_value fun g σ f a w hA hR => by
    have h1 := hR.ev x
    rw [ev_agree hA, hx] at h1
    obtain ⟨b, off, he, _⟩ := rep_elt h1
    exact ⟨a.eval x, by simp [execOp, ho, he], h1⟩
theorem step_extract {x : Operand} {k : Nat} (ho : o.op = .extract x k) {vs : List SV} {sv : SV} (hx : s.ev x = .tup vs) (hk : vs[k]? = some sv) : Step P o (locO x) ⟨o.dst, sv, []⟩ s :=
  step_value fun g σ f a w hA hR => by
    have h1 := hR.ev x
    rw [ev_agree hA, hx] at h1
    generalize he : a.eval x = v at h1
    cases h1 with
    | @tup vs' _ h =>
      obtain ⟨y, hy, hRy⟩ := h.get _ _ hk
      have hy' : vs'[k]? = some y := by simpa using hy
      refine ⟨y, ?_, hRy⟩
      simp only [execOp, ho, he]
      simp [Instr.extract, hy']
end
end Go.Proofs.YtmcflglkfgnbbaaDoor.Eng

/- Rows that are made, cut and appended to. -/
namespace Go.Proofs.YtmcflglkfgnbbaaDoor.Eng
open Go Go.RowKit
set_option linter.unusedVariables false
set_option linter.unusedSimpArgs false

theorem owr_eq {α : Type} : ∀ (cs l : List α) (k : Nat), k + cs.length ≤ l.length → owr l k cs = l.take k ++ cs ++ l.drop (k + cs.length)
  | [], l, k, h => by simp [owr]
  | c :: cs, l, k, h => by
    rw [List.length_cons] at h
    rw [owr, owr_eq cs _ _ (by rw [List.length_set]; omega), List.length_cons]
    have h1 : (l.set k c).take (k + 1) = l.take k ++ [c] := by
      rw [List.take_add_one, List.getElem?_set_self (by omega), List.take_set_of_le (Nat.le_refl _)]
      rfl
    have h2 : (l.set k c).drop (k + 1 + cs.length) = l.drop (k + (cs.length + 1)) := by
      rw [List.drop_set_of_lt (by omega)]
      congr 1
      omega
    rw [h1, h2]
    simp
/-- A block that nobody else tells of becomes an object. -/
theorem Rel.adopt {f : Fr} {g : Gh} {s : St} {a : Act} {w : World} (h : Rel f g s a w) (id : Nat) (hid : s.obj id = .never) {b off m : Nat} {cs : Array Value} {T : TypeId} {fr : Nat × Nat} (hH : w.heap[b]? = some (.cells cs T fr)) (rows : List (List SV))
    (hr : RepR g w.heap (cs.toList.drop off) m rows) (hfr : ∀ i, i ≤ cs.size → ¬ (fr.1 ≤ i ∧ i < fr.2)) (hF : ¬ g.F b) (hown : f.w0.heap.size ≤ b ∨ f.Wr b) (hno : ∀ i o, s.obj i = .ob o → o.fz = false → g.β i ≠ some b) :
    ∃ g', GExt g g' ∧ g'.β id = some b ∧ g'.o0 id = off ∧ g'.mm id = m ∧ g'.F = g.F ∧ Rel f g' (s.upd id (.ob ⟨m, rows, false⟩)) a w := by
  have hn := h.never id hid
  have hne : ∀ i b, g.β i = some b → i ≠ id := fun i b hb e => by rw [e, hn] at hb; cases hb
  refine ⟨{ g with β := fun i => if i = id then some b else g.β i, o0 := fun i => if i = id then off else g.o0 i, mm := fun i => if i = id then m else g.mm i }, ?_, by show (if id = id then _ else _) = _; rw [if_pos rfl], by show (if id = id then _ else _) = _; rw [if_pos rfl], by show (if id = id then _ else _) = _; rw [if_pos rfl], rfl, ?_⟩
  · exact ⟨fun i b hb => ⟨by show (if i = id then _ else _) = _; rw [if_neg (hne i b hb)]; exact hb, by show (if i = id then _ else _) = _; rw [if_neg (hne i b hb)], by show (if i = id then _ else _) = _; rw [if_neg (hne i b hb)]⟩, fun _ h => h⟩
  have hg : GExt g { g with β := fun i => if i = id then some b else g.β i, o0 := fun i => if i = id then off else g.o0 i, mm := fun i => if i = id then m else g.mm i } :=
    ⟨fun i b hb => ⟨by show (if i = id then _ else _) = _; rw [if_neg (hne i b hb)]; exact hb, by show (if i = id then _ else _) = _; rw [if_neg (hne i b hb)], by show (if i = id then _ else _) = _; rw [if_neg (hne i b hb)]⟩, fun _ h => h⟩
  have hobj : ∀ i o, (s.upd id (.ob ⟨m, rows, false⟩)).obj i = .ob o → (i = id ∧ o = ⟨m, rows, false⟩) ∨ (i ≠ id ∧ s.obj i = .ob o) := fun i o ho => by
    have ho : (if i = id then OS.ob ⟨m, rows, false⟩ else s.obj i) = .ob o := ho
    by_cases e : i = id
    · rw [if_pos e] at ho; exact .inl ⟨e, (OS.ob.inj ho).symm⟩
    · rw [if_neg e] at ho; exact .inr ⟨e, ho⟩
  refine { slot := fun t => (h.slot t).ext hg (Ext.refl _ _), size := h.size, defers := h.defers, never := ?_, ob := ?_, inj := ?_, own := ?_, base := h.base, hsize := h.hsize, F0 := h.F0, Fold := h.Fold, Flt := h.Flt, os := h.os, tape := h.tape, output := h.output, gext := h.gx hg, kept := h.kept, tb := h.tb.ext hg.F (Ext.refl _ _) }
  · intro i hi
    have hi : (if i = id then OS.ob ⟨m, rows, false⟩ else s.obj i) = .never := hi
    by_cases e : i = id
    · rw [if_pos e] at hi; cases hi
    · rw [if_neg e] at hi
      show (if i = id then _ else _) = _
      rw [if_neg e]
      exact h.never i hi
  · intro i o ho
    rcases hobj i o ho with ⟨rfl, rfl⟩ | ⟨e, ho⟩
    · exact ⟨⟨b, cs, T, fr, by show (if i = i then _ else _) = _; rw [if_pos rfl], .inl ⟨by show (if i = i then _ else _) = _; rw [if_pos rfl], hH⟩, by show RepR _ _ (cs.toList.drop (if i = i then off else g.o0 i)) _ _; rw [if_pos rfl]; exact hr.ext hg (Ext.refl _ _), hfr, fun e => (by cases e), fun _ => hF⟩, trivial⟩
    · exact ObRep.ext hg (fun b hb _ => .inl hb) (Ext.refl _ _) (fun b _ _ cs T fr _ hb => hb) (h.ob i o ho)
  · intro i j o o' b' ho ho' hz hz' hb hb'
    have hb : (if i = id then some b else g.β i) = some b' := hb
    have hb' : (if j = id then some b else g.β j) = some b' := hb'
    rcases hobj i o ho with ⟨rfl, rfl⟩ | ⟨e, ho1⟩ <;> rcases hobj j o' ho' with ⟨rfl, rfl⟩ | ⟨e', ho1'⟩
    · rfl
    · rw [if_pos rfl] at hb
      rw [if_neg e'] at hb'
      exact (hno j o' ho1' hz' (by rw [hb', hb])).elim
    · rw [if_pos rfl] at hb'
      rw [if_neg e] at hb
      exact (hno i o ho1 hz (by rw [hb, hb'])).elim
    · rw [if_neg e] at hb
      rw [if_neg e'] at hb'
      exact h.inj i j o o' b' ho1 ho1' hz hz' hb hb'
  · intro i o b' ho hz hb
    have hb : (if i = id then some b else g.β i) = some b' := hb
    rcases hobj i o ho with ⟨rfl, rfl⟩ | ⟨e, ho⟩
    · rw [if_pos rfl] at hb
      obtain rfl := Option.some.inj hb
      exact hown
    · rw [if_neg e] at hb
      exact h.own i o b' ho hz hb
theorem LstAt.ext {g g' : Gh} {w : World} (hg : GExt g g') {x : Value} {m : Nat} {rows : List (List SV)} {vs : List Value} (h : LstAt g w x m rows vs) : LstAt g' w x m rows vs := ⟨h.ex, h.len, h.rep.ext hg (Ext.refl _ _)⟩
theorem RepR.one_all {g : Gh} {H : Array Go.Obj} : ∀ {xs : List Value} {m : Nat} {rows : List (List SV)}, RepR g H xs m rows → xs.length = rows.length * m → (rows.all fun r => r.all SV.one) = true → ∀ v ∈ xs, v.oneCell' = true
  | xs, m, _, .nil, hl, _, v, hv => by
    have : xs = [] := List.eq_nil_of_length_eq_zero (by simpa using hl)
    rw [this] at hv
    cases hv
  | _, m, _, .cons (xs := xs) (ys := ys) (rows := rows) hm h t, hl, ho, v, hv => by
    rw [List.all_cons, Bool.and_eq_true] at ho
    rw [List.length_append, List.length_cons, Nat.succ_mul] at hl
    rcases List.mem_append.1 hv with hv | hv
    · exact h.one ho.1 v hv
    · exact t.one_all (by omega) ho.2 v hv
section
variable {P : Program} {o : Oper} {s : St}
theorem LstAt.src {g : Gh} {w : World} {x : Value} {m : Nat} {rows : List (List SV)} {vs : List Value} (h : LstAt g w x m rows vs) (hm : 0 < m) {tx e' : TypeId} (hk : P.underlying tx = some (.slice e')) (ho : (rows.all fun r => r.all SV.one) = true) :
    Src P m tx x rows.length vs w := by
  obtain ⟨⟨A, c, rfl, hc⟩, hl, hr⟩ := h
  have h1 := hr.one_all hl ho
  cases A with
  | some ad =>
    refine Src.ofSlice w hk ad rows.length c vs hl (fun j u hj => ?_) h1
    obtain ⟨b, off, e, hcell⟩ := hc j u hj
    rw [Option.some.inj e, Addr.add_mid]
    exact hcell
  | none =>
    have hv : vs = [] := by
      cases vs with
      | nil => rfl
      | cons v vs =>
        obtain ⟨b, off, e, _⟩ := hc 0 v rfl
        cases e
    subst hv
    have hn : rows.length = 0 := by
      rcases Nat.eq_zero_or_pos rows.length with h | h
      · exact h
      · have := Nat.mul_pos h hm
        simp at hl
        omega
    rw [hn]
    exact Src.ofNil w hk c
theorem exec_append {x y : Operand} {T Ty : TypeId} (ho : o.op = .call { callee := .builtin .append, args := #[x, y], argTypes := #[T, Ty] }) {ρ : Operand → Value} {w w' : World} {v : Value} (h : (Builtin.append_ #[T, Ty] o.type #[ρ x, ρ y]).run P w = .ok v w') :
    (execOp ρ o).run P w = .ok (.value v) w' := by
  simp [execOp, ho, resolve, invoke, builtin, Sem.run_bind, h]
theorem size_zeroCells (z : Array Value) (n : Nat) : (Builtin.zeroCells z n).size = n * z.size := by simp [Builtin.zeroCells]
/-- What an append comes to, where there is no room. -/
theorem grow_R {f : Fr} {g : Gh} {σ : St} {a : Act} {w : World} (hd : ∀ d, o.dst = some d → d < f.N) (hR : Rel f g σ a w) (id' : Nat) (hid : σ.obj id' = .never) (e : TypeId) (zc : Array Value) (m need sCap : Nat) (hzc : zc.size = m) (all : List Value) (rows : List (List SV))
    (hr : RepR g w.heap all m rows) (hl : all.length = need * m) :
    R f ((σ.upd id' (.ob ⟨m, rows, false⟩)).put o.dst (.own id' 0 need)) (a.put o.dst (.slice (some ⟨w.heap.size, 0, none⟩) need (grownCap w need sCap e)))
      (w.drew.alloc (.cells (all.toArray ++ Builtin.zeroCells zc (grownCap w need sCap e - need)) e)) := by
  have hR1 : Rel f g σ a w.drew := hR.drew rfl rfl rfl rfl
  have hge := grownCap_ge w need sCap e
  have hcs : (all.toArray ++ Builtin.zeroCells zc (grownCap w need sCap e - need)).size = grownCap w need sCap e * m := by
    rw [Array.size_append, size_zeroCells, hzc, List.size_toArray, hl, ← Nat.add_mul]
    congr 1
    omega
  have h := new_step (o := o) hd hR1 id' hid (all.toArray ++ Builtin.zeroCells zc (grownCap w need sCap e - need)) e m rows (by
    have := hr.more (Builtin.zeroCells zc (grownCap w need sCap e - need)).toList
    rw [Array.toList_append, List.toList_toArray]
    exact this) (.slice (some ⟨w.heap.size, 0, none⟩) need (grownCap w need sCap e)) (.own id' 0 need) (fun g' h1 h2 h3 => by
      have hH : (w.drew.alloc (.cells (all.toArray ++ Builtin.zeroCells zc (grownCap w need sCap e - need)) e)).heap[w.drew.heap.size]? = some (.cells (all.toArray ++ Builtin.zeroCells zc (grownCap w need sCap e - need)) e (0, 0)) := by
        show (w.heap.push _)[w.heap.size]? = _
        rw [Array.getElem?_push, if_pos rfl]
      have := Rep.own (g := g') (lo := 0) (len := need) (cap := grownCap w need sCap e) h1 hge hH (by rw [h3, h2, hcs]; simp)
      rw [h3] at this
      simpa using this)
  exact h
/-- An append to a row of our own. -/
theorem step_append {x y : Operand} {T Ty e e2 : TypeId} (ho : o.op = .call { callee := .builtin .append, args := #[x, y], argTypes := #[T, Ty] }) (hu : P.underlying T = some (.slice e)) (hu2 : P.underlying Ty = some (.slice e2))
    {i : TypeInfo} (hi : P.info? e = some i) {z : Value} (hz : i.zero = some z) (hzs : z.cells.size = i.size) {id id' lo len : Nat} {ob : Ob} {rx ry : List (List SV)} {L : List Loc} (him : i.size = ob.m) (hm0 : 0 < ob.m)
    (hx : s.ev x = .own id lo len) (hob : s.obj id = .ob ob) (hfz : ob.fz = false) (hrx : (ob.rows.drop lo).take len = rx) (hlx : rx.length = len) (hy : LstOf s (s.ev y) ob.m ry L) (hone : (ry.all fun r => r.all SV.one) = true) (honex : (rx.all fun r => r.all SV.one) = true)
    (hid : s.obj id' = .never) (hlim : (len + ry.length) * i.bytes ≤ 140737488355328) (h63 : len + ry.length ≤ 9223372036854775807) :
    Step P o (locO x ++ locO y ++ L ++ [.obj id] ++ [.obj id']) ⟨o.dst, .own id' 0 (len + ry.length), [(id, .dead), (id', .ob ⟨ob.m, rx ++ ry, false⟩)]⟩ s := by
  intro f σ a w K Q hA hd ⟨g, hR⟩ hK
  have hob' : σ.obj id = .ob ob := by rw [agree_obj hA.left]; exact hob
  have hid' : σ.obj id' = .never := by rw [agree_obj hA]; exact hid
  have hne : id' ≠ id := by rintro rfl; rw [hob'] at hid'; cases hid'
  have hx1 := hR.ev x
  rw [ev_agree hA.left.left.left.left, hx] at hx1
  have hy1 := hR.ev y
  rw [ev_agree hA.left.left.left.right] at hy1
  obtain ⟨ws, hws⟩ := LstOf.at hR (hy.agree hA.left.left.right) hy1
  have hsrc := hws.src hm0 hu2 hone
  obtain ⟨b, vs, hb, hvl, hvr, hvc⟩ := (hR.ob id ob hob').cells lo len (rep_ownH hx1) hrx hlx
  obtain ⟨⟨b', cs, T', fr, k1, k2, k3, k4, k5, k6⟩, k7⟩ := hR.ob id ob hob'
  rw [hb] at k1
  obtain rfl := Option.some.inj k1
  obtain ⟨_, _, _, hHc⟩ := rep_ownH hx1 _ hb
  obtain ⟨k7, k2⟩ := k2.cells hHc
  have hk : (σ.upd id .dead).obj id' = .never := by show (if id' = id then _ else _) = _; rw [if_neg hne]; exact hid'
  generalize hex : a.eval x = v at hx1
  generalize hey : a.eval y = v2 at hy1 hws hsrc
  unfold Oper.wp
  cases hx1 with
  | @own _ _ _ cap b2 cs2 T2 fr2 hb2 hlc hH2 hcap =>
    rw [hb] at hb2
    obtain rfl := Option.some.inj hb2
    rw [k2] at hH2
    obtain ⟨rfl, rfl, rfl⟩ := Go.Obj.cells.inj (Option.some.inj hH2)
    rw [k7] at hcap
    have hrows : (rx ++ ry).length = len + ry.length := by rw [List.length_append, hlx]
    have hmul : (lo + cap) * ob.m = lo * ob.m + cap * ob.m := Nat.add_mul ..
    by_cases hroom : len + ry.length ≤ cap
    · -- there is room
      have hm2 : (len + ry.length) * ob.m ≤ cap * ob.m := Nat.mul_le_mul_right _ hroom
      rw [Nat.add_mul] at hm2
      have hwl := hws.len
      have hat : ∀ j, j < ws.length → g.o0 id + lo * ob.m + len * ob.m + j < cs.size := fun j hj => by omega
      have hrun := run_append_room_src (P := P) w T Ty o.type e i hu hi b (g.o0 id + lo * g.mm id) len cap v2 ry.length ws (by rw [him]; exact hsrc) hroom
        (fun j hj => by rw [cell_of k2, k7, him]; simp [hat j hj]) (fun j hj => by rw [k7, him]; exact frozen_none k2 k4 _ (hat j hj))
      rw [exec_append ho (by rw [hex, hey]; exact hrun), Oper.upon_value]
      have hRk := hR.kill id
      have hdrop : cs.toList.drop (g.o0 id + lo * ob.m) = (cs.toList.drop (g.o0 id)).drop (lo * ob.m) := by rw [List.drop_drop]
      have hcsl : cs.toList.length = cs.size := Array.length_toList
      have hlo : lo ≤ ob.rows.length ∨ len = 0 := by
        have := congrArg List.length hrx
        rw [List.length_take, List.length_drop, hlx] at this
        omega
      have hrx1 : RepR g w.heap ((cs.toList.drop (g.o0 id + lo * ob.m)).take (len * ob.m)) ob.m rx := by
        rcases Nat.eq_zero_or_pos len with h0 | hp
        · have : rx = [] := List.eq_nil_of_length_eq_zero (by omega)
          rw [this]
          exact .nil
        · rw [hdrop]
          have := (k3.drop lo (by omega)).take len
          rw [hrx] at this
          exact RepR.left this _ (by rw [hlx]; exact Nat.le_refl _)
      have hrx2 : RepR g w.heap (cs.toList.drop (g.o0 id + lo * ob.m)) ob.m rx := by
        have := hrx1.more ((cs.toList.drop (g.o0 id + lo * ob.m)).drop (len * ob.m))
        rwa [List.take_append_drop] at this
      obtain ⟨g', hg, e1, e2, e3, e4, hRa⟩ := hRk.adopt id' hk k2 rx hrx2 k4 (k6 hfz) (hR.own id ob b hob' hfz hb) (fun i1 o1 h1 hz1 hb1 => by
        have h1' : (if i1 = id then OS.dead else σ.obj i1) = .ob o1 := h1
        by_cases e : i1 = id
        · rw [if_pos e] at h1'; cases h1'
        · rw [if_neg e] at h1'
          exact e (hR.inj i1 id o1 ob b h1' hob' hz1 hfz hb1 hb))
      obtain ⟨q1, q2, q3, q4, q5, q6⟩ := setCells_heap b ws (g.o0 id + lo * g.mm id + len * i.size) w cs T' fr k2
      have hnew : RepR g' w.heap ((owr cs.toList (g.o0 id + lo * g.mm id + len * i.size) ws).toArray.toList.drop (g'.o0 id')) ob.m (rx ++ ry) := by
        rw [e2, List.toList_toArray, k7, him, Nat.add_assoc _ (lo * ob.m), ← Nat.add_assoc (g.o0 id), drop_owr, owr_eq _ _ _ (by rw [List.length_drop, hcsl]; omega), List.append_assoc]
        have hl1 : ((cs.toList.drop (g.o0 id + lo * ob.m)).take (len * ob.m)).length = len * ob.m := by rw [List.length_take, List.length_drop, hcsl]; omega
        exact (hrx1.ext hg (Ext.refl _ _)).app (by rw [hl1, hlx]) ((hws.rep.ext hg (Ext.refl _ _)).more _)
      have hT := hRa.turn (id := id') (o := ⟨ob.m, rx, false⟩) (by show (if id' = id' then _ else _) = _; rw [if_pos rfl]) rfl e1 k2 q1 (by simp [length_owr]) q2 q3 q4 q5 q6 (rx ++ ry) hnew
      have hrep : Rep g' (w.setCells b (g.o0 id + lo * g.mm id + len * i.size) ws).heap (.slice (some ⟨b, g.o0 id + lo * g.mm id, none⟩) (len + ry.length) cap) (.own id' 0 (len + ry.length)) := by
        have := Rep.own (g := g') (lo := 0) (len := len + ry.length) (cap := cap) e1 hroom q1 (by rw [e2, e3]; simp [length_owr]; omega)
        rw [e2, k7.symm] at this
        simpa using this
      refine hK _ _ ⟨g', ?_⟩
      have hP := Rel.put hT o.dst hd hrep
      have hs : (((σ.upd id .dead).upd id' (.ob ⟨ob.m, rx, false⟩)).upd id' (.ob ⟨ob.m, rx ++ ry, false⟩)) = (σ.upd id .dead).upd id' (.ob ⟨ob.m, rx ++ ry, false⟩) := by
        unfold St.upd
        congr 1
        funext i1
        by_cases e : i1 = id'
        · simp [e]
        · simp [e]
      rw [hs] at hP
      exact hP
    · -- there is none
      have hold : (Builtin.firstCells i.size len (.slice (some ⟨b, g.o0 id + lo * g.mm id, none⟩) len cap)).run P w.drew = .ok vs.toArray w.drew :=
        run_firstCells_some w.drew i.size len _ len cap vs (by rw [hvl, him]) fun j u hj => by
          rw [Addr.add_mid]
          exact hvc j u hj
      have hrun := run_append_grow_src (P := P) w T Ty o.type e i z hu hi hz (some ⟨b, g.o0 id + lo * g.mm id, none⟩) len cap vs hold v2 ry.length ws (by rw [him]; exact hsrc) (by omega) (by omega) (growslice_fits (by omega) hlim)
      rw [exec_append ho (by rw [hex, hey]; exact hrun), Oper.upon_value]
      have hRk := hR.kill id
      have hwl := hws.len
      exact hK _ _ (grow_R hd hRk id' hk e z.cells ob.m (len + ry.length) cap (by rw [hzs, him]) (vs ++ ws) (rx ++ ry) (hvr.app (by rw [hvl, hlx]) hws.rep) (by rw [List.length_append, hvl, hwl, Nat.add_mul]))
/-- An append to nothing. -/
theorem step_append_nil {x y : Operand} {T Ty e e2 : TypeId} (ho : o.op = .call { callee := .builtin .append, args := #[x, y], argTypes := #[T, Ty] }) (hu : P.underlying T = some (.slice e)) (hu2 : P.underlying Ty = some (.slice e2))
    {i : TypeInfo} (hi : P.info? e = some i) {z : Value} (hz : i.zero = some z) (hzs : z.cells.size = i.size) {id' m : Nat} {ry : List (List SV)} {L : List Loc} (him : i.size = m) (hm0 : 0 < m)
    (hx : s.ev x = .v (.slice none 0 0)) (hy : LstOf s (s.ev y) m ry L) (hone : (ry.all fun r => r.all SV.one) = true) (hpos : 0 < ry.length)
    (hid : s.obj id' = .never) (hlim : ry.length * i.bytes ≤ 140737488355328) (h63 : ry.length ≤ 9223372036854775807) :
    Step P o (locO x ++ locO y ++ L ++ [.obj id']) ⟨o.dst, .own id' 0 ry.length, [(id', .ob ⟨m, ry, false⟩)]⟩ s := by
  intro f σ a w K Q hA hd ⟨g, hR⟩ hK
  have hid' : σ.obj id' = .never := by rw [agree_obj hA]; exact hid
  have hx1 := ev_v hR hA.left.left.left hx
  have hy1 := hR.ev y
  rw [ev_agree hA.left.left.right] at hy1
  obtain ⟨ws, hws⟩ := LstOf.at hR (hy.agree hA.left.right) hy1
  have hsrc := hws.src hm0 hu2 hone
  have hwl := hws.len
  generalize hey : a.eval y = v2 at hy1 hws hsrc
  unfold Oper.wp
  have hrun := run_append_grow_src (P := P) w T Ty o.type e i z hu hi hz none 0 0 [] (run_firstCells_none w.drew i.size 0 0 0) v2 ry.length ws (by rw [him]; exact hsrc) (by omega) (by omega) (growslice_fits (by omega) (by simpa using hlim))
  rw [Nat.zero_add, List.nil_append] at hrun
  rw [exec_append ho (by rw [hx1, hey]; exact hrun), Oper.upon_value]
  exact hK _ _ (grow_R hd hR id' hid' e z.cells m ry.length 0 (by rw [hzs, him]) ws ry hws.rep hwl)
/-- An append of nothing to nothing. -/
theorem step_append_nil_nil {x y : Operand} {T Ty e e2 : TypeId} (ho : o.op = .call { callee := .builtin .append, args := #[x, y], argTypes := #[T, Ty] }) (hu : P.underlying T = some (.slice e)) (hu2 : P.underlying Ty = some (.slice e2))
    {i : TypeInfo} (hi : P.info? e = some i) {m : Nat} {L : List Loc} (him : i.size = m) (hm0 : 0 < m)
    (hx : s.ev x = .v (.slice none 0 0)) (hy : LstOf s (s.ev y) m [] L) : Step P o (locO x ++ locO y ++ L) ⟨o.dst, .v (.slice none 0 0), []⟩ s :=
  step_value fun g σ f a w hA hR => by
    have hx1 := ev_v hR hA.left.left hx
    have hy1 := hR.ev y
    rw [ev_agree hA.left.right] at hy1
    obtain ⟨ws, hws⟩ := LstOf.at hR (hy.agree hA.right) hy1
    have hsrc := hws.src (P := P) hm0 hu2 rfl
    generalize hey : a.eval y = v2 at hy1 hws hsrc
    refine ⟨_, exec_append ho ?_, .v _⟩
    rw [hx1, hey]
    have hl := hsrc.len
    have hc := hsrc.cells
    simp at hl hc
    simp [Builtin.append_, run_underlying hu, run_underlying hu2, sizeOf, typeInfo, hi, him, hl, hc]
end
end Go.Proofs.YtmcflglkfgnbbaaDoor.Eng

/- Regions: in the text's order, and in whatever order their edges leave. -/
namespace Go.Proofs.YtmcflglkfgnbbaaDoor.Eng
open Go Go.RowKit
set_option linter.unusedVariables false
set_option linter.unusedSimpArgs false

/-- As `Step`, of the i-th operation of a region, its guard with it. -/
def GStep (P : Program) (ops : Array Oper) (i : Nat) (L : List Loc) (e : Eff) (s : St) : Prop :=
  ∀ (f : Fr) (σ : St) (a : Act) (w : World) (K : Act → World → Prop) (Q : Exit → Act → World → Prop), Agree L s σ → (∀ o d, ops[i]? = some o → o.dst = some d → d < f.N) → R f σ a w →
    (∀ a' w', R f (σ.app e) a' w' → K a' w') → wpOp P ops Q i K a w
section
variable {P : Program} {ops : Array Oper} {i : Nat} {o : Oper} {s : St} {L : List Loc} {e : Eff}
theorem GStep.of (hi : ops[i]? = some o) (hg : o.guard = none) (h : Step P o L e s) : GStep P ops i L e s := by
  intro f σ a w K Q hA hd hR hK
  unfold wpOp
  rw [hi]
  have hw : Region.wanted o (yielded ops a.tmps) = true := by simp [Region.wanted, hg]
  simp only [hw, if_true]
  exact .inl (h f σ a w K Q hA (hd o · hi) hR hK)
theorem yielded_of {f : Fr} {g : Gh} {σ : St} {a : Act} {w : World} (hR : Rel f g σ a w) {j t : Nat} {c : Bool} (ht : (ops[j]?).bind (·.dst) = some t) (hs : σ.slot t = .v (.bool c)) : yielded ops a.tmps j = some c := by
  have h1 := hR.slot t
  rw [hs] at h1
  have h2 := rep_v h1
  unfold yielded
  rw [ht]
  cases hq : a.tmps[t]? with
  | none =>
    rw [Array.getD_eq_getD_getElem?, hq] at h2
    cases h2
  | some v =>
    rw [Array.getD_eq_getD_getElem?, hq] at h2
    simp only [Option.getD_some] at h2
    simp [hq, h2]
theorem GStep.guard {j t : Nat} {b : Bool} (hi : ops[i]? = some o) (hg : o.guard = some (j, b)) (ht : (ops[j]?).bind (·.dst) = some t) (hs : s.slot t = .v (.bool b)) (h : Step P o L e s) : GStep P ops i (.slot t :: L) e s := by
  intro f σ a w K Q hA hd hR hK
  unfold wpOp
  rw [hi]
  have hw : Region.wanted o (yielded ops a.tmps) = true := by
    obtain ⟨g, hg'⟩ := hR
    simp [Region.wanted, hg, yielded_of hg' ht (by rw [hA.1 t List.mem_cons_self, hs])]
  simp only [hw, if_true]
  exact .inl (h f σ a w K Q (hA.of_mem fun y hy => List.mem_cons_of_mem _ hy) (hd o · hi) hR hK)
theorem GStep.off {j t : Nat} {b c : Bool} (hi : ops[i]? = some o) (hg : o.guard = some (j, b)) (ht : (ops[j]?).bind (·.dst) = some t) (hs : s.slot t = .v (.bool c)) (hc : c ≠ b) : GStep P ops i [.slot t] ⟨o.dst, .v undef, []⟩ s := by
  intro f σ a w K Q hA hd hR hK
  obtain ⟨g, hR⟩ := hR
  unfold wpOp
  rw [hi]
  have hw : Region.wanted o (yielded ops a.tmps) = false := by
    simp [Region.wanted, hg, yielded_of hR ht (by rw [hA.1 t List.mem_cons_self, hs]), hc]
  simp only [hw, Bool.false_eq_true, if_false]
  exact hK _ _ ⟨g, hR.put o.dst (hd o · hi) (.v _)⟩
end

/-- The operations from the i-th on, in the text's order: what each looks at and leaves. -/
inductive Chain (P : Program) (ops : Array Oper) : Nat → St → List (List Loc × Eff) → St → Prop where
  | nil {i : Nat} {s : St} : Chain P ops i s [] s
  | cons {i : Nat} {s s' : St} {L : List Loc} {e : Eff} {l : List (List Loc × Eff)} (h : GStep P ops i L e s) (t : Chain P ops (i + 1) (s.app e) l s') : Chain P ops i s ((L, e) :: l) s'

def dstsOk (N : Nat) (ops : Array Oper) : Bool := ops.toList.all fun o => match o.dst with | some d => decide (d < N) | none => true
theorem dstsOk.of {N : Nat} {ops : Array Oper} (h : dstsOk N ops = true) (i : Nat) (o : Oper) (d : Nat) (hi : ops[i]? = some o) (hd : o.dst = some d) : d < N := by
  have hm : o ∈ ops.toList := by
    have := Array.mem_of_getElem? hi
    simpa using this
  have := List.all_eq_true.1 h o hm
  rw [hd] at this
  simpa using this
section
variable {P : Program} {ops : Array Oper}
theorem Chain.inText {f : Fr} (hd : dstsOk f.N ops = true) {Q : Exit → Act → World → Prop} : ∀ {i : Nat} {s s' : St} {l : List (List Loc × Eff)}, Chain P ops i s l s' → ∀ {a : Act} {w : World}, R f s a w → (∀ a' w', R f s' a' w' → Q .normal a' w') →
    wpOps P ops Q (List.range' i l.length) a w
  | _, _, _, _, .nil, a, w, hR, hQ => hQ _ _ hR
  | i, _, _, _, .cons h t, a, w, hR, hQ => by
    rw [List.length_cons, List.range'_succ, wpOps_cons]
    exact h f _ a w _ Q (Agree.refl _ _) (dstsOk.of hd i) hR fun a' w' hR' => t.inText hd hR' hQ

/-! ### In any order -/
/-- What is at a place. -/
def St.at (s : St) : Loc → SV ⊕ OS
  | .slot t => .inl (s.slot t)
  | .obj i => .inr (s.obj i)
theorem St.ext_at {s s' : St} (h : ∀ l, s.at l = s'.at l) : s = s' := by
  cases s with
  | mk sl ob =>
    cases s' with
    | mk sl' ob' =>
      have h1 : sl = sl' := funext fun t => Sum.inl.inj (h (.slot t))
      have h2 : ob = ob' := funext fun t => Sum.inr.inj (h (.obj t))
      rw [h1, h2]
def wrO : List (Nat × OS) → Nat → Option OS
  | [], _ => none
  | (j, x) :: l, i => (wrO l i).or (if i = j then some x else none)
def Eff.wr (e : Eff) : Loc → Option (SV ⊕ OS)
  | .slot t => if e.dst = some t then some (.inl e.v) else none
  | .obj i => (wrO e.ob i).map .inr
theorem upds_obj : ∀ (l : List (Nat × OS)) (s : St) (i : Nat), (s.upds l).obj i = (wrO l i).getD (s.obj i)
  | [], s, i => rfl
  | (j, x) :: l, s, i => by
    rw [St.upds, upds_obj l, wrO]
    cases wrO l i with
    | some y => rfl
    | none =>
      show (if i = j then x else s.obj i) = _
      by_cases h : i = j
      · rw [if_pos h, if_pos h]; rfl
      · rw [if_neg h, if_neg h]; rfl
theorem upds_slot : ∀ (l : List (Nat × OS)) (s : St) (t : Nat), (s.upds l).slot t = s.slot t
  | [], s, t => rfl
  | (j, x) :: l, s, t => by rw [St.upds, upds_slot l]; rfl
theorem at_app (s : St) (e : Eff) (l : Loc) : (s.app e).at l = (e.wr l).getD (s.at l) := by
  cases l with
  | slot t =>
    show Sum.inl (if e.dst = some t then e.v else (s.upds e.ob).slot t) = _
    rw [upds_slot]
    unfold Eff.wr
    by_cases h : e.dst = some t
    · simp [h]
    · simp [h]; rfl
  | obj i =>
    show Sum.inr ((s.upds e.ob).obj i) = _
    rw [upds_obj]
    show _ = ((wrO e.ob i).map Sum.inr).getD (.inr (s.obj i))
    cases wrO e.ob i <;> rfl
def Eff.locs (e : Eff) : List Loc := (match e.dst with | some d => [.slot d] | none => []) ++ e.ob.map fun x => .obj x.1
theorem wrO_mem : ∀ (l : List (Nat × OS)) (i : Nat) (x : OS), wrO l i = some x → i ∈ l.map (·.1)
  | [], i, x, h => by cases h
  | (j, y) :: l, i, x, h => by
    rw [wrO] at h
    cases hw : wrO l i with
    | some z => exact List.mem_cons_of_mem _ (wrO_mem l i z hw)
    | none =>
      rw [hw] at h
      by_cases e : i = j
      · rw [e]; exact List.mem_cons_self
      · rw [if_neg e] at h; cases h
theorem wr_mem {e : Eff} {l : Loc} {x : SV ⊕ OS} (h : e.wr l = some x) : l ∈ e.locs := by
  unfold Eff.locs
  cases l with
  | slot t =>
    unfold Eff.wr at h
    by_cases e1 : e.dst = some t
    · rw [e1]; exact List.mem_append_left _ (List.mem_singleton.2 rfl)
    · simp [e1] at h
  | obj i =>
    unfold Eff.wr at h
    obtain ⟨y, hy, _⟩ := Option.map_eq_some_iff.1 h
    have := wrO_mem e.ob i y hy
    obtain ⟨z, hz, rfl⟩ := List.mem_map.1 this
    exact List.mem_append_right _ (List.mem_map.2 ⟨z, hz, rfl⟩)
theorem wr_none {e : Eff} {l : Loc} (h : l ∉ e.locs) : e.wr l = none := by
  cases hw : e.wr l with
  | none => rfl
  | some x => exact (h (wr_mem hw)).elim
/-- The effects of those that were done, in the text's order. -/
def foldE (S : Nat → Bool) : Nat → List (List Loc × Eff) → St → St
  | _, [], s => s
  | i, (_, e) :: l, s => foldE S (i + 1) l (if S i then s.app e else s)
def lastW (S : Nat → Bool) (loc : Loc) : Nat → List (List Loc × Eff) → Option (SV ⊕ OS)
  | _, [] => none
  | i, (_, e) :: l => (lastW S loc (i + 1) l).or (if S i then e.wr loc else none)
theorem at_foldE (S : Nat → Bool) (loc : Loc) : ∀ (l : List (List Loc × Eff)) (i : Nat) (s : St), (foldE S i l s).at loc = (lastW S loc i l).getD (s.at loc)
  | [], i, s => rfl
  | (L, e) :: l, i, s => by
    rw [foldE, lastW, at_foldE S loc l]
    cases lastW S loc (i + 1) l with
    | some x => rfl
    | none =>
      show (if S i = true then s.app e else s).at loc = ((if S i = true then e.wr loc else none) : Option _).getD _
      by_cases h : S i = true
      · rw [if_pos h, if_pos h, at_app]
      · rw [if_neg h, if_neg h]; rfl
theorem lastW_congr {S S' : Nat → Bool} {loc : Loc} : ∀ (l : List (List Loc × Eff)) (i : Nat), (∀ k L e, l[k]? = some (L, e) → loc ∈ e.locs → S (i + k) = S' (i + k)) → lastW S loc i l = lastW S' loc i l
  | [], i, h => rfl
  | (L, e) :: l, i, h => by
    rw [lastW, lastW, lastW_congr l (i + 1) fun k L e hk hm => by
      have h1 := h (k + 1) L e (by simpa using hk) hm
      have e1 : i + (k + 1) = i + 1 + k := by omega
      exact e1 ▸ h1]
    by_cases hm : loc ∈ e.locs
    · have := h 0 L e rfl hm
      rw [Nat.add_zero] at this
      rw [this]
    · rw [wr_none hm]
      simp
theorem lastW_last {S : Nat → Bool} {loc : Loc} : ∀ (l : List (List Loc × Eff)) (i j : Nat) (L : List Loc) (e : Eff) (x : SV ⊕ OS), l[j]? = some (L, e) → e.wr loc = some x → S (i + j) = true →
    (∀ k L e, l[k]? = some (L, e) → j < k → S (i + k) = true → loc ∉ e.locs) → lastW S loc i l = some x
  | (L, e) :: l, i, 0, L', e', x, hj, hx, hS, hno => by
    simp only [List.getElem?_cons_zero, Option.some.injEq, Prod.mk.injEq] at hj
    obtain ⟨rfl, rfl⟩ := hj
    have hrest : lastW S loc (i + 1) l = none := by
      have hz : ∀ (l : List (List Loc × Eff)) (m : Nat), (∀ k L e, l[k]? = some (L, e) → S (m + k) = true → loc ∉ e.locs) → lastW S loc m l = none := by
        intro l
        induction l with
        | nil => intro m h; rfl
        | cons p l ih =>
          intro m h
          obtain ⟨L, e⟩ := p
          rw [lastW, ih (m + 1) fun k L e hk hS => h (k + 1) L e (by simpa using hk) (by rwa [show m + (k + 1) = m + 1 + k by omega])]
          by_cases hm : S m = true
          · rw [if_pos hm, wr_none (h 0 L e rfl (by rwa [Nat.add_zero]))]; rfl
          · rw [if_neg hm]; rfl
      exact hz l (i + 1) fun k L e hk hS => hno (k + 1) L e (by simpa using hk) (by omega) (by rwa [show i + (k + 1) = i + 1 + k by omega])
    rw [lastW, hrest, if_pos (by rwa [Nat.add_zero] at hS), hx]
    rfl
  | (L, e) :: l, i, j + 1, L', e', x, hj, hx, hS, hno => by
    rw [lastW, lastW_last l (i + 1) j L' e' x (by simpa using hj) hx (by rwa [show i + 1 + j = i + (j + 1) by omega]) fun k L e hk hlt hS => hno (k + 1) L e (by simpa using hk) (by omega) (by rwa [show i + (k + 1) = i + 1 + k by omega])]
    rfl

/-- Which of them come ahead of which: a table, and that it says no more than the edges do. -/
def okTab (ops : Array Oper) (B : List Nat) : Bool := (List.range ops.size).all fun k => (List.range k).all fun i => !(B.getD k 0).testBit i ||
  match ops[k]? with
  | some o => o.after.toList.any fun e => Region.binds .any e && (e.on == i || (decide (i < e.on) && decide (e.on < k) && (B.getD e.on 0).testBit i))
  | none => false
def disj (A B : List Loc) : Bool := A.all fun x => !B.contains x
def indepOk (B : List Nat) (l : List (List Loc × Eff)) : Bool := (List.range l.length).all fun k => (List.range k).all fun i => (B.getD k 0).testBit i ||
  match l[i]?, l[k]? with
  | some (Li, ei), some (Lk, ek) => disj ei.locs Lk && disj ei.locs ek.locs && disj ek.locs Li
  | _, _ => true
theorem disj_spec {A B : List Loc} (h : disj A B = true) {x : Loc} (hx : x ∈ A) : x ∉ B := by
  have := List.all_eq_true.1 h x hx
  simpa using this
/-- Whoever was done had those ahead of it done. -/
def Closed (ops : Array Oper) (S : Nat → Bool) : Prop := ∀ k o, ops[k]? = some o → S k = true → ∀ e ∈ o.after, Region.binds .any e = true → S e.on = true
theorem tab_closed {ops : Array Oper} {B : List Nat} (h : okTab ops B = true) {S : Nat → Bool} (hS : ∀ k o, ops[k]? = some o → S k = true → ∀ e ∈ o.after, Region.binds .any e = true → S e.on = true) :
    ∀ (k i : Nat), k < ops.size → i < k → (B.getD k 0).testBit i = true → (∀ o, ops[k]? = some o → ∀ e ∈ o.after, Region.binds .any e = true → S e.on = true) → S i = true := by
  intro k
  induction k using Nat.strongRecOn with
  | _ k ih =>
    intro i hk hi hb hdir
    have h1 := List.all_eq_true.1 h k (List.mem_range.2 hk)
    have h2 := List.all_eq_true.1 h1 i (List.mem_range.2 hi)
    rw [hb] at h2
    obtain ⟨o, ho⟩ : ∃ o, ops[k]? = some o := ⟨ops[k], Array.getElem?_eq_getElem hk⟩
    rw [ho] at h2
    simp only [Bool.not_true, Bool.false_or, List.any_eq_true, Bool.and_eq_true, Bool.or_eq_true, beq_iff_eq, decide_eq_true_eq] at h2
    obtain ⟨e, he, hbd, h3⟩ := h2
    have hSe := hdir o ho e (by simpa using he) hbd
    rcases h3 with rfl | ⟨⟨h5, hlt⟩, h4⟩
    · exact hSe
    · exact ih e.on hlt i (by omega) h5 h4 fun o' ho' => hS e.on o' ho' hSe
theorem Chain.step : ∀ {i : Nat} {s s' : St} {l : List (List Loc × Eff)}, Chain P ops i s l s' → ∀ (j : Nat) (L : List Loc) (e : Eff), l[j]? = some (L, e) → GStep P ops (i + j) L e (foldE (fun k => decide (k < i + j)) i l s)
  | i, s, _, _, .cons (L := L0) (e := e0) (l := l) h t, 0, L, e, hj => by
    simp only [List.getElem?_cons_zero, Option.some.injEq, Prod.mk.injEq] at hj
    obtain ⟨rfl, rfl⟩ := hj
    have : ∀ (l : List (List Loc × Eff)) (m : Nat) (s : St), i ≤ m → foldE (fun k => decide (k < i + 0)) m l s = s := by
      intro l
      induction l with
      | nil => intro m s hm; rfl
      | cons p l ih =>
        intro m s hm
        obtain ⟨L, e⟩ := p
        rw [foldE, if_neg (by simp; omega)]
        exact ih (m + 1) s (by omega)
    rw [this _ _ _ (Nat.le_refl _)]
    exact h
  | i, s, _, _, .cons (L := L0) (e := e0) (l := l) h t, j + 1, L, e, hj => by
    rw [foldE, if_pos (by simp), show i + (j + 1) = i + 1 + j by omega]
    exact t.step j L e (by simpa using hj)
theorem Chain.last : ∀ {i : Nat} {s s' : St} {l : List (List Loc × Eff)}, Chain P ops i s l s' → ∀ (S : Nat → Bool), (∀ k, i ≤ k → k < i + l.length → S k = true) → foldE S i l s = s'
  | _, _, _, _, .nil, S, h => rfl
  | i, _, _, _, .cons (l := l) _ t, S, h => by
    rw [foldE, if_pos (h i (Nat.le_refl _) (by rw [List.length_cons]; omega))]
    exact t.last S fun k h1 h2 => h k (by omega) (by rw [List.length_cons]; omega)
theorem indep_spec {B : List Nat} {l : List (List Loc × Eff)} (h : indepOk B l = true) {i k : Nat} {Li Lk : List Loc} {ei ek : Eff} (hi : l[i]? = some (Li, ei)) (hk : l[k]? = some (Lk, ek)) (hlt : i < k) (hb : (B.getD k 0).testBit i = false) :
    (∀ x ∈ ei.locs, x ∉ Lk) ∧ (∀ x ∈ ei.locs, x ∉ ek.locs) ∧ (∀ x ∈ ek.locs, x ∉ Li) := by
  have hkl : k < l.length := (List.getElem?_eq_some_iff.1 hk).1
  have h1 := List.all_eq_true.1 h k (List.mem_range.2 hkl)
  have h2 := List.all_eq_true.1 h1 i (List.mem_range.2 hlt)
  rw [hb, hi, hk] at h2
  simp only [Bool.false_or, Bool.and_eq_true] at h2
  exact ⟨fun x hx => disj_spec h2.1.1 hx, fun x hx => disj_spec h2.1.2 hx, fun x hx => disj_spec h2.2 hx⟩
/-- THE REGION, IN WHATEVER ORDER ITS EDGES LEAVE. -/
theorem Chain.any {f : Fr} (hd : dstsOk f.N ops = true) {s s' : St} {l : List (List Loc × Eff)} (hc : Chain P ops 0 s l s') (hl : l.length = ops.size) {B : List Nat} (hB : okTab ops B = true) (hI : indepOk B l = true) {Q : Exit → Act → World → Prop}
    (hedge : ∀ k o, ops[k]? = some o → ∀ e ∈ o.after, Region.binds .any e = true → e.on < k) :
    ∀ (fuel : Nat) (listed : Array Bool), listed.size = ops.size → Closed ops (fun k => listed.getD k false) → (List.range ops.size).countP (fun k => !listed.getD k false) ≤ fuel → ∀ {a : Act} {w : World}, R f (foldE (fun k => listed.getD k false) 0 l s) a w → (∀ a' w', R f s' a' w' → Q .normal a' w') →
      wpAny P .any ops Q fuel listed a w := by
  -- where nothing is ready all is done
  have hdone : ∀ listed : Array Bool, listed.size = ops.size → Region.ready .any ops listed = [] → ∀ k, k < ops.size → listed.getD k false = true := by
    intro listed hsz hr k
    induction k using Nat.strongRecOn with
    | _ k ih =>
      intro hk
      by_cases h : listed.getD k false = true
      · exact h
      · have hin : k ∈ Region.ready .any ops listed := by
          rw [mem_ready]
          refine ⟨?_, ops[k], Array.getElem?_eq_getElem hk, fun e he hb => ?_⟩
          · rw [Array.getD_eq_getD_getElem?] at h ⊢
            have : k < listed.size := by omega
            simp [this] at h ⊢
            exact h
          · have hlt := hedge k _ (Array.getElem?_eq_getElem hk) e he hb
            exact ih e.on hlt (by omega)
        rw [hr] at hin
        cases hin
  intro fuel
  induction fuel with
  | zero =>
    intro listed hsz hcl hcount a w hR hQ
    have hall : ∀ k, k < ops.size → listed.getD k false = true := fun k hk => by
      have := List.countP_eq_zero.1 (Nat.le_zero.1 hcount) k (List.mem_range.2 hk)
      simpa using this
    refine ⟨?_, hQ _ _ ?_⟩
    · cases hr : Region.ready .any ops listed with
      | nil => rfl
      | cons k t =>
        have hk : k ∈ Region.ready .any ops listed := by rw [hr]; exact List.mem_cons_self
        obtain ⟨h1, o, ho, _⟩ := mem_ready.1 hk
        have hlt := (Array.getElem?_eq_some_iff.1 ho).1
        have h2 := hall k hlt
        rw [Array.getD_eq_getD_getElem?] at h1 h2
        have : k < listed.size := by omega
        simp [this] at h1 h2
        rw [h1] at h2
        cases h2
    · rw [hc.last _ fun k _ hk => hall k (by omega)] at hR
      exact hR
  | succ fuel ih =>
    intro listed hsz hcl hcount a w hR hQ
    refine ⟨fun hr => ?_, fun i hi => ?_⟩
    · rw [hc.last _ fun k _ hk => hdone listed hsz hr k (by omega)] at hR
      exact hQ _ _ hR
    · obtain ⟨h0, o, ho, hpre⟩ := mem_ready.1 hi
      have hlt := (Array.getElem?_eq_some_iff.1 ho).1
      have hil : listed.getD i false = false := by
        rw [Array.getD_eq_getD_getElem?] at h0 ⊢
        have : i < listed.size := by omega
        simp [this] at h0 ⊢
        exact h0
      obtain ⟨⟨L, e⟩, hle⟩ : ∃ p, l[i]? = some p := ⟨l[i]'(by omega), List.getElem?_eq_getElem (by omega)⟩
      have hst := hc.step i L e hle
      rw [Nat.zero_add] at hst
      have hS := hcl
      -- those that are told to be ahead of i are done; those that i is told to be ahead of are not
      have hbef : ∀ k, k < i → (B.getD i 0).testBit k = true → listed.getD k false = true := fun k hk hb =>
        tab_closed hB hS i k hlt hk hb fun o' ho' => by
          rw [ho] at ho'
          obtain rfl := Option.some.inj ho'
          exact hpre
      have haft : ∀ k, i < k → k < ops.size → (B.getD k 0).testBit i = true → listed.getD k false = false := fun k hk hks hb => by
        cases hlk : listed.getD k false with
        | false => rfl
        | true =>
          have := tab_closed hB hS k i hks hk hb fun o' ho' => hS k o' ho' hlk
          rw [hil] at this
          cases this
      have hag : Agree L (foldE (fun k => decide (k < i)) 0 l s) (foldE (fun k => listed.getD k false) 0 l s) := by
        have key : ∀ loc ∈ L, (foldE (fun k => listed.getD k false) 0 l s).at loc = (foldE (fun k => decide (k < i)) 0 l s).at loc := by
          intro loc hloc
          rw [at_foldE, at_foldE, lastW_congr l 0 fun k Lk ek hk hm => ?_]
          rw [Nat.zero_add]
          have hkl : k < l.length := (List.getElem?_eq_some_iff.1 hk).1
          rcases Nat.lt_trichotomy k i with h | h | h
          · show listed.getD k false = decide (k < i)
            rw [decide_eq_true h]
            cases hb : (B.getD i 0).testBit k with
            | true => exact hbef k h hb
            | false => exact absurd hloc ((indep_spec hI hk hle h hb).1 loc hm)
          · subst h
            rw [hle] at hk
            obtain ⟨rfl, rfl⟩ := Prod.mk.inj (Option.some.inj hk)
            show listed.getD k false = decide (k < k)
            rw [hil]
            simp
          · show listed.getD k false = decide (k < i)
            rw [decide_eq_false (by omega)]
            cases hb : (B.getD k 0).testBit i with
            | true => exact haft k h (by omega) hb
            | false => exact absurd hloc ((indep_spec hI hle hk h hb).2.2 loc hm)
        exact ⟨fun t ht => Sum.inl.inj (key (.slot t) ht), fun j hj => Sum.inr.inj (key (.obj j) hj)⟩
      refine hst f _ a w _ Q hag (fun o' d ho' hd' => dstsOk.of hd i o' d ho' hd') hR fun a' w' hR' => ?_
      refine ih (listed.setIfInBounds i true) (by simp [hsz]) ?_ ?_ ?_ hQ
      · intro k o' ho' hk e' he' hb'
        have hk : (listed.setIfInBounds i true).getD k false = true := hk
        show (listed.setIfInBounds i true).getD e'.on false = true
        by_cases hki : k = i
        · subst hki
          rw [ho] at ho'
          obtain rfl := Option.some.inj ho'
          exact getD_set_true (hpre e' he' hb')
        · rw [getD_set_ne false (Ne.symm hki)] at hk
          exact getD_set_true (hcl k o' ho' hk e' he' hb')
      · have hdec : (List.range ops.size).countP (fun k => !(listed.setIfInBounds i true).getD k false) < (List.range ops.size).countP (fun k => !listed.getD k false) := by
          have hgen : ∀ (l : List Nat), i ∈ l → l.Nodup → l.countP (fun k => !(listed.setIfInBounds i true).getD k false) < l.countP (fun k => !listed.getD k false) := by
            intro l
            induction l with
            | nil => intro h _; cases h
            | cons x l ihl =>
              intro hm hnd
              rw [List.countP_cons, List.countP_cons]
              rw [List.nodup_cons] at hnd
              have hle : ∀ l : List Nat, l.countP (fun k => !(listed.setIfInBounds i true).getD k false) ≤ l.countP (fun k => !listed.getD k false) := by
                intro l
                refine List.countP_mono_left fun y _ hy => ?_
                by_cases hyi : y = i
                · rw [hyi, hil]; rfl
                · rwa [getD_set_ne false (Ne.symm hyi)] at hy
              rcases List.mem_cons.1 hm with rfl | hm
              · have h1 := hle l
                have h2 : (listed.setIfInBounds i true).getD i false = true := by
                  have : i < listed.size := by omega
                  simp [this]
                rw [h2, hil]
                simp only [Bool.not_true, Bool.not_false, Bool.false_eq_true, if_false, if_true]
                omega
              · have h1 := ihl hm hnd.2
                have hxi : x ≠ i := fun h => hnd.1 (h ▸ hm)
                rw [getD_set_ne false (Ne.symm hxi)]
                omega
          exact hgen _ (List.mem_range.2 hlt) List.nodup_range
        omega
      · have heq : (foldE (fun k => listed.getD k false) 0 l s).app e = foldE (fun k => (listed.setIfInBounds i true).getD k false) 0 l s := by
          apply St.ext_at
          intro loc
          have hself : (listed.setIfInBounds i true).getD i false = true := by
            have : i < listed.size := by omega
            simp [this]
          rw [at_app]
          cases hw : e.wr loc with
          | some x =>
            show x = _
            rw [at_foldE, lastW_last l 0 i L e x hle hw (by rw [Nat.zero_add]; exact hself) fun k Lk ek hk hlt' hSk hm => ?_]
            · rfl
            · rw [Nat.zero_add] at hSk
              have hkl : k < l.length := (List.getElem?_eq_some_iff.1 hk).1
              rw [getD_set_ne false (by omega)] at hSk
              cases hb : (B.getD k 0).testBit i with
              | true => rw [haft k hlt' (by omega) hb] at hSk; cases hSk
              | false => exact (indep_spec hI hle hk hlt' hb).2.1 loc (wr_mem hw) hm
          | none =>
            show (foldE _ 0 l s).at loc = _
            rw [at_foldE, at_foldE, lastW_congr l 0 fun k Lk ek hk hm => ?_]
            rw [Nat.zero_add]
            show listed.getD k false = (listed.setIfInBounds i true).getD k false
            by_cases hki : k = i
            · subst hki
              rw [hle] at hk
              obtain ⟨rfl, rfl⟩ := Prod.mk.inj (Option.some.inj hk)
              cases loc with
              | slot t =>
                unfold Eff.locs at hm
                unfold Eff.wr at hw
                rcases List.mem_append.1 hm with h | h
                · cases hd' : e.dst with
                  | none => rw [hd'] at h; cases h
                  | some d =>
                    rw [hd'] at h hw
                    have := List.mem_singleton.1 h
                    cases this
                    simp at hw
                · obtain ⟨z, _, hz⟩ := List.mem_map.1 h
                  cases hz
              | obj j =>
                unfold Eff.locs at hm
                unfold Eff.wr at hw
                rcases List.mem_append.1 hm with h | h
                · cases hd' : e.dst with
                  | none => rw [hd'] at h; cases h
                  | some d => rw [hd'] at h; have := List.mem_singleton.1 h; cases this
                · obtain ⟨z, hz1, hz⟩ := List.mem_map.1 h
                  obtain rfl := Loc.obj.inj hz
                  have hn : ∀ (ob : List (Nat × OS)), z ∈ ob → wrO ob z.1 ≠ none := by
                    intro ob
                    induction ob with
                    | nil => intro h; cases h
                    | cons y ob iho =>
                      intro h hnn
                      obtain ⟨yj, yx⟩ := y
                      rw [wrO] at hnn
                      rcases List.mem_cons.1 h with rfl | h
                      · cases hq : wrO ob yj with
                        | none => simp [hq] at hnn
                        | some q => simp [hq] at hnn
                      · cases hq : wrO ob z.1 with
                        | none => exact iho h hq
                        | some q => rw [hq] at hnn; cases hnn
                  have hw : (wrO e.ob z.1).map (Sum.inr (α := SV)) = none := hw
                  have : wrO e.ob z.1 = none := by
                    cases hq : wrO e.ob z.1 with
                    | none => rfl
                    | some q => rw [hq] at hw; cases hw
                  exact (hn e.ob hz1 this).elim
            · rw [getD_set_ne false (Ne.symm hki)]
        rw [← heq]
        exact hR'
end
end Go.Proofs.YtmcflglkfgnbbaaDoor.Eng


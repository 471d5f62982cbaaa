/- States that are told by lists and numbers, and how the machine's memory holds them. -/
import Derived.Below
import Derived.Orders
namespace Go.Proofs.YtcbbpidnocgoiaaDoor.Eng
open Go Go.RowKit
set_option linter.unusedVariables false
set_option linter.unusedSimpArgs false

/-- Blocks that hold a table that nobody ever writes. -/
def tab0 : Array Value := #[.int .u8 0, .int .u8 1, .int .u8 56, .int .u8 2, .int .u8 57, .int .u8 49, .int .u8 28, .int .u8 3, .int .u8 61, .int .u8 58, .int .u8 42, .int .u8 50, .int .u8 38, .int .u8 29, .int .u8 17, .int .u8 4, .int .u8 62, .int .u8 47, .int .u8 59, .int .u8 36, .int .u8 45, .int .u8 43, .int .u8 51, .int .u8 22, .int .u8 53, .int .u8 39, .int .u8 33, .int .u8 30, .int .u8 24, .int .u8 18, .int .u8 12, .int .u8 5, .int .u8 63, .int .u8 55, .int .u8 48, .int .u8 27, .int .u8 60, .int .u8 41, .int .u8 37, .int .u8 16, .int .u8 46, .int .u8 35, .int .u8 44, .int .u8 21, .int .u8 52, .int .u8 32, .int .u8 23, .int .u8 11, .int .u8 54, .int .u8 26, .int .u8 40, .int .u8 15, .int .u8 34, .int .u8 20, .int .u8 31, .int .u8 10, .int .u8 25, .int .u8 14, .int .u8 19, .int .u8 9, .int .u8 13, .int .u8 8, .int .u8 7, .int .u8 6]
def tabs : List (Nat × Array Value) := [(0, tab0)]
/-- What a slot, or a cell, is told to hold. -/
inductive SV where
  | v (x : Value)
  | ref (id i j : Nat)
  | own (id lo len : Nat)
  | lst (m : Nat) (rows : List (List SV))
  | agg (cells : List SV)
  | tup (vs : List SV)
  | elt (cells : List SV) (j : Nat)
instance : Inhabited SV := ⟨.v (.tuple #[])⟩

/-- A row of cells, or a variable: its element's cells, what it holds, whether it is never written again. -/
structure Ob where
  m : Nat
  rows : List (List SV)
  fz : Bool
inductive OS where
  | never
  | dead
  | ob (o : Ob)
instance : Inhabited OS := ⟨.never⟩
structure St where
  slot : Nat → SV
  obj : Nat → OS

/-- Where things lie: the block of each object, from which cell on, how many cells its element has, which blocks are never written again. -/
structure Gh where
  β : Nat → Option Nat
  o0 : Nat → Nat
  mm : Nat → Nat
  F : Nat → Prop

mutual
inductive Rep (g : Gh) (H : Array Go.Obj) : Value → SV → Prop where
  | v (x : Value) : Rep g H x (.v x)
  | ref {id i j b : Nat} (hb : g.β id = some b) : Rep g H (.pointer (some ⟨b, g.o0 id + (i * g.mm id + j), none⟩)) (.ref id i j)
  | own {id lo len cap b : Nat} {cs : Array Value} {T : TypeId} {fr : Nat × Nat} (hb : g.β id = some b) (hl : len ≤ cap) (hH : H[b]? = some (.cells cs T fr)) (hc : g.o0 id + (lo + cap) * g.mm id ≤ cs.size) :
      Rep g H (.slice (some ⟨b, g.o0 id + lo * g.mm id, none⟩) len cap) (.own id lo len)
  | nil {m c : Nat} {A : Option Addr} : Rep g H (.slice A 0 c) (.lst m [])
  | lst {m b off n cap : Nat} {rows : List (List SV)} {cs : Array Value} {T : TypeId} {fr : Nat × Nat} (hn : n = rows.length) (hF : g.F b) (hH : H[b]? = some (.cells cs T fr)) (hl : n ≤ cap)
      (hc : off + cap * m ≤ cs.size) (hr : RepR g H (cs.toList.drop off) m rows) : Rep g H (.slice (some ⟨b, off, none⟩) n cap) (.lst m rows)
  | agg {vs : Array Value} {ss : List SV} (h : RepL g H vs.toList ss) : Rep g H (.agg vs) (.agg ss)
  | tup {vs : Array Value} {ss : List SV} (h : RepL g H vs.toList ss) : Rep g H (.tuple vs) (.tup ss)
  | elt {b off j : Nat} {cells : List SV} {cs : Array Value} {T : TypeId} {fr : Nat × Nat} (hF : g.F b) (hH : H[b]? = some (.cells cs T fr)) (hj : off + cells.length ≤ cs.size)
      (hr : RepL g H ((cs.toList.drop off).take cells.length) cells) : Rep g H (.pointer (some ⟨b, off + j, none⟩)) (.elt cells j)
inductive RepL (g : Gh) (H : Array Go.Obj) : List Value → List SV → Prop where
  | nil : RepL g H [] []
  | cons {x : Value} {s : SV} {xs : List Value} {ss : List SV} (h : Rep g H x s) (t : RepL g H xs ss) : RepL g H (x :: xs) (s :: ss)
inductive RepR (g : Gh) (H : Array Go.Obj) : List Value → Nat → List (List SV) → Prop where
  | nil {xs : List Value} {m : Nat} : RepR g H xs m []
  | cons {xs ys : List Value} {m : Nat} {r : List SV} {rows : List (List SV)} (hm : xs.length = m) (h : RepL g H xs r) (t : RepR g H ys m rows) : RepR g H (xs ++ ys) m (r :: rows)
end

/-- What may become of memory: nothing goes, no block changes its length, what is never written again stays. -/
structure Ext (F : Nat → Prop) (H H' : Array Go.Obj) : Prop where
  cells : ∀ b cs T fr, H[b]? = some (.cells cs T fr) → ∃ cs' fr', H'[b]? = some (.cells cs' T fr') ∧ cs'.size = cs.size ∧ (F b → cs' = cs)
structure GExt (g g' : Gh) : Prop where
  β : ∀ id b, g.β id = some b → g'.β id = some b ∧ g'.mm id = g.mm id ∧ g'.o0 id = g.o0 id
  F : ∀ b, g.F b → g'.F b

mutual
theorem Rep.ext {g g' : Gh} {H H' : Array Go.Obj} (hg : GExt g g') (hH : Ext g.F H H') : ∀ {x : Value} {s : SV}, Rep g H x s → Rep g' H' x s
  | _, _, .v x => .v x
  | _, _, @Rep.ref _ _ id i j b hb => by
    obtain ⟨h1, h2, h3⟩ := hg.β _ _ hb
    rw [← h2, ← h3]
    exact .ref h1
  | _, _, @Rep.own _ _ id lo len cap b cs T fr hb hl h hc => by
    obtain ⟨h1, h2, h5⟩ := hg.β _ _ hb
    obtain ⟨cs', fr', h3, h4, _⟩ := hH.cells _ _ _ _ h
    rw [← h2, ← h5] at hc ⊢
    exact .own h1 hl h3 (by omega)
  | _, _, .nil => .nil
  | _, _, @Rep.lst _ _ m b off n cap rows cs T fr hn hF h hl hc hr => by
    obtain ⟨cs', fr', h3, h4, h5⟩ := hH.cells _ _ _ _ h
    obtain rfl := h5 hF
    exact .lst hn (hg.F _ hF) h3 hl hc (RepR.ext hg hH hr)
  | _, _, .agg h => .agg (RepL.ext hg hH h)
  | _, _, .tup h => .tup (RepL.ext hg hH h)
  | _, _, @Rep.elt _ _ b off j cells cs T fr hF h hj hr => by
    obtain ⟨cs', fr', h3, h4, h5⟩ := hH.cells _ _ _ _ h
    obtain rfl := h5 hF
    exact .elt (hg.F _ hF) h3 hj (RepL.ext hg hH hr)
theorem RepL.ext {g g' : Gh} {H H' : Array Go.Obj} (hg : GExt g g') (hH : Ext g.F H H') : ∀ {xs : List Value} {ss : List SV}, RepL g H xs ss → RepL g' H' xs ss
  | _, _, .nil => .nil
  | _, _, .cons h t => .cons (Rep.ext hg hH h) (RepL.ext hg hH t)
theorem RepR.ext {g g' : Gh} {H H' : Array Go.Obj} (hg : GExt g g') (hH : Ext g.F H H') : ∀ {xs : List Value} {m : Nat} {rows : List (List SV)}, RepR g H xs m rows → RepR g' H' xs m rows
  | _, _, _, .nil => .nil
  | _, _, _, .cons hm h t => .cons hm (RepL.ext hg hH h) (RepR.ext hg hH t)
end

theorem RepL.length {g : Gh} {H : Array Go.Obj} : ∀ {xs : List Value} {ss : List SV}, RepL g H xs ss → xs.length = ss.length
  | _, _, .nil => rfl
  | _, _, .cons _ t => by rw [List.length_cons, List.length_cons, t.length]
theorem RepL.get {g : Gh} {H : Array Go.Obj} : ∀ {xs : List Value} {ss : List SV}, RepL g H xs ss → ∀ (j : Nat) (s : SV), ss[j]? = some s → ∃ x, xs[j]? = some x ∧ Rep g H x s
  | _, _, .nil, j, s, h => by simp at h
  | _, _, .cons (x := x) h t, 0, s, hs => by
    simp only [List.getElem?_cons_zero, Option.some.injEq] at hs
    exact ⟨x, rfl, hs ▸ h⟩
  | _, _, .cons h t, j + 1, s, hs => by
    simp only [List.getElem?_cons_succ] at hs ⊢
    exact t.get j s hs
theorem RepL.set {g : Gh} {H : Array Go.Obj} : ∀ {xs : List Value} {ss : List SV}, RepL g H xs ss → ∀ (j : Nat) {x : Value} {s : SV}, Rep g H x s → RepL g H (xs.set j x) (ss.set j s)
  | _, _, .nil, j, _, _, _ => by rw [List.set_nil, List.set_nil]; exact .nil
  | _, _, .cons h t, 0, _, _, hx => by rw [List.set_cons_zero, List.set_cons_zero]; exact .cons hx t
  | _, _, .cons h t, j + 1, _, _, hx => by rw [List.set_cons_succ, List.set_cons_succ]; exact .cons h (t.set j hx)
theorem RepL.app {g : Gh} {H : Array Go.Obj} : ∀ {xs : List Value} {ss : List SV}, RepL g H xs ss → ∀ {ys : List Value} {ts : List SV}, RepL g H ys ts → RepL g H (xs ++ ys) (ss ++ ts)
  | _, _, .nil, _, _, h => h
  | _, _, .cons h t, _, _, k => .cons h (t.app k)
theorem RepL.take {g : Gh} {H : Array Go.Obj} : ∀ {xs : List Value} {ss : List SV}, RepL g H xs ss → ∀ n, RepL g H (xs.take n) (ss.take n)
  | _, _, .nil, n => by rw [List.take_nil, List.take_nil]; exact .nil
  | _, _, .cons h t, 0 => .nil
  | _, _, .cons h t, n + 1 => .cons h (t.take n)
theorem RepL.drop {g : Gh} {H : Array Go.Obj} : ∀ {xs : List Value} {ss : List SV}, RepL g H xs ss → ∀ n, RepL g H (xs.drop n) (ss.drop n)
  | _, _, .nil, n => by rw [List.drop_nil, List.drop_nil]; exact .nil
  | _, _, .cons h t, 0 => .cons h t
  | _, _, .cons h t, n + 1 => t.drop n
theorem RepL.of_get {g : Gh} {H : Array Go.Obj} : ∀ {xs : List Value} {ss : List SV}, xs.length = ss.length → (∀ (j : Nat) (x : Value) (s : SV), xs[j]? = some x → ss[j]? = some s → Rep g H x s) → RepL g H xs ss
  | [], [], _, _ => .nil
  | x :: xs, s :: ss, hl, h => .cons (h 0 x s rfl rfl) (RepL.of_get (by simpa using hl) fun j y t hy ht => h (j + 1) y t hy ht)
  | [], _ :: _, hl, _ => by simp at hl
  | _ :: _, [], hl, _ => by simp at hl
/-- Rows, by their places. -/
theorem RepR.get {g : Gh} {H : Array Go.Obj} : ∀ {xs : List Value} {m : Nat} {rows : List (List SV)}, RepR g H xs m rows → ∀ (i : Nat) (r : List SV), rows[i]? = some r → r.length = m ∧ RepL g H ((xs.drop (i * m)).take m) r
  | _, _, _, .nil, i, r, h => by simp at h
  | _, m, _, .cons (xs := xs) (ys := ys) hm h t, 0, r, hr => by
    simp only [List.getElem?_cons_zero, Option.some.injEq] at hr
    subst hr
    rw [Nat.zero_mul, List.drop_zero, List.take_left' hm]
    exact ⟨by rw [← h.length, hm], h⟩
  | _, m, _, .cons (xs := xs) (ys := ys) hm h t, i + 1, r, hr => by
    simp only [List.getElem?_cons_succ] at hr
    obtain ⟨h1, h2⟩ := t.get i r hr
    refine ⟨h1, ?_⟩
    rw [Nat.succ_mul, Nat.add_comm, ← List.drop_drop, List.drop_left' hm]
    exact h2
theorem RepR.len {g : Gh} {H : Array Go.Obj} : ∀ {xs : List Value} {m : Nat} {rows : List (List SV)}, RepR g H xs m rows → rows.length * m ≤ xs.length
  | _, _, _, .nil => by simp
  | _, m, _, .cons (rows := rows) hm h t => by
    have := t.len
    rw [List.length_cons, List.length_append, Nat.succ_mul]
    omega
theorem RepR.cell {g : Gh} {H : Array Go.Obj} {xs : List Value} {m : Nat} {rows : List (List SV)} (h : RepR g H xs m rows) {i j : Nat} {r : List SV} {s : SV} (hi : rows[i]? = some r) (hj : r[j]? = some s) :
    ∃ x, xs[i * m + j]? = some x ∧ Rep g H x s := by
  obtain ⟨h1, h2⟩ := h.get i r hi
  obtain ⟨x, hx, hR⟩ := h2.get j s hj
  refine ⟨x, ?_, hR⟩
  rw [List.getElem?_take] at hx
  split at hx
  · rw [List.getElem?_drop] at hx
    exact hx
  · cases hx
/-- One cell is written. -/
theorem RepR.set {g : Gh} {H : Array Go.Obj} : ∀ {xs : List Value} {m : Nat} {rows : List (List SV)}, RepR g H xs m rows → ∀ {i j : Nat} {r : List SV} {x : Value} {s : SV}, rows[i]? = some r → j < m → Rep g H x s →
    RepR g H (xs.set (i * m + j) x) m (rows.set i (r.set j s))
  | _, _, _, .nil, i, j, r, x, s, h, _, _ => by simp at h
  | _, m, _, .cons (xs := xs) (ys := ys) hm h t, 0, j, r, x, s, hr, hj, hx => by
    simp only [List.getElem?_cons_zero, Option.some.injEq] at hr
    subst hr
    rw [Nat.zero_mul, Nat.zero_add, List.set_append_left _ _ (by omega), List.set_cons_zero]
    exact .cons (by rw [List.length_set]; exact hm) (h.set j hx) t
  | _, m, _, .cons (xs := xs) (ys := ys) hm h t, i + 1, j, r, x, s, hr, hj, hx => by
    simp only [List.getElem?_cons_succ] at hr
    have he : (i + 1) * m + j = xs.length + (i * m + j) := by rw [Nat.succ_mul]; omega
    rw [he, List.set_append_right _ _ (by omega), List.set_cons_succ, Nat.add_sub_cancel_left]
    exact .cons hm h (t.set hr hj hx)
/-- Rows of a longer row. -/
theorem RepR.more {g : Gh} {H : Array Go.Obj} : ∀ {xs : List Value} {m : Nat} {rows : List (List SV)}, RepR g H xs m rows → ∀ ys, RepR g H (xs ++ ys) m rows
  | _, _, _, .nil, ys => .nil
  | _, _, _, .cons hm h t, ys => by rw [List.append_assoc]; exact .cons hm h (t.more ys)
theorem RepR.app {g : Gh} {H : Array Go.Obj} : ∀ {xs : List Value} {m : Nat} {rows : List (List SV)}, RepR g H xs m rows → xs.length = rows.length * m → ∀ {ys : List Value} {ts : List (List SV)}, RepR g H ys m ts → RepR g H (xs ++ ys) m (rows ++ ts)
  | xs, m, _, .nil, hl, ys, ts, k => by
    have : xs = [] := List.eq_nil_of_length_eq_zero (by simpa using hl)
    rw [this]
    exact k
  | _, m, _, .cons (rows := rows) hm h t, hl, ys, ts, k => by
    rw [List.append_assoc, List.cons_append]
    refine .cons hm h (t.app ?_ k)
    rw [List.length_append, List.length_cons, Nat.succ_mul] at hl
    omega
theorem RepR.drop {g : Gh} {H : Array Go.Obj} : ∀ {xs : List Value} {m : Nat} {rows : List (List SV)}, RepR g H xs m rows → ∀ n, n ≤ rows.length → RepR g H (xs.drop (n * m)) m (rows.drop n)
  | xs, m, _, .nil, n, hn => by rw [List.drop_nil]; exact .nil
  | _, m, _, .cons hm h t, 0, hn => by rw [Nat.zero_mul]; exact .cons hm h t
  | _, m, _, .cons (xs := xs) hm h t, n + 1, hn => by
    rw [Nat.succ_mul, Nat.add_comm, ← List.drop_drop, List.drop_left' hm, List.drop_succ_cons]
    exact t.drop n (by simpa using hn)
theorem RepR.take {g : Gh} {H : Array Go.Obj} : ∀ {xs : List Value} {m : Nat} {rows : List (List SV)}, RepR g H xs m rows → ∀ n, RepR g H xs m (rows.take n)
  | _, _, _, .nil, n => by rw [List.take_nil]; exact .nil
  | _, _, _, .cons hm h t, 0 => .nil
  | _, _, _, .cons hm h t, n + 1 => by rw [List.take_succ_cons]; exact .cons hm h (t.take n)
theorem RepR.one {g : Gh} {H : Array Go.Obj} {xs : List Value} {r : List SV} (h : RepL g H xs r) : RepR g H xs xs.length [r] := by
  have := RepR.cons (ys := []) rfl h (.nil (xs := []) (m := xs.length))
  rwa [List.append_nil] at this
theorem RepR.left {g : Gh} {H : Array Go.Obj} : ∀ {xs : List Value} {m : Nat} {rows : List (List SV)}, RepR g H xs m rows → ∀ n, rows.length * m ≤ n → RepR g H (xs.take n) m rows
  | _, _, _, .nil, n, hn => .nil
  | _, m, _, .cons (xs := xs) (ys := ys) (rows := rows) hm h t, n, hn => by
    rw [List.length_cons, Nat.succ_mul] at hn
    rw [List.take_append, List.take_of_length_le (by omega)]
    exact .cons hm h (t.left _ (by omega))
end Go.Proofs.YtcbbpidnocgoiaaDoor.Eng

/- Calls of functions that take objects, and make some. -/
import Derived.Test.YtcbbpidnocgoiaaDoorEng9
namespace Go.Proofs.YtcbbpidnocgoiaaDoor.Eng
open Go Go.RowKit
set_option linter.unusedVariables false
set_option linter.unusedSimpArgs false

mutual
def SV.ren (ρ : Nat → Nat) : SV → SV
  | .v x => .v x
  | .ref id i j => .ref (ρ id) i j
  | .own id lo len => .own (ρ id) lo len
  | .lst m rows => .lst m (renR ρ rows)
  | .agg cs => .agg (renL ρ cs)
  | .tup cs => .tup (renL ρ cs)
  | .elt cs j => .elt (renL ρ cs) j
def renL (ρ : Nat → Nat) : List SV → List SV
  | [] => []
  | x :: l => x.ren ρ :: renL ρ l
def renR (ρ : Nat → Nat) : List (List SV) → List (List SV)
  | [] => []
  | x :: l => renL ρ x :: renR ρ l
end
mutual
def SV.lt (n : Nat) : SV → Bool
  | .v _ => true
  | .ref id _ _ => decide (id < n)
  | .own id _ _ => decide (id < n)
  | .lst _ rows => ltR n rows
  | .agg cs => ltL n cs
  | .tup cs => ltL n cs
  | .elt cs _ => ltL n cs
def ltL (n : Nat) : List SV → Bool
  | [] => true
  | x :: l => x.lt n && ltL n l
def ltR (n : Nat) : List (List SV) → Bool
  | [] => true
  | x :: l => ltL n x && ltR n l
end
mutual
theorem SV.closed_lt (n : Nat) : ∀ {s : SV}, s.closed = true → s.lt n = true
  | .v _, _ => rfl
  | .lst _ rows, h => closedR_lt n (rows := rows) h
  | .agg l, h => closedL_lt n (l := l) h
  | .tup l, h => closedL_lt n (l := l) h
  | .elt l _, h => closedL_lt n (l := l) h
theorem closedL_lt (n : Nat) : ∀ {l : List SV}, closedL l = true → ltL n l = true
  | [], _ => rfl
  | x :: l, h => by
    have h : (x.closed && closedL l) = true := h
    rw [Bool.and_eq_true] at h
    show (x.lt n && ltL n l) = true
    rw [SV.closed_lt n h.1, closedL_lt n h.2]
    rfl
theorem closedR_lt (n : Nat) : ∀ {rows : List (List SV)}, closedR rows = true → ltR n rows = true
  | [], _ => rfl
  | x :: l, h => by
    have h : (closedL x && closedR l) = true := h
    rw [Bool.and_eq_true] at h
    show (ltL n x && ltR n l) = true
    rw [closedL_lt n h.1, closedR_lt n h.2]
    rfl
end
mutual
theorem SV.closed_ren (ρ : Nat → Nat) : ∀ {s : SV}, s.closed = true → s.ren ρ = s
  | .v _, _ => rfl
  | .lst m rows, h => congrArg (SV.lst m) (closedR_ren ρ (rows := rows) h)
  | .agg l, h => congrArg SV.agg (closedL_ren ρ (l := l) h)
  | .tup l, h => congrArg SV.tup (closedL_ren ρ (l := l) h)
  | .elt l j, h => congrArg (fun x => SV.elt x j) (closedL_ren ρ (l := l) h)
theorem closedL_ren (ρ : Nat → Nat) : ∀ {l : List SV}, closedL l = true → renL ρ l = l
  | [], _ => rfl
  | x :: l, h => by
    have h : (x.closed && closedL l) = true := h
    rw [Bool.and_eq_true] at h
    show x.ren ρ :: renL ρ l = _
    rw [SV.closed_ren ρ h.1, closedL_ren ρ h.2]
theorem closedR_ren (ρ : Nat → Nat) : ∀ {rows : List (List SV)}, closedR rows = true → renR ρ rows = rows
  | [], _ => rfl
  | x :: l, h => by
    have h : (closedL x && closedR l) = true := h
    rw [Bool.and_eq_true] at h
    show renL ρ x :: renR ρ l = _
    rw [closedL_ren ρ h.1, closedR_ren ρ h.2]
end

theorem renL_length (ρ : Nat → Nat) : ∀ l : List SV, (renL ρ l).length = l.length
  | [] => rfl
  | x :: l => by
    show (x.ren ρ :: renL ρ l).length = _
    rw [List.length_cons, List.length_cons, renL_length ρ l]
theorem renR_length (ρ : Nat → Nat) : ∀ l : List (List SV), (renR ρ l).length = l.length
  | [] => rfl
  | x :: l => by
    show (renL ρ x :: renR ρ l).length = _
    rw [List.length_cons, List.length_cons, renR_length ρ l]
theorem renL_get (ρ : Nat → Nat) : ∀ (l : List SV) (i : Nat), (renL ρ l)[i]? = l[i]?.map (SV.ren ρ)
  | [], i => by simp [renL]
  | x :: l, 0 => rfl
  | x :: l, i + 1 => by
    show (x.ren ρ :: renL ρ l)[i + 1]? = _
    rw [List.getElem?_cons_succ, List.getElem?_cons_succ, renL_get ρ l i]

/-- What one tells, the other tells under other names. -/
structure Push (g1 g2 : Gh) (ρ : Nat → Nat) (m : Nat) : Prop where
  β : ∀ i b, i < m → g1.β i = some b → g2.β (ρ i) = some b ∧ g2.mm (ρ i) = g1.mm i ∧ g2.o0 (ρ i) = g1.o0 i
  F : ∀ b, g1.F b → g2.F b
mutual
theorem Rep.push {g1 g2 : Gh} {ρ : Nat → Nat} {m : Nat} (hp : Push g1 g2 ρ m) {H : Array Go.Obj} : ∀ {x : Value} {s : SV}, Rep g1 H x s → s.lt m = true → Rep g2 H x (s.ren ρ)
  | _, _, .v x, _ => .v x
  | _, _, @Rep.ref _ _ id i j b hb, hs => by
    obtain ⟨h1, h2, h3⟩ := hp.β _ _ (of_decide_eq_true hs) hb
    rw [← h2, ← h3]
    exact .ref h1
  | _, _, @Rep.own _ _ id lo len cap b cs T fr hb hl h hc, hs => by
    obtain ⟨h1, h2, h3⟩ := hp.β _ _ (of_decide_eq_true hs) hb
    rw [← h2, ← h3] at hc ⊢
    exact .own h1 hl h hc
  | _, _, .nil, _ => .nil
  | _, _, @Rep.lst _ _ m b off n cap rows cs T fr hn hF h hl hc hr, hs => by
    refine .lst ?_ (hp.F _ hF) h hl hc (RepR.push hp hr hs)
    rw [hn]
    exact (renR_length ρ rows).symm
  | _, _, .agg h, hs => .agg (RepL.push hp h hs)
  | _, _, .tup h, hs => .tup (RepL.push hp h hs)
  | _, _, @Rep.elt _ _ b off j cells cs T fr hF h hj hr, hs => by
    refine .elt (hp.F _ hF) h ?_ ?_
    · rw [renL_length]; exact hj
    · rw [renL_length]; exact RepL.push hp hr hs
theorem RepL.push {g1 g2 : Gh} {ρ : Nat → Nat} {m : Nat} (hp : Push g1 g2 ρ m) {H : Array Go.Obj} : ∀ {xs : List Value} {ss : List SV}, RepL g1 H xs ss → ltL m ss = true → RepL g2 H xs (renL ρ ss)
  | _, _, .nil, _ => .nil
  | _, _, .cons (s := s) (ss := ss) h t, hs => by
    have hs : (s.lt m && ltL m ss) = true := hs
    rw [Bool.and_eq_true] at hs
    exact .cons (Rep.push hp h hs.1) (RepL.push hp t hs.2)
theorem RepR.push {g1 g2 : Gh} {ρ : Nat → Nat} {m : Nat} (hp : Push g1 g2 ρ m) {H : Array Go.Obj} : ∀ {xs : List Value} {k : Nat} {rows : List (List SV)}, RepR g1 H xs k rows → ltR m rows = true → RepR g2 H xs k (renR ρ rows)
  | _, _, _, .nil, _ => .nil
  | _, _, _, .cons (r := r) (rows := rows) hm h t, hs => by
    have hs : (ltL m r && ltR m rows) = true := hs
    rw [Bool.and_eq_true] at hs
    exact .cons hm (RepL.push hp h hs.1) (RepR.push hp t hs.2)
end

/-- The caller's names back into the callee's. -/
structure Pull (g1 g2 : Gh) (ρ : Nat → Nat) (m : Nat) : Prop where
  β : ∀ i b, i < m → g2.β (ρ i) = some b → g1.β i = some b ∧ g1.mm i = g2.mm (ρ i) ∧ g1.o0 i = g2.o0 (ρ i)
  F : ∀ b, g2.F b → g1.F b
mutual
theorem Rep.pull {g1 g2 : Gh} {ρ : Nat → Nat} {m : Nat} (hp : Pull g1 g2 ρ m) {H : Array Go.Obj} : ∀ {s : SV} {x : Value}, Rep g2 H x (s.ren ρ) → s.lt m = true → Rep g1 H x s
  | .v x, _, .v _, _ => .v x
  | .ref id i j, x, h, hs => by
    have h : Rep g2 H x (.ref (ρ id) i j) := h
    cases h with
    | ref hb =>
      obtain ⟨h1, h2, h3⟩ := hp.β _ _ (of_decide_eq_true hs) hb
      rw [← h2, ← h3]
      exact .ref h1
  | .own id lo len, x, h, hs => by
    have h : Rep g2 H x (.own (ρ id) lo len) := h
    cases h with
    | own hb hl hH hc =>
      obtain ⟨h1, h2, h3⟩ := hp.β _ _ (of_decide_eq_true hs) hb
      rw [← h2, ← h3] at hc ⊢
      exact .own h1 hl hH hc
  | .lst k rows, x, h, hs => by
    have h : Rep g2 H x (.lst k (renR ρ rows)) := h
    generalize hq : renR ρ rows = q at h
    cases h with
    | nil =>
      cases rows with
      | nil => exact .nil
      | cons r rows => cases hq
    | lst hn hF hH hl hc hr =>
      subst hq
      exact .lst (by rw [hn, renR_length]) (hp.F _ hF) hH hl hc (RepR.pull hp hr hs)
  | .agg l, x, h, hs => by
    have h : Rep g2 H x (.agg (renL ρ l)) := h
    cases h with
    | agg h => exact .agg (RepL.pull hp h hs)
  | .tup l, x, h, hs => by
    have h : Rep g2 H x (.tup (renL ρ l)) := h
    cases h with
    | tup h => exact .tup (RepL.pull hp h hs)
  | .elt l j, x, h, hs => by
    have h : Rep g2 H x (.elt (renL ρ l) j) := h
    cases h with
    | elt hF hH hj hr =>
      rw [renL_length] at hj hr
      exact .elt (hp.F _ hF) hH hj (RepL.pull hp hr hs)
theorem RepL.pull {g1 g2 : Gh} {ρ : Nat → Nat} {m : Nat} (hp : Pull g1 g2 ρ m) {H : Array Go.Obj} : ∀ {ss : List SV} {xs : List Value}, RepL g2 H xs (renL ρ ss) → ltL m ss = true → RepL g1 H xs ss
  | [], _, .nil, _ => .nil
  | s :: ss, _, .cons h t, hs => by
    have hs : (s.lt m && ltL m ss) = true := hs
    rw [Bool.and_eq_true] at hs
    exact .cons (Rep.pull hp h hs.1) (RepL.pull hp t hs.2)
theorem RepR.pull {g1 g2 : Gh} {ρ : Nat → Nat} {m : Nat} (hp : Pull g1 g2 ρ m) {H : Array Go.Obj} : ∀ {rows : List (List SV)} {k : Nat} {xs : List Value}, RepR g2 H xs k (renR ρ rows) → ltR m rows = true → RepR g1 H xs k rows
  | [], _, _, _, _ => .nil
  | r :: rows, k, _, .cons hm h t, hs => by
    have hs : (ltL m r && ltR m rows) = true := hs
    rw [Bool.and_eq_true] at hs
    exact .cons hm (RepL.pull hp h hs.1) (RepR.pull hp t hs.2)
end
end Go.Proofs.YtcbbpidnocgoiaaDoor.Eng

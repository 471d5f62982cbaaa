/- Values as lists and numbers of their own kinds, and what is told by them. -/
import Derived.Test.YtcbbpidnocgoiaaDoorEng18
namespace Go.Proofs.YtcbbpidnocgoiaaDoor.Eng
open Go Go.RowKit
set_option linter.unusedVariables false
set_option linter.unusedSimpArgs false

/-- Kinds of elements: what they are, how many cells they have, which cells. -/
structure Univ where
  C : Type
  deq : DecidableEq C
  T : C → Type
  sz : C → Nat
  encS : (c : C) → T c → List SV
inductive TV (U : Univ) where
  | v (x : Value)
  | ref (id i j : Nat)
  | own (id lo len : Nat)
  | full (id : Nat)
  | lst (c : U.C) (xs : List (U.T c))
  | agg (l : List (TV U))
  | tup (l : List (TV U))
  | elt (c : U.C) (x : U.T c) (j : Nat)
  | junk
inductive TO (U : Univ) where
  | dead (n : Nat)
  | cells (l : List (TV U)) (fz : Bool)
  | row (c : U.C) (xs : List (U.T c)) (fz : Bool)
structure TS (U : Univ) where
  slots : List (TV U)
  objs : List (TO U)
  hin : Nat
section
variable {U : Univ}
mutual
def TV.itp (rl : Nat → Nat) : TV U → SV
  | .v x => .v x
  | .ref id i j => .ref id i j
  | .own id lo len => .own id lo len
  | .full id => .own id 0 (rl id)
  | .lst c xs => .lst (U.sz c) (xs.map (U.encS c))
  | .agg l => .agg (itpL rl l)
  | .tup l => .tup (itpL rl l)
  | .elt c x j => .elt (U.encS c x) j
  | .junk => .v undef
def itpL (rl : Nat → Nat) : List (TV U) → List SV
  | [] => []
  | x :: l => x.itp rl :: itpL rl l
end
mutual
/-- Of such objects alone. -/
def TV.all (p : Nat → Bool) : TV U → Bool
  | .v _ => true
  | .ref id _ _ => p id
  | .own id _ _ => p id
  | .full id => p id
  | .lst _ _ => true
  | .agg l => allL p l
  | .tup l => allL p l
  | .elt _ _ _ => true
  | .junk => true
def allL (p : Nat → Bool) : List (TV U) → Bool
  | [] => true
  | x :: l => x.all p && allL p l
end
/-- Of objects below a number alone. -/
abbrev TV.bel (n : Nat) (x : TV U) : Bool := x.all fun i => decide (i < n)
abbrev belL (n : Nat) (l : List (TV U)) : Bool := allL (fun i => decide (i < n)) l
mutual
theorem all_mono {p q : Nat → Bool} (h : ∀ i, p i = true → q i = true) : ∀ {x : TV U}, x.all p = true → x.all q = true
  | .v _, _ => rfl
  | .ref .., hx => h _ hx
  | .own .., hx => h _ hx
  | .full id, hx => h _ hx
  | .lst .., _ => rfl
  | .agg l, hx => allL_mono h (l := l) hx
  | .tup l, hx => allL_mono h (l := l) hx
  | .elt .., _ => rfl
  | .junk, _ => rfl
theorem allL_mono {p q : Nat → Bool} (h : ∀ i, p i = true → q i = true) : ∀ {l : List (TV U)}, allL p l = true → allL q l = true
  | [], _ => rfl
  | x :: l, hx => by
    have hx : (x.all p && allL p l) = true := hx
    rw [Bool.and_eq_true] at hx
    show (x.all q && allL q l) = true
    rw [all_mono h hx.1, allL_mono h hx.2]
    rfl
end
def TO.bel (n : Nat) : TO U → Bool
  | .cells l _ => belL n l
  | _ => true
def TO.rlen : TO U → Nat
  | .dead n => n
  | .cells _ _ => 0
  | .row _ xs _ => xs.length
def TO.itp (rl : Nat → Nat) : TO U → OS
  | .dead _ => .dead
  | .cells l fz => .ob ⟨l.length, [itpL rl l], fz⟩
  | .row c xs fz => .ob ⟨U.sz c, xs.map (U.encS c), fz⟩
def nth {α : Type} : List α → Nat → Option α
  | [], _ => none
  | x :: _, 0 => some x
  | _ :: l, n + 1 => nth l n
def setN {α : Type} : List α → Nat → α → List α
  | [], _, _ => []
  | _ :: l, 0, y => y :: l
  | x :: l, n + 1, y => x :: setN l n y
/-- Written over, or put behind. -/
def setO {α : Type} : List α → Nat → α → List α
  | [], _, y => [y]
  | _ :: l, 0, y => y :: l
  | x :: l, n + 1, y => x :: setO l n y
def getN (l : List (TV U)) (n : Nat) : TV U := (nth l n).getD .junk
def rlen (l : List (TO U)) (n : Nat) : Nat := match nth l n with | some o => o.rlen | none => 0
theorem nth_eq {α : Type} : ∀ (l : List α) (n : Nat), nth l n = l[n]?
  | [], n => by simp [nth]
  | x :: l, 0 => rfl
  | x :: l, n + 1 => by rw [nth, nth_eq l n, List.getElem?_cons_succ]
theorem setN_eq {α : Type} : ∀ (l : List α) (n : Nat) (y : α), setN l n y = l.set n y
  | [], n, y => rfl
  | x :: l, 0, y => rfl
  | x :: l, n + 1, y => by rw [setN, setN_eq l n, List.set_cons_succ]
theorem nth_setO {α : Type} : ∀ (l : List α) (n : Nat) (y : α) (k : Nat), n ≤ l.length → nth (setO l n y) k = if k = n then some y else nth l k
  | [], 0, y, 0, _ => rfl
  | [], 0, y, k + 1, _ => by simp [setO, nth]
  | [], n + 1, y, k, h => by simp at h
  | x :: l, 0, y, 0, _ => rfl
  | x :: l, 0, y, k + 1, _ => by simp [setO, nth]
  | x :: l, n + 1, y, 0, _ => by simp [setO, nth]
  | x :: l, n + 1, y, k + 1, h => by
    rw [setO, nth, nth_setO l n y k (by simpa using h)]
    simp [nth]
theorem length_setO {α : Type} : ∀ (l : List α) (n : Nat) (y : α), (setO l n y).length = if n < l.length then l.length else l.length + 1
  | [], n, y => by simp [setO]
  | x :: l, 0, y => by simp [setO]
  | x :: l, n + 1, y => by
    rw [setO, List.length_cons, length_setO l n y, List.length_cons]
    by_cases h : n < l.length
    · rw [if_pos h, if_pos (by omega)]
    · rw [if_neg h, if_neg (by omega)]
theorem nth_lt {α : Type} {l : List α} {n : Nat} {x : α} (h : nth l n = some x) : n < l.length := by
  rw [nth_eq] at h
  exact (List.getElem?_eq_some_iff.1 h).1
theorem getN_set (l : List (TV U)) (n : Nat) (y : TV U) (k : Nat) : getN (setN l n y) k = if k = n ∧ n < l.length then y else getN l k := by
  unfold getN
  rw [nth_eq, nth_eq, setN_eq, List.getElem?_set]
  by_cases h : n = k
  · subst h
    by_cases h2 : n < l.length
    · simp [h2]
    · simp [h2]
  · rw [if_neg h, if_neg (fun h2 => h h2.1.symm)]
mutual
theorem itp_congr {rl rl' : Nat → Nat} {n : Nat} (h : ∀ i, i < n → rl i = rl' i) : ∀ {x : TV U}, x.bel n = true → x.itp rl = x.itp rl'
  | .v _, _ => rfl
  | .ref .., _ => rfl
  | .own .., _ => rfl
  | .full id, hx => by
    show SV.own id 0 (rl id) = _
    rw [h id (of_decide_eq_true hx)]
    rfl
  | .lst .., _ => rfl
  | .agg l, hx => congrArg SV.agg (itpL_congr h (l := l) hx)
  | .tup l, hx => congrArg SV.tup (itpL_congr h (l := l) hx)
  | .elt .., _ => rfl
  | .junk, _ => rfl
theorem itpL_congr {rl rl' : Nat → Nat} {n : Nat} (h : ∀ i, i < n → rl i = rl' i) : ∀ {l : List (TV U)}, belL n l = true → itpL rl l = itpL rl' l
  | [], _ => rfl
  | x :: l, hx => by
    have hx : (x.bel n && belL n l) = true := hx
    rw [Bool.and_eq_true] at hx
    show x.itp rl :: itpL rl l = x.itp rl' :: itpL rl' l
    rw [itp_congr h hx.1, itpL_congr h hx.2]
end
theorem bel_mono {n m : Nat} (h : n ≤ m) {x : TV U} (hx : x.bel n = true) : x.bel m = true := all_mono (fun i hi => decide_eq_true (by have := of_decide_eq_true hi; omega)) hx
theorem belL_mono {n m : Nat} (h : n ≤ m) {l : List (TV U)} (hx : belL n l = true) : belL m l = true := allL_mono (fun i hi => decide_eq_true (by have := of_decide_eq_true hi; omega)) hx
theorem allL_all (p : Nat → Bool) : ∀ l : List (TV U), allL p l = l.all (TV.all p)
  | [] => rfl
  | x :: l => by rw [allL, allL_all p l]; rfl
theorem itpL_eq (rl : Nat → Nat) : ∀ l : List (TV U), itpL rl l = l.map (TV.itp rl)
  | [] => rfl
  | x :: l => by rw [itpL, itpL_eq rl l]; rfl
theorem belL_all (n : Nat) (l : List (TV U)) : belL n l = l.all (TV.bel n) := allL_all _ l
theorem TO.itp_congr {rl rl' : Nat → Nat} {n : Nat} (h : ∀ i, i < n → rl i = rl' i) : ∀ {x : TO U}, x.bel n = true → x.itp rl = x.itp rl'
  | .dead _, _ => rfl
  | .cells l fz, hx => by
    show OS.ob _ = OS.ob _
    rw [itpL_congr h (l := l) hx]
  | .row .., _ => rfl

/-- A told state tells this of slots and objects. -/
structure M (s : TS U) (σ : St) : Prop where
  slot : ∀ t, getN s.slots t ≠ .junk → σ.slot t = (getN s.slots t).itp (rlen s.objs)
  ob : ∀ id o, nth s.objs id = some o → σ.obj id = o.itp (rlen s.objs)
  fresh : ∀ id, s.objs.length ≤ id → σ.obj id = .never
  sb : ∀ t, (getN s.slots t).bel s.objs.length = true
  obb : ∀ id o, nth s.objs id = some o → o.bel s.objs.length = true
def evO (s : TS U) : Operand → TV U
  | .tmp t => getN s.slots t
  | .const x => .v x
  | .global g => .v (.pointer (some ⟨g, 0, none⟩))
  | .func f => .v (.func (.func f) #[] #[])
theorem M.ev {s : TS U} {σ : St} (h : M s σ) {x : Operand} {tv : TV U} (hx : evO s x = tv) (hj : tv ≠ .junk) : σ.ev x = tv.itp (rlen s.objs) := by
  subst hx
  cases x with
  | tmp t => exact h.slot t hj
  | const v => rfl
  | global g => rfl
  | func f => rfl
theorem M.evb {s : TS U} {σ : St} (h : M s σ) {x : Operand} {tv : TV U} (hx : evO s x = tv) : tv.bel s.objs.length = true := by
  subst hx
  cases x with
  | tmp t => exact h.sb t
  | const v => rfl
  | global g => rfl
  | func f => rfl
structure TEff (U : Univ) where
  v : TV U
  ob : List (Nat × TO U)
def updO : List (TO U) → List (Nat × TO U) → List (TO U)
  | l, [] => l
  | l, (i, x) :: r => updO (setO l i x) r
def setD (l : List (TV U)) (d : Option Nat) (x : TV U) : List (TV U) := match d with | some d => setN l d x | none => l
def TS.app (s : TS U) (d : Option Nat) (e : TEff U) : TS U := ⟨setD s.slots d e.v, updO s.objs e.ob, s.hin⟩
/-- Objects that may be written over thus. -/
def ObsOk : List (TO U) → List (Nat × TO U) → Prop
  | _, [] => True
  | l, (i, x) :: r => ((∃ o, nth l i = some o ∧ o.rlen = x.rlen) ∨ i = l.length) ∧ ObsOk (setO l i x) r
def obsBelow (n : Nat) (l : List (Nat × TO U)) : Bool := l.all fun p => p.2.bel n
def TEff.itp (rl : Nat → Nat) (d : Option Nat) (e : TEff U) : Eff := ⟨d, e.v.itp rl, e.ob.map fun p => (p.1, p.2.itp rl)⟩
theorem updO_len : ∀ (r : List (Nat × TO U)) (l : List (TO U)), l.length ≤ (updO l r).length
  | [], l => Nat.le_refl _
  | (i, x) :: r, l => by
    have h1 := updO_len r (setO l i x)
    have h2 := length_setO l i x
    show _ ≤ (updO (setO l i x) r).length
    split at h2 <;> omega
theorem updO_rlen : ∀ (r : List (Nat × TO U)) (l : List (TO U)), ObsOk l r → ∀ id, id < l.length → rlen (updO l r) id = rlen l id
  | [], l, _, id, _ => rfl
  | (i, x) :: r, l, h, id, hid => by
    obtain ⟨h1, h2⟩ := h
    have hl := length_setO l i x
    have hle : i ≤ l.length := by
      rcases h1 with ⟨o, ho, _⟩ | h1
      · exact Nat.le_of_lt (nth_lt ho)
      · omega
    show rlen (updO (setO l i x) r) id = _
    rw [updO_rlen r _ h2 id (by split at hl <;> omega)]
    unfold rlen
    rw [nth_setO l i x id hle]
    by_cases e : id = i
    · subst e
      rw [if_pos rfl]
      rcases h1 with ⟨o, ho, hr⟩ | h1
      · rw [ho]; exact hr.symm
      · omega
    · rw [if_neg e]
theorem updO_ob : ∀ (r : List (Nat × TO U)) (l : List (TO U)), ObsOk l r → ∀ (rl : Nat → Nat) (σ : St) (id : Nat), (∀ o, nth l id = some o → σ.obj id = o.itp rl) → (nth l id = none → σ.obj id = .never) →
    (∀ o, nth (updO l r) id = some o → (σ.upds (r.map fun p => (p.1, p.2.itp rl))).obj id = o.itp rl) ∧ (nth (updO l r) id = none → (σ.upds (r.map fun p => (p.1, p.2.itp rl))).obj id = .never)
  | [], l, _, rl, σ, id, h1, h2 => ⟨h1, h2⟩
  | (i, x) :: r, l, h, rl, σ, id, h1, h2 => by
    obtain ⟨k1, k2⟩ := h
    have hle : i ≤ l.length := by
      rcases k1 with ⟨o, ho, _⟩ | k1
      · exact Nat.le_of_lt (nth_lt ho)
      · omega
    have hs := nth_setO l i x id hle
    refine updO_ob r (setO l i x) k2 rl (σ.upd i (x.itp rl)) id (fun o ho => ?_) (fun ho => ?_)
    · rw [hs] at ho
      show (if id = i then _ else σ.obj id) = _
      by_cases e : id = i
      · rw [if_pos e] at ho ⊢
        cases ho
        rfl
      · rw [if_neg e] at ho ⊢
        exact h1 o ho
    · rw [hs] at ho
      show (if id = i then _ else σ.obj id) = _
      by_cases e : id = i
      · rw [if_pos e] at ho
        cases ho
      · rw [if_neg e] at ho ⊢
        exact h2 ho
theorem updO_below : ∀ (r : List (Nat × TO U)) (l : List (TO U)) (n : Nat), ObsOk l r → (∀ id o, nth l id = some o → o.bel n = true) → obsBelow n r = true → ∀ id o, nth (updO l r) id = some o → o.bel n = true
  | [], l, n, _, h, _, id, o, ho => h id o ho
  | (i, x) :: r, l, n, h, hb, hr, id, o, ho => by
    obtain ⟨k1, k2⟩ := h
    have hle : i ≤ l.length := by
      rcases k1 with ⟨o, ho, _⟩ | k1
      · exact Nat.le_of_lt (nth_lt ho)
      · omega
    have hr : (x.bel n && obsBelow n r) = true := hr
    rw [Bool.and_eq_true] at hr
    refine updO_below r (setO l i x) n k2 (fun id o ho => ?_) hr.2 id o ho
    rw [nth_setO l i x id hle] at ho
    by_cases e : id = i
    · rw [if_pos e] at ho
      cases ho
      exact hr.1
    · rw [if_neg e] at ho
      exact hb id o ho
theorem TO.bel_mono {n m : Nat} (h : n ≤ m) : ∀ {x : TO U}, x.bel n = true → x.bel m = true
  | .cells l _, hx => belL_mono h (l := l) hx
  | .dead _, _ => rfl
  | .row .., _ => rfl
theorem M.app {s : TS U} {σ : St} (h : M s σ) (d : Option Nat) (e : TEff U) (hok : ObsOk s.objs e.ob) (hv : e.v.bel (updO s.objs e.ob).length = true) (ho : obsBelow (updO s.objs e.ob).length e.ob = true) :
    M (s.app d e) (σ.app (e.itp (rlen (updO s.objs e.ob)) d)) := by
  have hlen := updO_len e.ob s.objs
  have hrl := updO_rlen e.ob s.objs hok
  have hold : ∀ id o, nth s.objs id = some o → σ.obj id = o.itp (rlen (updO s.objs e.ob)) := fun id o ho => by
    rw [h.ob id o ho]
    exact TO.itp_congr (fun i hi => (hrl i hi).symm) (h.obb id o ho)
  have hnone : ∀ id, nth s.objs id = none → σ.obj id = .never := fun id hn => by
    rw [nth_eq] at hn
    exact h.fresh id (List.getElem?_eq_none_iff.1 hn)
  have hu := fun id => updO_ob e.ob s.objs hok (rlen (updO s.objs e.ob)) σ id (hold id) (hnone id)
  have hslot : ∀ t, getN (setD s.slots d e.v) t = if d = some t ∧ t < s.slots.length then e.v else getN s.slots t := fun t => by
    cases d with
    | none => simp [setD]
    | some d =>
      show getN (setN s.slots d e.v) t = _
      rw [getN_set]
      by_cases e1 : t = d
      · subst e1; simp
      · rw [if_neg (fun h => e1 h.1), if_neg (fun h => e1 (Option.some.inj h.1).symm)]
  refine ⟨fun t ht => ?_, fun id o ho => ?_, fun id hid => ?_, fun t => ?_, fun id o ho' => ?_⟩
  · show (if d = some t then e.v.itp _ else (σ.upds _).slot t) = _
    have ht : getN (setD s.slots d e.v) t ≠ .junk := ht
    show _ = (getN (setD s.slots d e.v) t).itp _
    rw [hslot] at ht ⊢
    rw [upds_slot]
    by_cases e1 : d = some t
    · by_cases e2 : t < s.slots.length
      · rw [if_pos e1, if_pos ⟨e1, e2⟩]; rfl
      · rw [if_neg (fun h => e2 h.2)] at ht
        exact absurd (by unfold getN; rw [nth_eq, List.getElem?_eq_none (by omega)]; rfl) ht
    · have hn : ¬ (d = some t ∧ t < s.slots.length) := fun h => e1 h.1
      rw [if_neg hn] at ht
      rw [if_neg e1, if_neg hn, h.slot t ht]
      exact itp_congr (fun i hi => (hrl i hi).symm) (h.sb t)
  · exact (hu id).1 o ho
  · refine (hu id).2 ?_
    rw [nth_eq]
    exact List.getElem?_eq_none hid
  · show (getN (setD s.slots d e.v) t).bel (updO s.objs e.ob).length = true
    rw [hslot]
    split
    · exact hv
    · exact bel_mono hlen (h.sb t)
  · exact updO_below e.ob s.objs _ hok (fun id o ho => TO.bel_mono hlen (h.obb id o ho)) ho id o ho'
end
theorem Rel.recell {f : Fr} {g : Gh} {σ σ' : St} {a : Act} {w : World} (h : Rel f g σ a w) (hs : ∀ t, Rep g w.heap (a.tmps.getD t undef) (σ'.slot t))
    (ho : ∀ id, σ'.obj id = σ.obj id ∨ ∃ o o', σ.obj id = .ob o ∧ σ'.obj id = .ob o' ∧ o'.m = o.m ∧ o'.fz = o.fz ∧ ∀ xs, RepR g w.heap xs o.m o.rows → RepR g w.heap xs o.m o'.rows) : Rel f g σ' a w := by
  have hb : ∀ id o', σ'.obj id = .ob o' → ∃ o, σ.obj id = .ob o ∧ o'.m = o.m ∧ o'.fz = o.fz ∧ ∀ xs, RepR g w.heap xs o.m o.rows → RepR g w.heap xs o.m o'.rows := fun id o' h' => by
    rcases ho id with e | ⟨o, o'', h1, h2, h3, h4, h5⟩
    · rw [e] at h'
      exact ⟨o', h', rfl, rfl, fun _ h => h⟩
    · rw [h2] at h'
      obtain rfl := OS.ob.inj h'
      exact ⟨o, h1, h3, h4, h5⟩
  exact { h with
    slot := hs
    never := fun id hid => by
      rcases ho id with e | ⟨o, o'', h1, h2, _⟩
      · rw [e] at hid; exact h.never id hid
      · rw [h2] at hid; cases hid
    ob := fun id o' h' => by
      obtain ⟨o, h1, h2, h3, h4⟩ := hb id o' h'
      obtain ⟨⟨b, cs, T, fr, k1, k2, k3, k4, k5, k6⟩, k7⟩ := h.ob id o h1
      exact ⟨⟨b, cs, T, fr, k1, k2, by rw [h2]; exact h4 _ k3, k4, by rw [h3]; exact k5, by rw [h3]; exact k6⟩, by rw [h2]; exact k7⟩
    inj := fun i j o o' b h1 h2 z1 z2 => by
      obtain ⟨p, q1, q2, q3, _⟩ := hb i o h1
      obtain ⟨p', q1', q2', q3', _⟩ := hb j o' h2
      exact h.inj i j p p' b q1 q1' (by rw [← q3]; exact z1) (by rw [← q3']; exact z2)
    own := fun i o b h1 z1 => by
      obtain ⟨p, q1, q2, q3, _⟩ := hb i o h1
      exact h.own i p b q1 (by rw [← q3]; exact z1) }
/-- Told with less. -/
def LeOS : OS → OS → Prop
  | .never, .never => True
  | .dead, .dead => True
  | .ob o, .ob o' => o'.m = o.m ∧ o'.fz = o.fz ∧ ∀ (g : Gh) (H : Array Go.Obj) (xs : List Value), RepR g H xs o.m o.rows → RepR g H xs o.m o'.rows
  | _, _ => False
theorem LeOS.refl : ∀ x : OS, LeOS x x
  | .never => trivial
  | .dead => trivial
  | .ob o => ⟨rfl, rfl, fun _ _ _ h => h⟩
inductive LeObs : List (Nat × OS) → List (Nat × OS) → Prop where
  | nil : LeObs [] []
  | cons {i : Nat} {x y : OS} {l m : List (Nat × OS)} (h : LeOS x y) (t : LeObs l m) : LeObs ((i, x) :: l) ((i, y) :: m)
theorem LeObs.wrO : ∀ {l m : List (Nat × OS)}, LeObs l m → ∀ i, (Eng.wrO l i = none ∧ Eng.wrO m i = none) ∨ ∃ x y, Eng.wrO l i = some x ∧ Eng.wrO m i = some y ∧ LeOS x y
  | _, _, .nil, i => .inl ⟨rfl, rfl⟩
  | _, _, .cons (i := j) (x := x) (y := y) (l := l) (m := m) h t, i => by
    rcases t.wrO i with ⟨h1, h2⟩ | ⟨a, b, h1, h2, h3⟩
    · by_cases e : i = j
      · exact .inr ⟨x, y, by rw [Eng.wrO, h1, if_pos e]; rfl, by rw [Eng.wrO, h2, if_pos e]; rfl, h⟩
      · exact .inl ⟨by rw [Eng.wrO, h1, if_neg e]; rfl, by rw [Eng.wrO, h2, if_neg e]; rfl⟩
    · exact .inr ⟨a, b, by rw [Eng.wrO, h1]; rfl, by rw [Eng.wrO, h2]; rfl, h3⟩
theorem step_weak {P : Program} {o : Oper} {L : List Loc} {d : Option Nat} {v v' : SV} {ob ob' : List (Nat × OS)} {s : St} (h : Step P o L ⟨d, v, ob⟩ s) (hv : ∀ (g : Gh) (H : Array Go.Obj) (x : Value), Rep g H x v → Rep g H x v') (ho : LeObs ob ob') : Step P o L ⟨d, v', ob'⟩ s := by
  intro f σ a w K Q hA hd hR hK
  refine h f σ a w K Q hA hd hR fun a' w' ⟨g, hR'⟩ => hK a' w' ⟨g, hR'.recell (fun t => ?_) fun id => ?_⟩
  · have h1 := hR'.slot t
    show Rep _ _ _ (if d = some t then v' else (σ.upds ob').slot t)
    have h1 : Rep g w'.heap (a'.tmps.getD t undef) (if d = some t then v else (σ.upds ob).slot t) := h1
    rw [upds_slot] at h1 ⊢
    by_cases e : d = some t
    · rw [if_pos e] at h1 ⊢; exact hv _ _ _ h1
    · rw [if_neg e] at h1 ⊢; exact h1
  · show (σ.upds ob').obj id = (σ.upds ob).obj id ∨ ∃ o o', (σ.upds ob).obj id = .ob o ∧ (σ.upds ob').obj id = .ob o' ∧ _
    rw [upds_obj, upds_obj]
    rcases ho.wrO id with ⟨h1, h2⟩ | ⟨x, y, h1, h2, h3⟩
    · left; rw [h1, h2]
    · rw [h1, h2]
      cases x with
      | never => cases y with | never => exact .inl rfl | _ => exact h3.elim
      | dead => cases y with | dead => exact .inl rfl | _ => exact h3.elim
      | ob p => cases y with
        | ob q => exact .inr ⟨p, q, rfl, rfl, h3.1, h3.2.1, fun xs hx => h3.2.2 _ _ _ hx⟩
        | _ => exact h3.elim
/-- A row in which each is told with less. -/
theorem repR_weak {g : Gh} {H : Array Go.Obj} : ∀ {rows rows' : List (List SV)} {xs : List Value} {m : Nat}, rows.length = rows'.length → (∀ (i : Nat) (r r' : List SV), rows[i]? = some r → rows'[i]? = some r' → ∀ vs, RepL g H vs r → RepL g H vs r') → RepR g H xs m rows → RepR g H xs m rows'
  | [], [], _, _, _, _, h => h
  | r :: rows, r' :: rows', _, _, hl, hw, h => by
    cases h with
    | cons hm h t => exact .cons hm (hw 0 r r' rfl rfl _ h) (repR_weak (by simpa using hl) (fun i r r' h1 h2 => hw (i + 1) r r' (by simpa using h1) (by simpa using h2)) t)
  | [], _ :: _, _, _, hl, _, _ => by cases hl
  | _ :: _, [], _, _, hl, _, _ => by cases hl
end Go.Proofs.YtcbbpidnocgoiaaDoor.Eng

/- What an operation does to a told state. -/
import Derived.Test.YtcbbpidnocgoiaaDoorEng2
namespace Go.Proofs.YtcbbpidnocgoiaaDoor.Eng
open Go Go.RowKit
set_option linter.unusedVariables false
set_option linter.unusedSimpArgs false

inductive Loc where
  | slot (t : Nat)
  | obj (id : Nat)
  deriving DecidableEq
/-- What an operation leaves: its result, and objects as they are then. -/
structure Eff where
  dst : Option Nat
  v : SV
  ob : List (Nat × OS)
def St.upds (s : St) : List (Nat × OS) → St
  | [] => s
  | (i, x) :: l => (s.upd i x).upds l
def St.app (s : St) (e : Eff) : St := (s.upds e.ob).put e.dst e.v
/-- Alike at these places. -/
def Agree (L : List Loc) (s σ : St) : Prop := (∀ t, .slot t ∈ L → σ.slot t = s.slot t) ∧ (∀ i, .obj i ∈ L → σ.obj i = s.obj i)
theorem Agree.refl (L : List Loc) (s : St) : Agree L s s := ⟨fun _ _ => rfl, fun _ _ => rfl⟩
theorem Agree.left {L M : List Loc} {s σ : St} (h : Agree (L ++ M) s σ) : Agree L s σ := ⟨fun t ht => h.1 t (List.mem_append_left _ ht), fun t ht => h.2 t (List.mem_append_left _ ht)⟩
theorem Agree.right {L M : List Loc} {s σ : St} (h : Agree (L ++ M) s σ) : Agree M s σ := ⟨fun t ht => h.1 t (List.mem_append_right _ ht), fun t ht => h.2 t (List.mem_append_right _ ht)⟩

def St.ev (s : St) : Operand → SV
  | .tmp t => s.slot t
  | .const v => .v v
  | .global g => .v (.pointer (some ⟨g, 0, none⟩))
  | .func f => .v (.func (.func f) #[] #[])
def locO : Operand → List Loc
  | .tmp t => [.slot t]
  | _ => []
def locs : List Operand → List Loc
  | [] => []
  | x :: l => locO x ++ locs l
theorem ev_agree {x : Operand} {s σ : St} (h : Agree (locO x) s σ) : σ.ev x = s.ev x := by
  cases x with
  | tmp t => exact h.1 t (List.mem_singleton.2 rfl)
  | _ => rfl
theorem Rel.ev {f : Fr} {g : Gh} {s : St} {a : Act} {w : World} (h : Rel f g s a w) (x : Operand) : Rep g w.heap (a.eval x) (s.ev x) := by
  cases x with
  | tmp t => exact h.slot t
  | _ => exact .v _

/-- From a state that is alike at the places that it looks at, an operation comes to what it leaves. -/
def Step (P : Program) (o : Oper) (L : List Loc) (e : Eff) (s : St) : Prop :=
  ∀ (f : Fr) (σ : St) (a : Act) (w : World) (K : Act → World → Prop) (Q : Exit → Act → World → Prop), Agree L s σ → (∀ d, o.dst = some d → d < f.N) → R f σ a w →
    (∀ a' w', R f (σ.app e) a' w' → K a' w') → o.wp P a w K Q

section
variable {P : Program} {o : Oper} {s : St}

/-- A value is yielded, the world stays. -/
theorem step_value {L : List Loc} {sv : SV} (h : ∀ (g : Gh) (σ : St) (f : Fr) (a : Act) (w : World), Agree L s σ → Rel f g σ a w → ∃ v, (execOp a.eval o).run P w = .ok (.value v) w ∧ Rep g w.heap v sv) : Step P o L ⟨o.dst, sv, []⟩ s := by
  intro f σ a w K Q hA hd ⟨g, hR⟩ hK
  obtain ⟨v, hv, hRep⟩ := h g σ f a w hA hR
  unfold Oper.wp
  rw [hv, Oper.upon_value]
  exact hK _ _ ⟨g, hR.put o.dst hd hRep⟩
theorem step_move {x : Operand} (ho : o.op = .move x) : Step P o (locO x) ⟨o.dst, s.ev x, []⟩ s :=
  step_value fun g σ f a w hA hR => ⟨a.eval x, by simp [execOp, ho], by rw [← ev_agree hA]; exact hR.ev x⟩
theorem step_assign {x : Operand} (ho : o.op = .assign x) : Step P o (locO x) ⟨o.dst, s.ev x, []⟩ s :=
  step_value fun g σ f a w hA hR => ⟨a.eval x, by simp [execOp, ho], by rw [← ev_agree hA]; exact hR.ev x⟩
theorem rep_v {g : Gh} {H : Array Go.Obj} {x y : Value} (h : Rep g H x (.v y)) : x = y := by cases h; rfl
theorem ev_v {f : Fr} {g : Gh} {σ : St} {a : Act} {w : World} {x : Operand} {y : Value} (hR : Rel f g σ a w) (hA : Agree (locO x) s σ) (hx : s.ev x = .v y) : a.eval x = y := by
  have := hR.ev x
  rw [ev_agree hA, hx] at this
  exact rep_v this
def SV.val : SV → Value
  | .v x => x
  | _ => undef
def SV.flat : SV → Bool
  | .v _ => true
  | _ => false
theorem SV.flat_val : ∀ {s : SV}, s.flat = true → s = .v s.val
  | .v x, _ => rfl
  | .ref .., h => by cases h
  | .own .., h => by cases h
  | .lst .., h => by cases h
  | .agg .., h => by cases h
  | .tup .., h => by cases h
  | .elt .., h => by cases h
theorem mem_locs {x : Operand} : ∀ {l : List Operand}, x ∈ l → ∀ y ∈ locO x, y ∈ locs l
  | z :: l, h, y, hy => by
    rcases List.mem_cons.1 h with rfl | h
    · exact List.mem_append_left _ hy
    · exact List.mem_append_right _ (mem_locs h y hy)
theorem Agree.of_mem {L M : List Loc} {s σ : St} (h : Agree M s σ) (hs : ∀ y ∈ L, y ∈ M) : Agree L s σ := ⟨fun t ht => h.1 t (hs _ ht), fun t ht => h.2 t (hs _ ht)⟩
/-- Of values alone: what the operation says of them in any world. -/
theorem step_pure (v : Value) (hs : ∀ cs b, o.op ≠ .select cs b) (hf : (o.op.operands.toList.all fun x => (s.ev x).flat) = true)
    (h : ∀ w : World, (execOp (fun x => (s.ev x).val) o).run P w = .ok (.value v) w) : Step P o (locs o.op.operands.toList) ⟨o.dst, .v v, []⟩ s :=
  step_value fun g σ f a w hA hR => by
    refine ⟨v, ?_, .v _⟩
    rw [← h w]
    congr 1
    refine execOp_congr o hs fun x hx => ?_
    have hx' : x ∈ o.op.operands.toList := by simpa using hx
    have hfl : (s.ev x).flat = true := List.all_eq_true.1 hf x hx'
    exact ev_v hR (hA.of_mem (mem_locs hx')) (SV.flat_val hfl)
theorem step_pick {c x y : Operand} {b : Bool} (ho : o.op = .pick c x y) (hc : s.ev c = .v (.bool b)) : Step P o (locO c ++ locO x ++ locO y) ⟨o.dst, if b then s.ev x else s.ev y, []⟩ s :=
  step_value fun g σ f a w hA hR => by
    have h1 := ev_v hR hA.left.left hc
    refine ⟨if b then a.eval x else a.eval y, ?_, ?_⟩
    · cases b <;> simp [execOp, ho, h1, asBool]
    · cases b
      · rw [if_neg (by simp), if_neg (by simp), ← ev_agree hA.right]; exact hR.ev y
      · rw [if_pos rfl, if_pos rfl, ← ev_agree hA.left.right]; exact hR.ev x

/-! ### Memory that is read -/
theorem agree_obj {L : List Loc} {σ : St} {id : Nat} (h : Agree (L ++ [.obj id]) s σ) : σ.obj id = s.obj id := h.2 id (List.mem_append_right _ (List.mem_singleton.2 rfl))
theorem rep_ref {g : Gh} {H : Array Go.Obj} {x : Value} {id i j : Nat} (h : Rep g H x (.ref id i j)) : ∃ b, g.β id = some b ∧ x = .pointer (some ⟨b, g.o0 id + (i * g.mm id + j), none⟩) := by
  cases h with | ref hb => exact ⟨_, hb, rfl⟩
theorem cell_of {w : World} {b : Nat} {cs : Array Value} {T : TypeId} {fr : Nat × Nat} (h : w.heap[b]? = some (.cells cs T fr)) (k : Nat) : w.cell? ⟨b, k, none⟩ = cs[k]? := by simp [World.cell?, h]
/-- The cells of an object's row, in memory. -/
theorem ObRep.cellAt {g : Gh} {w : World} {id : Nat} {o : Ob} (h : ObRep g w.heap id o) {b i j : Nat} {r : List SV} {sv : SV} (hb : g.β id = some b) (hr : o.rows[i]? = some r) (hj : r[j]? = some sv) :
    ∃ x, w.cell? ⟨b, g.o0 id + (i * g.mm id + j), none⟩ = some x ∧ Rep g w.heap x sv := by
  obtain ⟨⟨b', cs, T, fr, k1, k2, k3, _⟩, k7⟩ := h
  rw [hb] at k1
  obtain rfl := Option.some.inj k1
  obtain ⟨x, hx, hR⟩ := k3.cell hr hj
  refine ⟨x, ?_, hR⟩
  rw [cell_of k2, k7]
  rw [List.getElem?_drop] at hx
  simpa using hx
theorem rep_elt {g : Gh} {w : World} {x : Value} {cells : List SV} {j : Nat} (h : Rep g w.heap x (.elt cells j)) :
    ∃ b off, x = .pointer (some ⟨b, off + j, none⟩) ∧ ∀ k sv, cells[k]? = some sv → ∃ y, w.cell? ⟨b, off + k, none⟩ = some y ∧ Rep g w.heap y sv := by
  cases h with
  | elt hF hH hj hr =>
    refine ⟨_, _, rfl, fun k sv hk => ?_⟩
    obtain ⟨y, hy, hR⟩ := hr.get k sv hk
    refine ⟨y, ?_, hR⟩
    rw [cell_of hH]
    rw [List.getElem?_take] at hy
    split at hy
    · rw [List.getElem?_drop] at hy
      simpa using hy
    · cases hy
theorem isRow_load {T : TypeId} {d : TypeDesc} (hu : P.underlying T = some d) (hd : d.isRow = false) (ad : Addr) (v : Value) (w : World) (hc : w.cell? ad = some v) : (Instr.loadAt T (.pointer (some ad))).run P w = .ok v w := by
  have hagg : (isAgg T).run P w = .ok false w := by
    unfold isAgg
    rw [Sem.run_bind, run_underlying hu w]
    cases d <;> simp_all
  simp [Instr.loadAt, Instr.sureAddr, loadVar, Sem.run_bind, hagg, load, Sem.run, hc]
/-- A cell. -/
theorem step_load {T : TypeId} {x : Operand} {d : TypeDesc} (ho : o.op = .load T x) (hu : P.underlying T = some d) (hd : d.isRow = false) {id i j : Nat} {ob : Ob} {r : List SV} {sv : SV}
    (hx : s.ev x = .ref id i j) (hob : s.obj id = .ob ob) (hr : ob.rows[i]? = some r) (hj : r[j]? = some sv) : Step P o (locO x ++ [.obj id]) ⟨o.dst, sv, []⟩ s :=
  step_value fun g σ f a w hA hR => by
    have h1 := hR.ev x
    rw [ev_agree hA.left, hx] at h1
    obtain ⟨b, hb, he⟩ := rep_ref h1
    obtain ⟨y, hy, hRy⟩ := (hR.ob id ob (by rw [agree_obj hA]; exact hob)).cellAt hb hr hj
    refine ⟨y, ?_, hRy⟩
    simp only [execOp, ho, he, isRow_load hu hd _ _ w hy]
    simp [Sem.run_bind, isRow_load hu hd _ _ w hy]
theorem step_load_elt {T : TypeId} {x : Operand} {d : TypeDesc} (ho : o.op = .load T x) (hu : P.underlying T = some d) (hd : d.isRow = false) {cells : List SV} {j : Nat} {sv : SV}
    (hx : s.ev x = .elt cells j) (hj : cells[j]? = some sv) : Step P o (locO x) ⟨o.dst, sv, []⟩ s :=
  step_value fun g σ f a w hA hR => by
    have h1 := hR.ev x
    rw [ev_agree hA, hx] at h1
    obtain ⟨b, off, he, hc⟩ := rep_elt h1
    obtain ⟨y, hy, hRy⟩ := hc j sv hj
    refine ⟨y, ?_, hRy⟩
    simp only [execOp, ho, he]
    simp [Sem.run_bind, isRow_load hu hd _ _ w hy]
/-- The cells from a place on, as a list of values. -/
theorem range_vals {g : Gh} {w : World} {b off : Nat} {cells : List SV} : ∀ (l : List SV) (j : Nat), (∀ k sv, l[k]? = some sv → ∃ y, w.cell? ⟨b, off + (j + k), none⟩ = some y ∧ Rep g w.heap y sv) →
    ∃ vs : List Value, RepL g w.heap vs l ∧ w.rangeAt b (off + j) vs
  | [], j, _ => ⟨[], .nil, fun k v hk => by simp at hk⟩
  | sv :: l, j, h => by
    obtain ⟨y, hy, hR⟩ := h 0 sv rfl
    obtain ⟨vs, hvs, hra⟩ := range_vals (cells := cells) l (j + 1) fun k sv hk => by
      obtain ⟨y, hy, hR⟩ := h (k + 1) sv hk
      exact ⟨y, by rw [show j + 1 + k = j + (k + 1) by omega]; exact hy, hR⟩
    refine ⟨y :: vs, .cons hR hvs, fun k v hk => ?_⟩
    cases k with
    | zero =>
      simp only [List.getElem?_cons_zero, Option.some.injEq] at hk
      subst hk
      exact hy
    | succ k =>
      simp only [List.getElem?_cons_succ] at hk
      have := hra k v hk
      rwa [show off + (j + 1) + k = off + j + (k + 1) by omega] at this
theorem take_get {l : List SV} {j n k : Nat} {sv : SV} (h : ((l.drop j).take n)[k]? = some sv) : l[j + k]? = some sv := by
  rw [List.getElem?_take] at h
  split at h
  · rwa [List.getElem?_drop] at h
  · cases h
/-- A struct. -/
theorem step_loads {T : TypeId} {x : Operand} {d : TypeDesc} (ho : o.op = .load T x) (hu : P.underlying T = some d) (hd : d.isRow = true) {n : Nat} (hn : (P.info? T).map (·.size) = some n) {id i j : Nat} {ob : Ob} {r cells : List SV}
    (hx : s.ev x = .ref id i j) (hob : s.obj id = .ob ob) (hr : ob.rows[i]? = some r) (hc : (r.drop j).take n = cells) (hl : cells.length = n) : Step P o (locO x ++ [.obj id]) ⟨o.dst, .agg cells, []⟩ s :=
  step_value fun g σ f a w hA hR => by
    have h1 := hR.ev x
    rw [ev_agree hA.left, hx] at h1
    obtain ⟨b, hb, he⟩ := rep_ref h1
    have hO := hR.ob id ob (by rw [agree_obj hA]; exact hob)
    obtain ⟨vs, hvs, hra⟩ := range_vals (cells := cells) (b := b) (off := g.o0 id + i * g.mm id) cells j fun k sv hk => by
      rw [← hc] at hk
      have := hO.cellAt hb hr (take_get hk)
      rwa [← Nat.add_assoc] at this
    refine ⟨.agg vs.toArray, ?_, .agg (by simpa using hvs)⟩
    have hm := run_loadAt_mid (P := P) w b (g.o0 id + i * g.mm id + j) T vs d hra hu hd (by rw [hn, hvs.length, hl])
    rw [Nat.add_assoc] at hm
    simp only [execOp, ho, he]
    simp [Sem.run_bind, hm]
theorem step_loads_elt {T : TypeId} {x : Operand} {d : TypeDesc} (ho : o.op = .load T x) (hu : P.underlying T = some d) (hd : d.isRow = true) {n : Nat} (hn : (P.info? T).map (·.size) = some n) {cells r : List SV} {j : Nat}
    (hx : s.ev x = .elt r j) (hc : (r.drop j).take n = cells) (hl : cells.length = n) : Step P o (locO x) ⟨o.dst, .agg cells, []⟩ s :=
  step_value fun g σ f a w hA hR => by
    have h1 := hR.ev x
    rw [ev_agree hA, hx] at h1
    obtain ⟨b, off, he, hcl⟩ := rep_elt h1
    obtain ⟨vs, hvs, hra⟩ := range_vals (cells := cells) (b := b) (off := off) cells j fun k sv hk => by
      rw [← hc] at hk
      exact hcl _ _ (take_get hk)
    refine ⟨.agg vs.toArray, ?_, .agg (by simpa using hvs)⟩
    have hm := run_loadAt_mid (P := P) w b (off + j) T vs d hra hu hd (by rw [hn, hvs.length, hl])
    simp only [execOp, ho, he]
    simp [Sem.run_bind, hm]
end
end Go.Proofs.YtcbbpidnocgoiaaDoor.Eng

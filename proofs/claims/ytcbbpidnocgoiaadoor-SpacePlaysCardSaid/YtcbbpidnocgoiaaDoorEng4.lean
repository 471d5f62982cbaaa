/- What is written, and what is made. -/
import Derived.Test.YtcbbpidnocgoiaaDoorEng3
namespace Go.Proofs.YtcbbpidnocgoiaaDoor.Eng
open Go Go.RowKit
set_option linter.unusedVariables false
set_option linter.unusedSimpArgs false

/-- A value's cells. -/
def SV.cells : SV → List SV
  | .v x => x.cells.toList.map SV.v
  | .agg cs => cs
  | s => [s]
theorem repL_v {g : Gh} {H : Array Go.Obj} : ∀ l : List Value, RepL g H l (l.map SV.v)
  | [] => .nil
  | x :: l => .cons (.v x) (repL_v l)
theorem Rep.cells {g : Gh} {H : Array Go.Obj} {x : Value} {s : SV} (h : Rep g H x s) : RepL g H x.cells.toList s.cells := by
  cases h with
  | v x => exact repL_v _
  | agg h => exact h
  | ref hb => exact .cons (.ref hb) .nil
  | own hb hl hH hc => exact .cons (.own hb hl hH hc) .nil
  | nil => exact .cons .nil .nil
  | lst hn hF hH hl hc hr => exact .cons (.lst hn hF hH hl hc hr) .nil
  | tup h => exact .cons (.tup h) .nil
  | elt hF hH hj hr => exact .cons (.elt hF hH hj hr) .nil
/-- Each cell's value is one cell. -/
def SV.one : SV → Bool
  | .v x => x.oneCell'
  | .agg _ => false
  | .tup _ => false
  | _ => true
theorem Rep.one {g : Gh} {H : Array Go.Obj} {x : Value} {s : SV} (h : Rep g H x s) (hs : s.one = true) : x.oneCell' = true := by
  cases h <;> first | exact hs | rfl | cases hs
theorem RepL.one {g : Gh} {H : Array Go.Obj} : ∀ {xs : List Value} {ss : List SV}, RepL g H xs ss → ss.all SV.one = true → ∀ v ∈ xs, v.oneCell' = true
  | _, _, .nil, _, v, hv => by cases hv
  | _, _, .cons h t, hs, v, hv => by
    rw [List.all_cons, Bool.and_eq_true] at hs
    rcases List.mem_cons.1 hv with rfl | hv
    · exact h.one hs.1
    · exact t.one hs.2 v hv

/-- Cells written over, from a place on. -/
def owr {α : Type} (l : List α) : Nat → List α → List α
  | _, [] => l
  | o, c :: cs => owr (l.set o c) (o + 1) cs
theorem length_owr {α : Type} : ∀ (cs : List α) (l : List α) (o : Nat), (owr l o cs).length = l.length
  | [], _, _ => rfl
  | c :: cs, l, o => by rw [owr, length_owr cs, List.length_set]
theorem owr_nil {α : Type} : ∀ (cs : List α) (o : Nat), owr ([] : List α) o cs = []
  | [], _ => rfl
  | c :: cs, o => by rw [owr, List.set_nil, owr_nil cs]
theorem owr_cons {α : Type} (x : α) : ∀ (cs : List α) (l : List α) (o : Nat), owr (x :: l) (o + 1) cs = x :: owr l o cs
  | [], _, _ => rfl
  | c :: cs, l, o => by rw [owr, owr, List.set_cons_succ, owr_cons x cs]
theorem RepL.owr {g : Gh} {H : Array Go.Obj} : ∀ {ys : List Value} {ts : List SV}, RepL g H ys ts → ∀ {xs : List Value} {ss : List SV}, RepL g H xs ss → ∀ o, RepL g H (owr xs o ys) (owr ss o ts)
  | _, _, .nil, _, _, h, o => h
  | _, _, .cons hx t, _, _, h, o => t.owr (h.set o hx) (o + 1)
theorem RepR.owr {g : Gh} {H : Array Go.Obj} {i m : Nat} : ∀ {ys : List Value} {ts : List SV}, RepL g H ys ts → ∀ {xs : List Value} {rows : List (List SV)}, RepR g H xs m rows → ∀ {r : List SV} (j : Nat), rows[i]? = some r → j + ts.length ≤ m →
    RepR g H (owr xs (i * m + j) ys) m (rows.set i (owr r j ts))
  | _, _, .nil, xs, rows, h, r, j, hr, hj => by
    show RepR g H xs m (rows.set i r)
    have : rows.set i r = rows := by
      apply List.ext_getElem?
      intro k
      rw [List.getElem?_set]
      split
      · rename_i e
        subst e
        have hlt : i < rows.length := (List.getElem?_eq_some_iff.1 hr).1
        rw [if_pos hlt, hr]
      · rfl
    rw [this]
    exact h
  | _, _, .cons (s := sv) (ss := ts) hx t, xs, rows, h, r, j, hr, hj => by
    rw [List.length_cons] at hj
    have h1 := h.set (j := j) hr (by omega) hx
    have hlt : i < rows.length := (List.getElem?_eq_some_iff.1 hr).1
    have h2 := RepR.owr t h1 (r := r.set j sv) (j + 1) (by rw [List.getElem?_set, if_pos rfl, if_pos hlt]) (by omega)
    rw [List.set_set] at h2
    exact h2
theorem toList_setIfInBounds (cs : Array Value) (k : Nat) (x : Value) : (cs.setIfInBounds k x).toList = cs.toList.set k x := by simp
/-- A block's cells written one by one. -/
theorem setCells_heap (b : Nat) : ∀ (vs : List Value) (o : Nat) (w : World) (cs : Array Value) (T : TypeId) (fr : Nat × Nat), w.heap[b]? = some (.cells cs T fr) →
    (w.setCells b o vs).heap[b]? = some (.cells (owr cs.toList o vs).toArray T fr) ∧ (∀ k, k ≠ b → (w.setCells b o vs).heap[k]? = w.heap[k]?) ∧ (w.setCells b o vs).heap.size = w.heap.size ∧
      (w.setCells b o vs).os = w.os ∧ (w.setCells b o vs).tape = w.tape ∧ (w.setCells b o vs).output = w.output
  | [], o, w, cs, T, fr, h => ⟨by simpa [World.setCells, owr] using h, fun _ _ => rfl, rfl, rfl, rfl, rfl⟩
  | v :: vs, o, w, cs, T, fr, h => by
    have h1 : (w.setCell ⟨b, o, none⟩ v).heap[b]? = some (.cells (cs.setIfInBounds o v) T fr) := by
      simp [World.setCell, Array.getElem?_modify, h]
    obtain ⟨k1, k2, k3, k4, k5, k6⟩ := setCells_heap b vs (o + 1) (w.setCell ⟨b, o, none⟩ v) _ T fr h1
    refine ⟨?_, fun k hk => ?_, ?_, k4, k5, k6⟩
    · rw [toList_setIfInBounds] at k1
      exact k1
    · show ((w.setCell ⟨b, o, none⟩ v).setCells b (o + 1) vs).heap[k]? = _
      rw [k2 k hk]
      exact Below.heap_setCell _ _ _ _ hk
    · show ((w.setCell ⟨b, o, none⟩ v).setCells b (o + 1) vs).heap.size = _
      rw [k3]
      simp [World.setCell]

theorem drop_owr {α : Type} : ∀ (n : Nat) (l : List α) (k : Nat) (cs : List α), (owr l (n + k) cs).drop n = owr (l.drop n) k cs
  | 0, l, k, cs => by rw [Nat.zero_add, List.drop_zero, List.drop_zero]
  | n + 1, [], k, cs => by rw [owr_nil, List.drop_nil, owr_nil]
  | n + 1, x :: l, k, cs => by rw [show n + 1 + k = n + k + 1 by omega, owr_cons, List.drop_succ_cons, List.drop_succ_cons, drop_owr n l k cs]
section
variable {P : Program} {o : Oper} {s : St}
theorem frozen_none {w : World} {b : Nat} {cs : Array Value} {T : TypeId} {fr : Nat × Nat} (h : w.heap[b]? = some (.cells cs T fr)) (hfr : ∀ i, i < cs.size → ¬ (fr.1 ≤ i ∧ i < fr.2)) (k : Nat) (hk : k < cs.size) : w.frozen? ⟨b, k, none⟩ = false := by
  have := hfr k hk
  simp only [World.frozen?, h]
  by_cases h1 : fr.1 ≤ k
  · have h2 : ¬ k < fr.2 := fun h2 => this ⟨h1, h2⟩
    simp [h2]
  · simp [h1]
theorem run_store_any {T : TypeId} {w : World} {b k : Nat} {v : Value} {n : Nat} (hn : (P.info? T).map (·.size) = some n) (hsz : v.cells.size = n) (hth : w.there b k n) (h1 : ∀ x ∈ v.cells.toList, x.oneCell' = true) :
    (Instr.storeAt T (.pointer (some ⟨b, k, none⟩)) v).run P w = .ok () (w.setCells b k v.cells.toList) := by
  have := run_storeCells_cells (P := P) b k v.cells.toList 0 w (fun j hj => by simpa using (hth j (by rw [Array.length_toList] at hj; omega)).1) (fun j hj => by simpa using (hth j (by rw [Array.length_toList] at hj; omega)).2) h1
  simp only [Nat.add_zero] at this
  cases hq : P.info? T with
  | none => simp [hq] at hn
  | some i =>
    have hs : i.size = n := by simpa [hq] using hn
    simp [Instr.storeAt, Instr.sureAddr, storeVar, sizeOf, typeInfo, hq, hs, hsz, this]
/-- A store into a variable, or into an element of a row. -/
theorem step_store {T : TypeId} {x y : Operand} (ho : o.op = .store T x y) {n : Nat} (hn : (P.info? T).map (·.size) = some n) {id i j : Nat} {ob : Ob} {r : List SV}
    (hx : s.ev x = .ref id i j) (hob : s.obj id = .ob ob) (hz : ob.fz = false) (hr : ob.rows[i]? = some r) (hy : ((s.ev y).cells.all SV.one) = true) (hl : (s.ev y).cells.length = n) (hm : j + n ≤ r.length) :
    Step P o (locO x ++ locO y ++ [.obj id]) ⟨o.dst, .v undef, [(id, .ob ⟨ob.m, ob.rows.set i (owr r j (s.ev y).cells), false⟩)]⟩ s := by
  intro f σ a w K Q hA hd ⟨g, hR⟩ hK
  have hob' : σ.obj id = .ob ob := by rw [agree_obj hA]; exact hob
  have h1 := hR.ev x
  rw [ev_agree hA.left.left, hx] at h1
  obtain ⟨b, hb, he⟩ := rep_ref h1
  have h2 := hR.ev y
  rw [ev_agree hA.left.right] at h2
  have hc := h2.cells
  obtain ⟨⟨b', cs, T', fr, k1, k2, k3, k4, k5, k6⟩, k7⟩ := hR.ob id ob hob'
  rw [hb] at k1
  obtain rfl := Option.some.inj k1
  obtain ⟨hrm, _⟩ := k3.get i r hr
  have hlen := k3.len
  have hi : i < ob.rows.length := (List.getElem?_eq_some_iff.1 hr).1
  have hbound : 0 < ob.m → g.o0 id + (i * ob.m + ob.m) ≤ cs.size := by
    have : (i + 1) * ob.m ≤ ob.rows.length * ob.m := Nat.mul_le_mul_right _ hi
    rw [Nat.succ_mul] at this
    rw [List.length_drop, Array.length_toList] at hlen
    omega
  have hsz : (a.eval y).cells.size = n := by rw [← Array.length_toList, hc.length, hl]
  have hth : w.there b (g.o0 id + (i * g.mm id + j)) n := fun q hq => by
    have hlt : g.o0 id + (i * g.mm id + j) + q < cs.size := by rw [k7]; have := hbound (by omega); omega
    refine ⟨?_, frozen_none k2 k4 _ hlt⟩
    rw [cell_of k2]
    simp [hlt]
  have hrun := run_store_any (P := P) hn hsz hth (hc.one hy)
  obtain ⟨q1, q2, q3, q4, q5, q6⟩ := setCells_heap b (a.eval y).cells.toList (g.o0 id + (i * g.mm id + j)) w cs T' fr k2
  unfold Oper.wp
  have hex : (execOp a.eval o).run P w = .ok .skip (w.setCells b (g.o0 id + (i * g.mm id + j)) (a.eval y).cells.toList) := by
    simp only [execOp, ho, he]
    simp [Sem.run_bind, hrun]
  rw [hex, Oper.upon_skip]
  refine hK _ _ ⟨g, ?_⟩
  have hT := hR.turn hob' hz hb k2 q1 (by simp [length_owr]) q2 q3 q4 q5 q6 (ob.rows.set i (owr r j (s.ev y).cells)) (by
    rw [k7, List.toList_toArray, drop_owr]
    exact RepR.owr (i := i) hc k3 j hr (by omega))
  exact Rel.put hT o.dst hd (.v _)

/-! ### New memory -/
theorem run_newVar {w : World} (T : TypeId) (v : Value) : (newVar T v).run P w = .ok ⟨w.heap.size, 0, none⟩ (w.alloc (.cells v.cells T)) := by
  rfl
theorem new_step {f : Fr} {σ : St} {a : Act} {w : World} {g : Gh} (hd : ∀ d, o.dst = some d → d < f.N) (hR : Rel f g σ a w) (id : Nat) (hid : σ.obj id = .never) (cs : Array Value) (T : TypeId) (m : Nat) (rows : List (List SV))
    (hr : RepR g w.heap cs.toList m rows) (v : Value) (sv : SV)
    (hv : ∀ g', g'.β id = some w.heap.size → g'.mm id = m → g'.o0 id = 0 → Rep g' (w.alloc (.cells cs T)).heap v sv) :
    R f (σ.app ⟨o.dst, sv, [(id, .ob ⟨m, rows, false⟩)]⟩) (a.put o.dst v) (w.alloc (.cells cs T)) := by
  have hn := hR.new id hid cs T (0, 0) m rows hr (fun i _ h => by omega)
  have hb0 := hR.never id hid
  refine ⟨_, Rel.put hn o.dst hd (hv _ (by show (if id = id then _ else _) = _; rw [if_pos rfl]) (by show (if id = id then _ else _) = _; rw [if_pos rfl]) (by show (if id = id then _ else _) = _; rw [if_pos rfl]))⟩
theorem RepR.row {g : Gh} {H : Array Go.Obj} {xs : List Value} {r : List SV} {m : Nat} (h : RepL g H xs r) (hm : r.length = m) : RepR g H xs m [r] := by
  rw [← hm, ← h.length]
  exact RepR.one h
/-- A variable. -/
theorem step_alloc {T : TypeId} (ho : o.op = .alloc T) {z : Value} (hz : (P.info? T).bind (·.zero) = some z) {id m : Nat} (hid : s.obj id = .never) (hm : z.cells.size = m) :
    Step P o [.obj id] ⟨o.dst, .ref id 0 0, [(id, .ob ⟨m, [z.cells.toList.map SV.v], false⟩)]⟩ s := by
  intro f σ a w K Q hA hd ⟨g, hR⟩ hK
  have hid' : σ.obj id = .never := by rw [hA.2 id (List.mem_singleton.2 rfl)]; exact hid
  have hrun : (execOp a.eval o).run P w = .ok (.value (.pointer (some ⟨w.heap.size, 0, none⟩))) (w.alloc (.cells z.cells T)) := by
    cases hq : P.info? T with
    | none => simp [hq] at hz
    | some i =>
      have hzz : i.zero = some z := by simpa [hq] using hz
      simp [execOp, ho, Instr.alloc, zeroValue, typeInfo, hq, hzz, run_newVar]
  unfold Oper.wp
  rw [hrun, Oper.upon_value]
  refine hK _ _ (new_step hd hR id hid' _ T m _ (RepR.row (repL_v _) (by simpa using hm)) _ _ fun g' h1 h2 h3 => ?_)
  have := Rep.ref (g := g') (H := (w.alloc (.cells z.cells T)).heap) (i := 0) (j := 0) h1
  rw [h3] at this
  simpa using this
theorem step_box {T : TypeId} {x : Operand} (ho : o.op = .box T x) {id m : Nat} (hid : s.obj id = .never) (hm : (s.ev x).cells.length = m) :
    Step P o (locO x ++ [.obj id]) ⟨o.dst, .ref id 0 0, [(id, .ob ⟨m, [(s.ev x).cells], false⟩)]⟩ s := by
  intro f σ a w K Q hA hd ⟨g, hR⟩ hK
  have hid' : σ.obj id = .never := by rw [agree_obj hA]; exact hid
  have h2 := hR.ev x
  rw [ev_agree hA.left] at h2
  have hrun : (execOp a.eval o).run P w = .ok (.value (.pointer (some ⟨w.heap.size, 0, none⟩))) (w.alloc (.cells (a.eval x).cells T)) := by
    simp [execOp, ho, Instr.box, run_newVar]
  unfold Oper.wp
  rw [hrun, Oper.upon_value]
  refine hK _ _ (new_step hd hR id hid' _ T m _ (RepR.row h2.cells hm) _ _ fun g' h1 h2 h3 => ?_)
  have := Rep.ref (g := g') (H := (w.alloc (.cells (a.eval x).cells T)).heap) (i := 0) (j := 0) h1
  rw [h3] at this
  simpa using this
/-- A row of zeros. -/
theorem step_makeSlice {T e : TypeId} {x y : Operand} (ho : o.op = .makeSlice T x y) (hu : P.underlying T = some (.slice e)) {i : TypeInfo} (hi : P.info? e = some i) {z : Value} (hz : i.zero = some z) {k : IntKind} {n : Int}
    (hx : s.ev x = .v (.int k n)) (hy : s.ev y = .v (.int k n)) (h0 : 0 ≤ n) (hb : (i.bytes : Int) * n ≤ 281474976710656) (h63 : n ≤ 9223372036854775807) (hs : z.cells.size = i.size) {id m : Nat} (hm : i.size = m) (hm0 : 0 < m) (hid : s.obj id = .never) :
    Step P o (locO x ++ locO y ++ [.obj id]) ⟨o.dst, .own id 0 n.toNat, [(id, .ob ⟨m, List.replicate n.toNat (z.cells.toList.map SV.v), false⟩)]⟩ s := by
  intro f σ a w K Q hA hd ⟨g, hR⟩ hK
  have hid' : σ.obj id = .never := by rw [agree_obj hA]; exact hid
  have e1 := ev_v hR hA.left.left hx
  have e2 := ev_v hR hA.left.right hy
  have hmk := run_make (P := P) w T e i z hu hi hz k k n n h0 (Int.le_refl _) hb h63
  have hrun : (execOp a.eval o).run P w = .ok (.value (.slice (some ⟨w.heap.size, 0, none⟩) n.toNat n.toNat)) (w.alloc (.cells (madeCells z.cells (n.toNat * i.size)) e)) := by
    simp [execOp, ho, e1, e2, hmk]
  unfold Oper.wp
  rw [hrun, Oper.upon_value]
  have hrep : ∀ q : Nat, RepR g w.heap (madeCells z.cells (q * m)).toList m (List.replicate q (z.cells.toList.map SV.v)) := by
    intro q
    have hlist : ∀ q : Nat, (madeCells z.cells (q * m)).toList = (List.replicate q z.cells.toList).flatten := by
      intro q
      apply List.ext_getElem?
      intro k
      have hfl : ∀ (q k : Nat), (List.replicate q z.cells.toList).flatten[k]? = if k < q * m then z.cells[k % m]? else none := by
        intro q
        induction q with
        | zero => intro k; simp
        | succ q ih =>
          intro k
          rw [List.replicate_succ, List.flatten_cons, List.getElem?_append]
          have hl : z.cells.toList.length = m := by rw [Array.length_toList, hs, hm]
          rw [hl]
          by_cases hk : k < m
          · rw [if_pos hk, if_pos (by rw [Nat.succ_mul]; omega), Nat.mod_eq_of_lt hk]
            simp
          · rw [if_neg hk, ih]
            by_cases hk2 : k - m < q * m
            · rw [if_pos hk2, if_pos (by rw [Nat.succ_mul]; omega), ← Nat.mod_eq_sub_mod (Nat.le_of_not_lt hk)]
            · rw [if_neg hk2, if_neg (by rw [Nat.succ_mul]; omega)]
      rw [hfl]
      simp only [madeCells, Array.toList_map, Array.toList_range, List.getElem?_map]
      by_cases hk : k < q * m
      · have hmod : k % m < z.cells.size := by rw [hs, hm]; exact Nat.mod_lt _ hm0
        rw [if_pos hk, List.getElem?_range hk]
        simp [hs, hm, getElem!_pos z.cells (k % m) hmod, hmod]
      · rw [if_neg hk]
        simp
        omega
    rw [hlist]
    induction q with
    | zero => exact .nil
    | succ q ih =>
      rw [List.replicate_succ, List.replicate_succ, List.flatten_cons]
      exact .cons (by rw [Array.length_toList, hs, hm]) (repL_v _) ih
  refine hK _ _ (new_step hd hR id hid' _ e m _ (by rw [hm]; exact hrep _) _ _ fun g' h1 h2 h3 => ?_)
  have hH : (w.alloc (.cells (madeCells z.cells (n.toNat * i.size)) e)).heap[w.heap.size]? = some (.cells (madeCells z.cells (n.toNat * i.size)) e (0, 0)) := by
    show (w.heap.push _)[w.heap.size]? = _
    rw [Array.getElem?_push, if_pos rfl]
  have := Rep.own (g := g') (lo := 0) (len := n.toNat) (cap := n.toNat) h1 (Nat.le_refl _) hH (by rw [h3, h2, size_madeCells, Nat.zero_add, Nat.zero_add, hm]; exact Nat.le_refl _)
  rw [h3] at this
  simpa using this
end
end Go.Proofs.YtcbbpidnocgoiaaDoor.Eng

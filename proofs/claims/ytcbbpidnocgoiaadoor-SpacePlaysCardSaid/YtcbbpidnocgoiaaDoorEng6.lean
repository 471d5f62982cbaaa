/- Rows that are made, cut and appended to. -/
import Derived.Test.YtcbbpidnocgoiaaDoorEng5
namespace Go.Proofs.YtcbbpidnocgoiaaDoor.Eng
open Go Go.RowKit
set_option linter.unusedVariables false
set_option linter.unusedSimpArgs false

theorem owr_eq {α : Type} : ∀ (cs l : List α) (k : Nat), k + cs.length ≤ l.length → owr l k cs = l.take k ++ cs ++ l.drop (k + cs.length)
  | [], l, k, h => by simp [owr]
  | c :: cs, l, k, h => by
    rw [List.length_cons] at h
    rw [owr, owr_eq cs _ _ (by rw [List.length_set]; omega), List.length_cons]
    have h1 : (l.set k c).take (k + 1) = l.take k ++ [c] := by
      rw [List.take_add_one, List.getElem?_set_self (by omega), List.take_set_of_le (Nat.le_refl _)]
      rfl
    have h2 : (l.set k c).drop (k + 1 + cs.length) = l.drop (k + (cs.length + 1)) := by
      rw [List.drop_set_of_lt (by omega)]
      congr 1
      omega
    rw [h1, h2]
    simp
/-- A block that nobody else tells of becomes an object. -/
theorem Rel.adopt {f : Fr} {g : Gh} {s : St} {a : Act} {w : World} (h : Rel f g s a w) (id : Nat) (hid : s.obj id = .never) {b off m : Nat} {cs : Array Value} {T : TypeId} {fr : Nat × Nat} (hH : w.heap[b]? = some (.cells cs T fr)) (rows : List (List SV))
    (hr : RepR g w.heap (cs.toList.drop off) m rows) (hfr : ∀ i, i < cs.size → ¬ (fr.1 ≤ i ∧ i < fr.2)) (hF : ¬ g.F b) (hown : f.w0.heap.size ≤ b ∨ f.Wr b) (hno : ∀ i o, s.obj i = .ob o → o.fz = false → g.β i ≠ some b) :
    ∃ g', GExt g g' ∧ g'.β id = some b ∧ g'.o0 id = off ∧ g'.mm id = m ∧ g'.F = g.F ∧ Rel f g' (s.upd id (.ob ⟨m, rows, false⟩)) a w := by
  have hn := h.never id hid
  have hne : ∀ i b, g.β i = some b → i ≠ id := fun i b hb e => by rw [e, hn] at hb; cases hb
  refine ⟨{ g with β := fun i => if i = id then some b else g.β i, o0 := fun i => if i = id then off else g.o0 i, mm := fun i => if i = id then m else g.mm i }, ?_, by show (if id = id then _ else _) = _; rw [if_pos rfl], by show (if id = id then _ else _) = _; rw [if_pos rfl], by show (if id = id then _ else _) = _; rw [if_pos rfl], rfl, ?_⟩
  · exact ⟨fun i b hb => ⟨by show (if i = id then _ else _) = _; rw [if_neg (hne i b hb)]; exact hb, by show (if i = id then _ else _) = _; rw [if_neg (hne i b hb)], by show (if i = id then _ else _) = _; rw [if_neg (hne i b hb)]⟩, fun _ h => h⟩
  have hg : GExt g { g with β := fun i => if i = id then some b else g.β i, o0 := fun i => if i = id then off else g.o0 i, mm := fun i => if i = id then m else g.mm i } :=
    ⟨fun i b hb => ⟨by show (if i = id then _ else _) = _; rw [if_neg (hne i b hb)]; exact hb, by show (if i = id then _ else _) = _; rw [if_neg (hne i b hb)], by show (if i = id then _ else _) = _; rw [if_neg (hne i b hb)]⟩, fun _ h => h⟩
  have hobj : ∀ i o, (s.upd id (.ob ⟨m, rows, false⟩)).obj i = .ob o → (i = id ∧ o = ⟨m, rows, false⟩) ∨ (i ≠ id ∧ s.obj i = .ob o) := fun i o ho => by
    have ho : (if i = id then OS.ob ⟨m, rows, false⟩ else s.obj i) = .ob o := ho
    by_cases e : i = id
    · rw [if_pos e] at ho; exact .inl ⟨e, (OS.ob.inj ho).symm⟩
    · rw [if_neg e] at ho; exact .inr ⟨e, ho⟩
  refine { slot := fun t => (h.slot t).ext hg (Ext.refl _ _), size := h.size, defers := h.defers, never := ?_, ob := ?_, inj := ?_, own := ?_, base := h.base, hsize := h.hsize, F0 := h.F0, Fold := h.Fold, Flt := h.Flt, os := h.os, tape := h.tape, output := h.output, gext := h.gx hg, kept := h.kept, tb := h.tb.ext hg.F (Ext.refl _ _) }
  · intro i hi
    have hi : (if i = id then OS.ob ⟨m, rows, false⟩ else s.obj i) = .never := hi
    by_cases e : i = id
    · rw [if_pos e] at hi; cases hi
    · rw [if_neg e] at hi
      show (if i = id then _ else _) = _
      rw [if_neg e]
      exact h.never i hi
  · intro i o ho
    rcases hobj i o ho with ⟨rfl, rfl⟩ | ⟨e, ho⟩
    · exact ⟨⟨b, cs, T, fr, by show (if i = i then _ else _) = _; rw [if_pos rfl], hH, by show RepR _ _ (cs.toList.drop (if i = i then off else g.o0 i)) _ _; rw [if_pos rfl]; exact hr.ext hg (Ext.refl _ _), hfr, fun e => (by cases e), fun _ => hF⟩, by show (if i = i then _ else _) = _; rw [if_pos rfl]⟩
    · exact ObRep.ext hg (fun b hb _ => .inl hb) (Ext.refl _ _) (fun b cs T fr _ hb => hb) (h.ob i o ho)
  · intro i j o o' b' ho ho' hz hz' hb hb'
    have hb : (if i = id then some b else g.β i) = some b' := hb
    have hb' : (if j = id then some b else g.β j) = some b' := hb'
    rcases hobj i o ho with ⟨rfl, rfl⟩ | ⟨e, ho1⟩ <;> rcases hobj j o' ho' with ⟨rfl, rfl⟩ | ⟨e', ho1'⟩
    · rfl
    · rw [if_pos rfl] at hb
      rw [if_neg e'] at hb'
      exact (hno j o' ho1' hz' (by rw [hb', hb])).elim
    · rw [if_pos rfl] at hb'
      rw [if_neg e] at hb
      exact (hno i o ho1 hz (by rw [hb, hb'])).elim
    · rw [if_neg e] at hb
      rw [if_neg e'] at hb'
      exact h.inj i j o o' b' ho1 ho1' hz hz' hb hb'
  · intro i o b' ho hz hb
    have hb : (if i = id then some b else g.β i) = some b' := hb
    rcases hobj i o ho with ⟨rfl, rfl⟩ | ⟨e, ho⟩
    · rw [if_pos rfl] at hb
      obtain rfl := Option.some.inj hb
      exact hown
    · rw [if_neg e] at hb
      exact h.own i o b' ho hz hb
theorem LstAt.ext {g g' : Gh} {w : World} (hg : GExt g g') {x : Value} {m : Nat} {rows : List (List SV)} {vs : List Value} (h : LstAt g w x m rows vs) : LstAt g' w x m rows vs := ⟨h.ex, h.len, h.rep.ext hg (Ext.refl _ _)⟩
theorem RepR.one_all {g : Gh} {H : Array Go.Obj} : ∀ {xs : List Value} {m : Nat} {rows : List (List SV)}, RepR g H xs m rows → xs.length = rows.length * m → (rows.all fun r => r.all SV.one) = true → ∀ v ∈ xs, v.oneCell' = true
  | xs, m, _, .nil, hl, _, v, hv => by
    have : xs = [] := List.eq_nil_of_length_eq_zero (by simpa using hl)
    rw [this] at hv
    cases hv
  | _, m, _, .cons (xs := xs) (ys := ys) (rows := rows) hm h t, hl, ho, v, hv => by
    rw [List.all_cons, Bool.and_eq_true] at ho
    rw [List.length_append, List.length_cons, Nat.succ_mul] at hl
    rcases List.mem_append.1 hv with hv | hv
    · exact h.one ho.1 v hv
    · exact t.one_all (by omega) ho.2 v hv
section
variable {P : Program} {o : Oper} {s : St}
theorem LstAt.src {g : Gh} {w : World} {x : Value} {m : Nat} {rows : List (List SV)} {vs : List Value} (h : LstAt g w x m rows vs) (hm : 0 < m) {tx e' : TypeId} (hk : P.underlying tx = some (.slice e')) (ho : (rows.all fun r => r.all SV.one) = true) :
    Src P m tx x rows.length vs w := by
  obtain ⟨⟨A, c, rfl, hc⟩, hl, hr⟩ := h
  have h1 := hr.one_all hl ho
  cases A with
  | some ad =>
    refine Src.ofSlice w hk ad rows.length c vs hl (fun j u hj => ?_) h1
    obtain ⟨b, off, e, hcell⟩ := hc j u hj
    rw [Option.some.inj e, Addr.add_mid]
    exact hcell
  | none =>
    have hv : vs = [] := by
      cases vs with
      | nil => rfl
      | cons v vs =>
        obtain ⟨b, off, e, _⟩ := hc 0 v rfl
        cases e
    subst hv
    have hn : rows.length = 0 := by
      rcases Nat.eq_zero_or_pos rows.length with h | h
      · exact h
      · have := Nat.mul_pos h hm
        simp at hl
        omega
    rw [hn]
    exact Src.ofNil w hk c
theorem exec_append {x y : Operand} {T Ty : TypeId} (ho : o.op = .call { callee := .builtin .append, args := #[x, y], argTypes := #[T, Ty] }) {ρ : Operand → Value} {w w' : World} {v : Value} (h : (Builtin.append_ #[T, Ty] o.type #[ρ x, ρ y]).run P w = .ok v w') :
    (execOp ρ o).run P w = .ok (.value v) w' := by
  simp [execOp, ho, resolve, invoke, builtin, Sem.run_bind, h]
theorem size_zeroCells (z : Array Value) (n : Nat) : (Builtin.zeroCells z n).size = n * z.size := by simp [Builtin.zeroCells]
/-- What an append comes to, where there is no room. -/
theorem grow_R {f : Fr} {g : Gh} {σ : St} {a : Act} {w : World} (hd : ∀ d, o.dst = some d → d < f.N) (hR : Rel f g σ a w) (id' : Nat) (hid : σ.obj id' = .never) (e : TypeId) (zc : Array Value) (m need sCap : Nat) (hzc : zc.size = m) (all : List Value) (rows : List (List SV))
    (hr : RepR g w.heap all m rows) (hl : all.length = need * m) :
    R f ((σ.upd id' (.ob ⟨m, rows, false⟩)).put o.dst (.own id' 0 need)) (a.put o.dst (.slice (some ⟨w.heap.size, 0, none⟩) need (grownCap w need sCap e)))
      (w.drew.alloc (.cells (all.toArray ++ Builtin.zeroCells zc (grownCap w need sCap e - need)) e)) := by
  have hR1 : Rel f g σ a w.drew := hR.drew rfl rfl rfl rfl
  have hge := grownCap_ge w need sCap e
  have hcs : (all.toArray ++ Builtin.zeroCells zc (grownCap w need sCap e - need)).size = grownCap w need sCap e * m := by
    rw [Array.size_append, size_zeroCells, hzc, List.size_toArray, hl, ← Nat.add_mul]
    congr 1
    omega
  have h := new_step (o := o) hd hR1 id' hid (all.toArray ++ Builtin.zeroCells zc (grownCap w need sCap e - need)) e m rows (by
    have := hr.more (Builtin.zeroCells zc (grownCap w need sCap e - need)).toList
    rw [Array.toList_append, List.toList_toArray]
    exact this) (.slice (some ⟨w.heap.size, 0, none⟩) need (grownCap w need sCap e)) (.own id' 0 need) (fun g' h1 h2 h3 => by
      have hH : (w.drew.alloc (.cells (all.toArray ++ Builtin.zeroCells zc (grownCap w need sCap e - need)) e)).heap[w.drew.heap.size]? = some (.cells (all.toArray ++ Builtin.zeroCells zc (grownCap w need sCap e - need)) e (0, 0)) := by
        show (w.heap.push _)[w.heap.size]? = _
        rw [Array.getElem?_push, if_pos rfl]
      have := Rep.own (g := g') (lo := 0) (len := need) (cap := grownCap w need sCap e) h1 hge hH (by rw [h3, h2, hcs]; simp)
      rw [h3] at this
      simpa using this)
  exact h
/-- An append to a row of our own. -/
theorem step_append {x y : Operand} {T Ty e e2 : TypeId} (ho : o.op = .call { callee := .builtin .append, args := #[x, y], argTypes := #[T, Ty] }) (hu : P.underlying T = some (.slice e)) (hu2 : P.underlying Ty = some (.slice e2))
    {i : TypeInfo} (hi : P.info? e = some i) {z : Value} (hz : i.zero = some z) (hzs : z.cells.size = i.size) {id id' lo len : Nat} {ob : Ob} {rx ry : List (List SV)} {L : List Loc} (him : i.size = ob.m) (hm0 : 0 < ob.m)
    (hx : s.ev x = .own id lo len) (hob : s.obj id = .ob ob) (hfz : ob.fz = false) (hrx : (ob.rows.drop lo).take len = rx) (hlx : rx.length = len) (hy : LstOf s (s.ev y) ob.m ry L) (hone : (ry.all fun r => r.all SV.one) = true) (honex : (rx.all fun r => r.all SV.one) = true)
    (hid : s.obj id' = .never) (hlim : (len + ry.length) * i.bytes ≤ 140737488355328) (h63 : len + ry.length ≤ 9223372036854775807) :
    Step P o (locO x ++ locO y ++ L ++ [.obj id] ++ [.obj id']) ⟨o.dst, .own id' 0 (len + ry.length), [(id, .dead), (id', .ob ⟨ob.m, rx ++ ry, false⟩)]⟩ s := by
  intro f σ a w K Q hA hd ⟨g, hR⟩ hK
  have hob' : σ.obj id = .ob ob := by rw [agree_obj hA.left]; exact hob
  have hid' : σ.obj id' = .never := by rw [agree_obj hA]; exact hid
  have hne : id' ≠ id := by rintro rfl; rw [hob'] at hid'; cases hid'
  have hx1 := hR.ev x
  rw [ev_agree hA.left.left.left.left, hx] at hx1
  have hy1 := hR.ev y
  rw [ev_agree hA.left.left.left.right] at hy1
  obtain ⟨ws, hws⟩ := LstOf.at hR (hy.agree hA.left.left.right) hy1
  have hsrc := hws.src hm0 hu2 hone
  obtain ⟨b, vs, hb, hvl, hvr, hvc⟩ := (hR.ob id ob hob').cells lo len hrx hlx
  obtain ⟨⟨b', cs, T', fr, k1, k2, k3, k4, k5, k6⟩, k7⟩ := hR.ob id ob hob'
  rw [hb] at k1
  obtain rfl := Option.some.inj k1
  have hk : (σ.upd id .dead).obj id' = .never := by show (if id' = id then _ else _) = _; rw [if_neg hne]; exact hid'
  generalize hex : a.eval x = v at hx1
  generalize hey : a.eval y = v2 at hy1 hws hsrc
  unfold Oper.wp
  cases hx1 with
  | @own _ _ _ cap b2 cs2 T2 fr2 hb2 hlc hH2 hcap =>
    rw [hb] at hb2
    obtain rfl := Option.some.inj hb2
    rw [k2] at hH2
    obtain ⟨rfl, rfl, rfl⟩ := Go.Obj.cells.inj (Option.some.inj hH2)
    rw [k7] at hcap
    have hrows : (rx ++ ry).length = len + ry.length := by rw [List.length_append, hlx]
    have hmul : (lo + cap) * ob.m = lo * ob.m + cap * ob.m := Nat.add_mul ..
    by_cases hroom : len + ry.length ≤ cap
    · -- there is room
      have hm2 : (len + ry.length) * ob.m ≤ cap * ob.m := Nat.mul_le_mul_right _ hroom
      rw [Nat.add_mul] at hm2
      have hwl := hws.len
      have hat : ∀ j, j < ws.length → g.o0 id + lo * ob.m + len * ob.m + j < cs.size := fun j hj => by omega
      have hrun := run_append_room_src (P := P) w T Ty o.type e i hu hi b (g.o0 id + lo * g.mm id) len cap v2 ry.length ws (by rw [him]; exact hsrc) hroom
        (fun j hj => by rw [cell_of k2, k7, him]; simp [hat j hj]) (fun j hj => by rw [k7, him]; exact frozen_none k2 k4 _ (hat j hj))
      rw [exec_append ho (by rw [hex, hey]; exact hrun), Oper.upon_value]
      have hRk := hR.kill id
      have hdrop : cs.toList.drop (g.o0 id + lo * ob.m) = (cs.toList.drop (g.o0 id)).drop (lo * ob.m) := by rw [List.drop_drop]
      have hcsl : cs.toList.length = cs.size := Array.length_toList
      have hlo : lo ≤ ob.rows.length ∨ len = 0 := by
        have := congrArg List.length hrx
        rw [List.length_take, List.length_drop, hlx] at this
        omega
      have hrx1 : RepR g w.heap ((cs.toList.drop (g.o0 id + lo * ob.m)).take (len * ob.m)) ob.m rx := by
        rcases Nat.eq_zero_or_pos len with h0 | hp
        · have : rx = [] := List.eq_nil_of_length_eq_zero (by omega)
          rw [this]
          exact .nil
        · rw [hdrop]
          have := (k3.drop lo (by omega)).take len
          rw [hrx] at this
          exact RepR.left this _ (by rw [hlx]; exact Nat.le_refl _)
      have hrx2 : RepR g w.heap (cs.toList.drop (g.o0 id + lo * ob.m)) ob.m rx := by
        have := hrx1.more ((cs.toList.drop (g.o0 id + lo * ob.m)).drop (len * ob.m))
        rwa [List.take_append_drop] at this
      obtain ⟨g', hg, e1, e2, e3, e4, hRa⟩ := hRk.adopt id' hk k2 rx hrx2 k4 (k6 hfz) (hR.own id ob b hob' hfz hb) (fun i1 o1 h1 hz1 hb1 => by
        have h1' : (if i1 = id then OS.dead else σ.obj i1) = .ob o1 := h1
        by_cases e : i1 = id
        · rw [if_pos e] at h1'; cases h1'
        · rw [if_neg e] at h1'
          exact e (hR.inj i1 id o1 ob b h1' hob' hz1 hfz hb1 hb))
      obtain ⟨q1, q2, q3, q4, q5, q6⟩ := setCells_heap b ws (g.o0 id + lo * g.mm id + len * i.size) w cs T' fr k2
      have hnew : RepR g' w.heap ((owr cs.toList (g.o0 id + lo * g.mm id + len * i.size) ws).toArray.toList.drop (g'.o0 id')) ob.m (rx ++ ry) := by
        rw [e2, List.toList_toArray, k7, him, Nat.add_assoc _ (lo * ob.m), ← Nat.add_assoc (g.o0 id), drop_owr, owr_eq _ _ _ (by rw [List.length_drop, hcsl]; omega), List.append_assoc]
        have hl1 : ((cs.toList.drop (g.o0 id + lo * ob.m)).take (len * ob.m)).length = len * ob.m := by rw [List.length_take, List.length_drop, hcsl]; omega
        exact (hrx1.ext hg (Ext.refl _ _)).app (by rw [hl1, hlx]) ((hws.rep.ext hg (Ext.refl _ _)).more _)
      have hT := hRa.turn (id := id') (o := ⟨ob.m, rx, false⟩) (by show (if id' = id' then _ else _) = _; rw [if_pos rfl]) rfl e1 k2 q1 (by simp [length_owr]) q2 q3 q4 q5 q6 (rx ++ ry) hnew
      have hrep : Rep g' (w.setCells b (g.o0 id + lo * g.mm id + len * i.size) ws).heap (.slice (some ⟨b, g.o0 id + lo * g.mm id, none⟩) (len + ry.length) cap) (.own id' 0 (len + ry.length)) := by
        have := Rep.own (g := g') (lo := 0) (len := len + ry.length) (cap := cap) e1 hroom q1 (by rw [e2, e3]; simp [length_owr]; omega)
        rw [e2, k7.symm] at this
        simpa using this
      refine hK _ _ ⟨g', ?_⟩
      have hP := Rel.put hT o.dst hd hrep
      have hs : (((σ.upd id .dead).upd id' (.ob ⟨ob.m, rx, false⟩)).upd id' (.ob ⟨ob.m, rx ++ ry, false⟩)) = (σ.upd id .dead).upd id' (.ob ⟨ob.m, rx ++ ry, false⟩) := by
        unfold St.upd
        congr 1
        funext i1
        by_cases e : i1 = id'
        · simp [e]
        · simp [e]
      rw [hs] at hP
      exact hP
    · -- there is none
      have hold : (Builtin.firstCells i.size len (.slice (some ⟨b, g.o0 id + lo * g.mm id, none⟩) len cap)).run P w.drew = .ok vs.toArray w.drew :=
        run_firstCells_some w.drew i.size len _ len cap vs (by rw [hvl, him]) fun j u hj => by
          rw [Addr.add_mid]
          exact hvc j u hj
      have hrun := run_append_grow_src (P := P) w T Ty o.type e i z hu hi hz (some ⟨b, g.o0 id + lo * g.mm id, none⟩) len cap vs hold v2 ry.length ws (by rw [him]; exact hsrc) (by omega) (by omega) (growslice_fits (by omega) hlim)
      rw [exec_append ho (by rw [hex, hey]; exact hrun), Oper.upon_value]
      have hRk := hR.kill id
      have hwl := hws.len
      exact hK _ _ (grow_R hd hRk id' hk e z.cells ob.m (len + ry.length) cap (by rw [hzs, him]) (vs ++ ws) (rx ++ ry) (hvr.app (by rw [hvl, hlx]) hws.rep) (by rw [List.length_append, hvl, hwl, Nat.add_mul]))
/-- An append to nothing. -/
theorem step_append_nil {x y : Operand} {T Ty e e2 : TypeId} (ho : o.op = .call { callee := .builtin .append, args := #[x, y], argTypes := #[T, Ty] }) (hu : P.underlying T = some (.slice e)) (hu2 : P.underlying Ty = some (.slice e2))
    {i : TypeInfo} (hi : P.info? e = some i) {z : Value} (hz : i.zero = some z) (hzs : z.cells.size = i.size) {id' m : Nat} {ry : List (List SV)} {L : List Loc} (him : i.size = m) (hm0 : 0 < m)
    (hx : s.ev x = .v (.slice none 0 0)) (hy : LstOf s (s.ev y) m ry L) (hone : (ry.all fun r => r.all SV.one) = true) (hpos : 0 < ry.length)
    (hid : s.obj id' = .never) (hlim : ry.length * i.bytes ≤ 140737488355328) (h63 : ry.length ≤ 9223372036854775807) :
    Step P o (locO x ++ locO y ++ L ++ [.obj id']) ⟨o.dst, .own id' 0 ry.length, [(id', .ob ⟨m, ry, false⟩)]⟩ s := by
  intro f σ a w K Q hA hd ⟨g, hR⟩ hK
  have hid' : σ.obj id' = .never := by rw [agree_obj hA]; exact hid
  have hx1 := ev_v hR hA.left.left.left hx
  have hy1 := hR.ev y
  rw [ev_agree hA.left.left.right] at hy1
  obtain ⟨ws, hws⟩ := LstOf.at hR (hy.agree hA.left.right) hy1
  have hsrc := hws.src hm0 hu2 hone
  have hwl := hws.len
  generalize hey : a.eval y = v2 at hy1 hws hsrc
  unfold Oper.wp
  have hrun := run_append_grow_src (P := P) w T Ty o.type e i z hu hi hz none 0 0 [] (run_firstCells_none w.drew i.size 0 0 0) v2 ry.length ws (by rw [him]; exact hsrc) (by omega) (by omega) (growslice_fits (by omega) (by simpa using hlim))
  rw [Nat.zero_add, List.nil_append] at hrun
  rw [exec_append ho (by rw [hx1, hey]; exact hrun), Oper.upon_value]
  exact hK _ _ (grow_R hd hR id' hid' e z.cells m ry.length 0 (by rw [hzs, him]) ws ry hws.rep hwl)
/-- An append of nothing to nothing. -/
theorem step_append_nil_nil {x y : Operand} {T Ty e e2 : TypeId} (ho : o.op = .call { callee := .builtin .append, args := #[x, y], argTypes := #[T, Ty] }) (hu : P.underlying T = some (.slice e)) (hu2 : P.underlying Ty = some (.slice e2))
    {i : TypeInfo} (hi : P.info? e = some i) {m : Nat} {L : List Loc} (him : i.size = m) (hm0 : 0 < m)
    (hx : s.ev x = .v (.slice none 0 0)) (hy : LstOf s (s.ev y) m [] L) : Step P o (locO x ++ locO y ++ L) ⟨o.dst, .v (.slice none 0 0), []⟩ s :=
  step_value fun g σ f a w hA hR => by
    have hx1 := ev_v hR hA.left.left hx
    have hy1 := hR.ev y
    rw [ev_agree hA.left.right] at hy1
    obtain ⟨ws, hws⟩ := LstOf.at hR (hy.agree hA.right) hy1
    have hsrc := hws.src (P := P) hm0 hu2 rfl
    generalize hey : a.eval y = v2 at hy1 hws hsrc
    refine ⟨_, exec_append ho ?_, .v _⟩
    rw [hx1, hey]
    have hl := hsrc.len
    have hc := hsrc.cells
    simp at hl hc
    simp [Builtin.append_, run_underlying hu, run_underlying hu2, sizeOf, typeInfo, hi, him, hl, hc]
end
end Go.Proofs.YtcbbpidnocgoiaaDoor.Eng

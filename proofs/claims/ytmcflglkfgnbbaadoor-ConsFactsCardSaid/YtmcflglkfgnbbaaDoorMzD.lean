/- Texts of this claim, put together: part 4. -/
import Derived.Test.YtmcflglkfgnbbaaDoorMzC
/- Rows that are made, cut, appended to. -/
namespace Go.Proofs.YtmcflglkfgnbbaaDoor.Eng
open Go Go.RowKit
set_option linter.unusedVariables false
set_option linter.unusedSimpArgs false
theorem fill_all (size : Nat) : ∀ (vs : List Value) (k : Nat) (cells : Array Value), (∀ v ∈ vs, v.cells.size = size) → k * size + vs.length * size ≤ cells.size →
    ∃ out, Instr.fill (fun i => some (i * size, size)) cells ((List.range' k vs.length).zip vs) = some out ∧ out.toList = cells.toList.take (k * size) ++ (vs.map (·.cells.toList)).flatten ++ cells.toList.drop (k * size + vs.length * size)
  | [], k, cells, _, _ => ⟨cells, rfl, by simp⟩
  | v :: vs, k, cells, hv, hle => by
    rw [List.length_cons, List.range'_succ, List.zip_cons_cons]
    have h1 := hv v List.mem_cons_self
    rw [List.length_cons, Nat.succ_mul] at hle
    unfold Instr.fill
    dsimp only
    rw [if_neg (by simp [h1]; omega)]
    have hf : (v.cells.zipIdx.foldl (fun cs (c, j) => cs.setIfInBounds (k * size + j) c) cells).toList = cells.toList.take (k * size) ++ v.cells.toList ++ cells.toList.drop (k * size + size) := by
      rw [← Array.foldl_toList]
      have := foldl_owr v.cells.toList 0 (k * size) cells
      simp only [Array.toList_zipIdx] at this ⊢
      rw [this, Nat.add_zero, owr_eq _ _ _ (by rw [Array.length_toList, h1, Array.length_toList]; omega), Array.length_toList, h1]
    generalize (v.cells.zipIdx.foldl (fun cs (c, j) => cs.setIfInBounds (k * size + j) c) cells) = c1 at hf
    have hsz : c1.size = cells.size := by
      have := congrArg List.length hf
      simp only [Array.length_toList, List.length_append, List.length_take, List.length_drop, h1] at this
      omega
    obtain ⟨out, e1, e2⟩ := fill_all size vs (k + 1) c1 (fun v hm => hv v (List.mem_cons_of_mem _ hm)) (by rw [Nat.succ_mul, hsz]; omega)
    refine ⟨out, e1, ?_⟩
    rw [e2, hf, Nat.succ_mul, List.map_cons, List.flatten_cons]
    have hl1 : (cells.toList.take (k * size) ++ v.cells.toList).length = k * size + size := by
      rw [List.length_append, List.length_take, Array.length_toList, Array.length_toList, h1]
      omega
    rw [List.take_left' hl1, ← List.drop_drop (i := vs.length * size) (j := k * size + size), List.drop_left' hl1, List.drop_drop]
    have e3 : k * size + size + vs.length * size = k * size + (vs.length + 1) * size := by rw [Nat.succ_mul]; omega
    rw [e3]
    simp only [List.append_assoc]
theorem repR_flat {g : Gh} {H : Array Go.Obj} {m : Nat} : ∀ (vs : List Value) (css : List (List SV)), (∀ (i : Nat) (v : Value) (cs : List SV), vs[i]? = some v → css[i]? = some cs → RepL g H v.cells.toList cs) → vs.length = css.length → (∀ cs ∈ css, cs.length = m) → RepR g H (vs.map (·.cells.toList)).flatten m css
  | [], [], _, _, _ => .nil
  | v :: vs, cs :: css, h, hl, hm => by
    have h0 := h 0 v cs rfl rfl
    rw [List.map_cons, List.flatten_cons]
    exact .cons (by rw [h0.length]; exact hm cs List.mem_cons_self) h0 (repR_flat vs css (fun i v cs h1 h2 => h (i + 1) v cs (by simpa using h1) (by simpa using h2)) (by simpa using hl) fun cs hc => hm cs (List.mem_cons_of_mem _ hc))
  | [], _ :: _, _, h, _ => by cases h
  | _ :: _, [], _, h, _ => by cases h
theorem run_buildSlice0 {P : Program} (w : World) (t e : TypeId) (u : TypeInfo) (hu : P.underlying t = some (.slice e)) (hi : P.info? e = some u) : (Instr.buildSlice t 0 #[]).run P w = .ok (.slice (some ⟨w.heap.size, 0, none⟩) 0 0) (w.alloc (.cells #[] e)) := by
  simp [Instr.buildSlice, run_underlying hu, sizeOf, typeInfo, hi, newRow, Instr.fill]
  rw [show (Array.range 0 : Array Nat) = #[] from by simp, Array.map_empty]
section
variable {P : Program} {tt : Nat → Option TI} {o : Oper} {s : St}
theorem w_sliceN (ht : Tab P tt) {T e : TypeId} {n : Nat} {parts : Array (Nat × Operand)} (ho : o.op = .buildSlice T n parts) {t : TI} (h1 : tt T = some t) (h2 : t.elem = some e) {u : TI} (h3 : tt e = some u) (id : Nat) (hm0 : 0 < u.size) (hsm : n * u.size ≤ 16777216) (hid : s.obj id = .never)
    (hp : parts.toList.map (·.1) = List.range n) {css : List (List SV)} (hc : parts.toList.map (fun p => (s.ev p.2).cells) = css) (hl : ∀ cs ∈ css, cs.length = u.size) :
    Step P o (locs (parts.toList.map (·.2)) ++ [.obj id]) ⟨o.dst, .own id 0 n, [(id, .ob ⟨u.size, css, false⟩)]⟩ s := by
  intro f σ a w K Q hA hd ⟨g, hR⟩ hK
  have hid' : σ.obj id = .never := by rw [agree_obj hA]; exact hid
  have hrep := repL_ev hR (parts.toList.map (·.2))
  rw [map_ev_agree hA.left] at hrep
  have hsl := (ht T t h1).sl h2
  obtain ⟨d, i, z, g1, g2, g3, g4, g5, g6, g7, g8, _⟩ := ht e u h3
  have hpl : parts.toList.length = n := by have := congrArg List.length hp; simpa using this
  have hcl : css.length = n := by rw [← hc, List.length_map, hpl]
  -- the values
  have hcells : ∀ (k : Nat) (v : Value) (cs : List SV), ((parts.toList.map (·.2)).map a.eval)[k]? = some v → css[k]? = some cs → RepL g w.heap v.cells.toList cs := fun k v cs hv hcs => by
    rw [← hc, List.getElem?_map] at hcs
    cases hk : parts.toList[k]? with
    | none => rw [hk] at hcs; cases hcs
    | some p =>
      rw [hk] at hcs
      obtain ⟨x, hx, hr⟩ := hrep.get k (s.ev p.2) (by rw [List.getElem?_map, List.getElem?_map, hk]; rfl)
      rw [hv] at hx
      obtain rfl := Option.some.inj hx
      obtain rfl := Option.some.inj hcs
      exact hr.cells
  have hszs : ∀ v ∈ (parts.toList.map (·.2)).map a.eval, v.cells.size = u.size := fun v hv => by
    obtain ⟨k, hk⟩ := List.mem_iff_getElem?.1 hv
    have hlt : k < css.length := by have := (List.getElem?_eq_some_iff.1 hk).1; simp only [List.length_map] at this; omega
    have := hcells k v _ hk (List.getElem?_eq_getElem hlt)
    rw [← Array.length_toList, this.length]
    exact hl _ (List.getElem_mem hlt)
  have hvl : ((parts.toList.map (·.2)).map a.eval).length = n := by simp [hpl]
  have hrun : ∃ cells : Array Value, (execOp a.eval o).run P w = .ok (.value (.slice (some ⟨w.heap.size, 0, none⟩) n n)) (w.alloc (.cells cells e)) ∧ cells.toList = (((parts.toList.map (·.2)).map a.eval).map (·.cells.toList)).flatten := by
    rcases Nat.eq_zero_or_pos n with h0 | hpos
    · subst h0
      have hpe : parts = #[] := by apply Array.ext'; simpa using List.eq_nil_of_length_eq_zero hpl
      subst hpe
      refine ⟨#[], ?_, by simp⟩
      have := run_buildSlice0 (P := P) w T e i hsl g2
      simp only [execOp, ho]
      rw [Sem.run_bind]
      simp only [List.map_toArray, List.map_nil]
      rw [this]
      rfl
    · obtain ⟨out, e1, e2⟩ := fill_all u.size ((parts.toList.map (·.2)).map a.eval) 0 ((Array.range (n * i.size)).map (z.cells[· % z.cells.size]!)) hszs (by rw [hvl, g5]; simp)
      have hz : (List.range' 0 ((parts.toList.map (·.2)).map a.eval).length).zip ((parts.toList.map (·.2)).map a.eval) = (parts.map fun (i, x) => (i, a.eval x)).toList := by
        rw [hvl, ← List.range_eq_range', ← hp, List.map_map, List.zip_map', Array.toList_map]
        rfl
      rw [hz, ← g5] at e1
      have hn : ¬ n * i.size = 0 := by rw [g5]; have := Nat.mul_pos hpos hm0; omega
      have := run_buildSlice (P := P) w T e n (parts.map fun (i, x) => (i, a.eval x)) out i z hsl g2 g3 (by rw [g5]; omega) hn e1
      refine ⟨out, ?_, ?_⟩
      · simp only [execOp, ho]
        rw [Sem.run_bind, this]
        rfl
      · rw [e2, hvl, Nat.zero_mul, List.take_zero, List.nil_append, Nat.zero_add, List.drop_of_length_le (by simp [g5]), List.append_nil]
  obtain ⟨cells, hrun, hcs⟩ := hrun
  have hrr := repR_flat (g := g) (H := w.heap) (m := u.size) _ css hcells (by rw [hvl, hcl]) hl
  rw [← hcs] at hrr
  unfold Oper.wp
  rw [hrun, Oper.upon_value]
  refine hK _ _ (new_step hd hR id hid' _ e u.size css hrr _ _ fun g' k1 k2 k3 => ?_)
  have hsz : (w.alloc (.cells cells e)).heap[w.heap.size]? = some (Go.Obj.cells cells e (0, 0)) := by
    show (w.heap.push _)[w.heap.size]? = _
    rw [Array.getElem?_push, if_pos rfl]
  have hlen := hrr.len
  rw [hcl, Array.length_toList] at hlen
  have := Rep.own (g := g') (H := (w.alloc (.cells cells e)).heap) (id := id) (lo := 0) (len := n) (cap := n) (fr := (0, 0)) k1 (Nat.le_refl _) hsz (by rw [k2, k3, Nat.zero_add, Nat.zero_add]; exact hlen)
  rw [k3] at this
  simpa using this
/-- A part of a row of our own, that is its own row from then on. -/
theorem w_cut_adopt (ht : Tab P tt) {T e : TypeId} {x : Operand} {lo hi : Option Operand} (ho : o.op = .slice T x lo hi none) {t : TI} (h1 : tt T = some t) (h2 : t.elem = some e) {u : TI} (h3 : tt e = some u) {id lo0 len : Nat} {ob : Ob} (hx : s.ev x = .own id lo0 len) (hob : s.obj id = .ob ob) (hfz : ob.fz = false) (hm : ob.m = u.size)
    (l h : Nat) (hl : bndO s lo 0 l) (hh : bndO s hi len h) (h4 : l ≤ h) (h5 : h ≤ len) (id' : Nat) (hid : s.obj id' = .never) {rows : List (List SV)} (hr : (ob.rows.drop (lo0 + l)).take (h - l) = rows) (hrl : rows.length = h - l) :
    Step P o (locO x ++ locB lo ++ locB hi ++ [.obj id] ++ [.obj id']) ⟨o.dst, .own id' 0 (h - l), [(id, .dead), (id', .ob ⟨ob.m, rows, false⟩)]⟩ s := by
  intro f σ a w K Q hA hd ⟨g, hR⟩ hK
  have hob' : σ.obj id = .ob ob := by rw [agree_obj hA.left]; exact hob
  have hid' : σ.obj id' = .never := by rw [agree_obj hA]; exact hid
  have hne : id' ≠ id := by rintro rfl; rw [hob'] at hid'; cases hid'
  have e1 := hR.ev x
  rw [ev_agree hA.left.left.left.left, hx] at e1
  have hsl := (ht T t h1).sl h2
  obtain ⟨ie, hie, hsz⟩ := Option.map_eq_some_iff.1 (ht e u h3).sz
  obtain ⟨⟨b', cs, T', fr, k1, k2, k3, k4, k5, k6⟩, k7⟩ := hR.ob id ob hob'
  have hk : (σ.upd id .dead).obj id' = .never := by show (if id' = id then _ else _) = _; rw [if_neg hne]; exact hid'
  generalize hX : a.eval x = X at e1
  cases e1 with
  | @own _ _ _ cap b cs1 T1 fr1 hb hlc hH hcap =>
    rw [k1] at hb
    obtain rfl := Option.some.inj hb
    obtain ⟨k7, k2⟩ := k2.cells hH
    rw [k2] at hH
    obtain ⟨rfl, rfl, rfl⟩ := Go.Obj.cells.inj (Option.some.inj hH)
    have hbd := run_bounds (P := P) (isS := true) (hh.val hA.left.left.right hR) (hl.val hA.left.left.left.right hR) h4 (Nat.le_trans h5 hlc) w
    have hRk := hR.kill id
    obtain ⟨off, hoff⟩ : ∃ off, off = if cap = l then g.o0 id + lo0 * g.mm id else g.o0 id + (lo0 + l) * g.mm id := ⟨_, rfl⟩
    have hrun : (execOp a.eval o).run P w = .ok (.value (.slice (some ⟨b', off, none⟩) (h - l) (cap - l))) w := by
      simp only [execOp, ho, hX]
      have hadd : g.o0 id + lo0 * g.mm id + l * ie.size = g.o0 id + (lo0 + l) * g.mm id := by rw [hsz, ← hm, ← k7, Nat.add_mul]; omega
      by_cases hc : cap = l
      · subst hc
        simp [Instr.sliceAt, Instr.slice, run_underlying hsl, hbd, sizeOf, typeInfo, hie, hoff]
      · simp [Instr.sliceAt, Instr.slice, run_underlying hsl, hbd, sizeOf, typeInfo, hie, hc, hoff, addr_add, hadd]
    have hrows : RepR g w.heap (cs.toList.drop off) ob.m rows := by
      rcases Nat.eq_zero_or_pos (h - l) with h0 | hp
      · have : rows = [] := List.eq_nil_of_length_eq_zero (by omega)
        rw [this]
        exact .nil
      · have hnc : ¬ cap = l := by omega
        have hlen := congrArg List.length hr
        rw [List.length_take, List.length_drop, hrl] at hlen
        have hd := (k3.drop (lo0 + l) (by omega)).take (h - l)
        rw [hr, List.drop_drop] at hd
        rw [hoff, if_neg hnc, k7]
        exact hd
    obtain ⟨g', hg, e1, e2, e3, e4, hRa⟩ := hRk.adopt id' hk k2 rows hrows k4 (k6 hfz) (hR.own id ob b' hob' hfz k1) (fun i1 o1 h1 hz1 hb1 => by
      have h1' : (if i1 = id then OS.dead else σ.obj i1) = .ob o1 := h1
      by_cases e : i1 = id
      · rw [if_pos e] at h1'; cases h1'
      · rw [if_neg e] at h1'
        exact e (hR.inj i1 id o1 ob b' h1' hob' hz1 hfz hb1 k1))
    unfold Oper.wp
    rw [hrun, Oper.upon_value]
    refine hK _ _ ⟨g', Rel.put hRa o.dst hd ?_⟩
    have hbnd : g'.o0 id' + (0 + (cap - l)) * g'.mm id' ≤ cs.size := by
      rw [e2, e3, hoff, ← k7]
      have hmul : (lo0 + cap) * g.mm id = lo0 * g.mm id + cap * g.mm id := Nat.add_mul ..
      by_cases hc : cap = l
      · rw [if_pos hc, hc]
        simp
        omega
      · rw [if_neg hc, Nat.add_mul, Nat.zero_add]
        have : (cap - l) * g.mm id + l * g.mm id = cap * g.mm id := by rw [← Nat.add_mul]; congr 1; omega
        omega
    have := Rep.own (g := g') (lo := 0) (len := h - l) (cap := cap - l) e1 (by omega) k2 hbnd
    rw [e2] at this
    simpa using this
end
section
variable {P : Program} {X : Cx} {s : TS X.U} {o : Oper} {σ : St} {R : Type} {r : R} {k : List Loc → TEff X.U → Option R}
def evMake (X : Cx) (s : TS X.U) (T : TypeId) (x y : Operand) (k : List Loc → TEff X.U → Option R) : Option R :=
  match X.tt T with
  | none => none
  | some t => match t.elem with
    | none => none
    | some e => match X.tt e, X.elc e with
      | some u, some c => match u.zero.all SV.isV with
        | false => none
        | true => if X.U.sz c = u.size then match X.dec c (tz u) with
          | none => none
          | some z => match evO s x, evO s y with
            | .v (.int i n), .v (.int j m) => if i = j then (if 0 ≤ n ∧ m = n ∧ n ≤ 9223372036854775807 ∧ (u.bytes : Int) * n ≤ 281474976710656 then
                k (locO x ++ locO y ++ [.obj s.objs.length]) ⟨.full s.objs.length, [(s.objs.length, .row c (List.replicate n.toNat z) false)]⟩ else none) else none
            | _, _ => none
          else none
      | _, _ => none
theorem evMake_ok (hX : CxOk P X) {T : TypeId} {x y : Operand} (h : evMake X s T x y k = some r) (hM : M s σ) (ho : o.op = .makeSlice T x y) : ∃ L e, k L e = some r ∧ Fit P s o σ L e := by
  unfold evMake at h
  split at h <;> try (cases h; done)
  rename_i t ht
  split at h <;> try (cases h; done)
  rename_i e he
  split at h <;> try (cases h; done)
  rename_i u c hu hc
  split at h <;> try (cases h; done)
  rename_i hz
  split at h <;> try (cases h; done)
  rename_i hsz
  split at h <;> try (cases h; done)
  rename_i z hdec
  split at h <;> try (cases h; done)
  rename_i i n j m hx hy
  split at h <;> try (cases h; done)
  rename_i hij
  subst hij
  split at h <;> try (cases h; done)
  rename_i hn
  obtain ⟨h0, rfl, h63, hb⟩ := hn
  refine ⟨_, _, h, .new (fun rl _ hrl => ?_) (by show decide _ = true; simp) rfl⟩
  have hp := hX.pos c
  have := w_makeSlice (P := P) hX.tab ho ht he hu s.objs.length (hM.ev hx (by simp)) (hM.ev hy (by simp)) h0 hb h63 (by omega) hM.new rfl
  have hd := hX.dec c _ _ (rlen s.objs) hdec
  rw [tz_ok hz] at hd
  show Step P o _ ⟨_, .own s.objs.length 0 (rl s.objs.length), [(_, .ob ⟨X.U.sz c, (List.replicate m.toNat z).map (X.U.encS c), false⟩)]⟩ σ
  rw [hrl, List.map_replicate]
  show Step P o _ ⟨_, .own s.objs.length 0 (List.replicate m.toNat z).length, _⟩ σ
  rw [List.length_replicate]
  refine step_weak this (fun _ _ _ h => h) (.cons ⟨hsz, rfl, by show (List.replicate _ _).length = (List.replicate _ _).length; rw [List.length_replicate, List.length_replicate], fun g H vs hvs => ?_⟩ .nil)
  refine repR_weak (by rw [List.length_replicate, List.length_replicate]) (fun k r r' h1 h2 ws hws => ?_) hvs
  rw [List.getElem?_replicate] at h1 h2
  split at h1 <;> try (cases h1; done)
  rename_i hlt
  rw [if_pos hlt] at h2
  cases h1
  cases h2
  exact hd _ _ _ hws
def decParts (X : Cx) (s : TS X.U) (c : X.U.C) : List (Nat × Operand) → Option (List (X.U.T c))
  | [] => some []
  | (_, x) :: l => match tcells (evO s x) with
    | none => none
    | some cs => match X.dec c cs with
      | none => none
      | some z => match decParts X s c l with
        | none => none
        | some r => some (z :: r)
theorem decParts_ok (hX : CxOk P X) (hM : M s σ) {c : X.U.C} : ∀ {l : List (Nat × Operand)} {zs : List (X.U.T c)}, decParts X s c l = some zs →
    zs.length = l.length ∧ ∀ (k : Nat) (r : List SV) (z : X.U.T c), (l.map fun p => (σ.ev p.2).cells)[k]? = some r → zs[k]? = some z → r.length = r.length ∧ ∀ g H vs, RepL g H vs r → RepL g H vs (X.U.encS c z)
  | [], zs, h => by cases h; exact ⟨rfl, fun k r z h => by simp at h⟩
  | (i, x) :: l, zs, h => by
    unfold decParts at h
    split at h <;> try (cases h; done)
    rename_i cs hcs
    split at h <;> try (cases h; done)
    rename_i z hz
    split at h <;> try (cases h; done)
    rename_i r' hr
    cases h
    obtain ⟨h2, h1⟩ := decParts_ok hX hM hr
    refine ⟨by rw [List.length_cons, List.length_cons, h2], fun k r z' hk hz' => ?_⟩
    cases k with
    | zero =>
      simp only [List.map_cons, List.getElem?_cons_zero, Option.some.injEq] at hk hz'
      subst hk hz'
      refine ⟨rfl, fun g H vs hvs => hX.dec c _ _ (rlen s.objs) hz g H vs ?_⟩
      rw [← (hM.evc hcs (rlen s.objs) fun _ _ => rfl).1]
      exact hvs
    | succ k => exact h1 k r z' (by simpa using hk) (by simpa using hz')
/-- How many cells each of some has. -/
def lensOk (X : Cx) (s : TS X.U) (n : Nat) : List (Nat × Operand) → Bool
  | [] => true
  | (_, x) :: l => match tcells (evO s x) with
    | some cs => Nat.beq cs.length n && lensOk X s n l
    | none => false
theorem lensOk_ok (hM : M s σ) {n : Nat} : ∀ {l : List (Nat × Operand)}, lensOk X s n l = true → ∀ cs ∈ l.map (fun p => (σ.ev p.2).cells), cs.length = n
  | [], _, cs, h => by cases h
  | (i, x) :: l, h, cs, hm => by
    unfold lensOk at h
    split at h <;> try (cases h; done)
    rename_i ds hds
    rw [Bool.and_eq_true] at h
    rw [List.map_cons] at hm
    rcases List.mem_cons.1 hm with rfl | hm
    · show (σ.ev x).cells.length = n
      rw [(hM.evc hds (rlen s.objs) fun _ _ => rfl).1, itpL_len]
      exact Nat.eq_of_beq_eq_true h.1
    · exact lensOk_ok hM h.2 cs hm
def evSliceLit (X : Cx) (s : TS X.U) (T : TypeId) (n : Nat) (parts : List (Nat × Operand)) (k : List Loc → TEff X.U → Option R) : Option R :=
  match X.tt T with
  | none => none
  | some t => match t.elem with
    | none => none
    | some e => match X.tt e, X.elc e with
      | some u, some c => if X.U.sz c = u.size ∧ n * u.size ≤ 16777216 then match parts.map (·.1) == List.range n && lensOk X s u.size parts with
        | false => none
        | true => match decParts X s c parts with
          | none => none
          | some zs => k (locs (parts.map (·.2)) ++ [.obj s.objs.length]) ⟨.full s.objs.length, [(s.objs.length, .row c zs false)]⟩
        else none
      | _, _ => none
theorem evSliceLit_ok (hX : CxOk P X) {T : TypeId} {n : Nat} {parts : Array (Nat × Operand)} (h : evSliceLit X s T n parts.toList k = some r) (hM : M s σ) (ho : o.op = .buildSlice T n parts) : ∃ L e, k L e = some r ∧ Fit P s o σ L e := by
  unfold evSliceLit at h
  split at h <;> try (cases h; done)
  rename_i t ht
  split at h <;> try (cases h; done)
  rename_i e he
  split at h <;> try (cases h; done)
  rename_i u c hu hc
  split at h <;> try (cases h; done)
  rename_i hsz
  split at h <;> try (cases h; done)
  rename_i hp
  split at h <;> try (cases h; done)
  rename_i zs hzs
  obtain ⟨h2, h1⟩ := decParts_ok hX hM hzs
  rw [Bool.and_eq_true] at hp
  have hp' : parts.toList.map (·.1) = List.range n := by simpa using hp.1
  have hn : zs.length = n := by rw [h2]; have := congrArg List.length hp'; simpa using this
  refine ⟨_, _, h, .new (fun rl _ hrl => ?_) (by show decide _ = true; simp) rfl⟩
  have hps := hX.pos c
  have := w_sliceN (P := P) hX.tab ho ht he hu s.objs.length (by omega) hsz.2 hM.new hp' rfl (lensOk_ok hM hp.2)
  show Step P o _ ⟨_, .own s.objs.length 0 (rl s.objs.length), [(_, .ob ⟨X.U.sz c, zs.map (X.U.encS c), false⟩)]⟩ σ
  rw [hrl]
  show Step P o _ ⟨_, .own s.objs.length 0 zs.length, _⟩ σ
  rw [hn]
  refine step_weak this (fun _ _ _ h => h) (.cons ⟨hsz.1, rfl, by show (zs.map _).length = (parts.toList.map _).length; rw [List.length_map, List.length_map, h2], fun g H vs hvs => ?_⟩ .nil)
  refine repR_weak (by rw [List.length_map, List.length_map, h2]) (fun k r r' e1 e2 ws hws => ?_) hvs
  rw [List.getElem?_map] at e2
  obtain ⟨z, hz, rfl⟩ := Option.map_eq_some_iff.1 e2
  exact (h1 k r z e1 hz).2 _ _ _ hws
/-! ### Cuts -/
def evB (X : Cx) (s : TS X.U) : Option Operand → Option (Option Int)
  | none => some none
  | some x => match evO s x with
    | .v (.int _ i) => some (some i)
    | _ => none
theorem evB_ok (hM : M s σ) {x : Option Operand} {b : Option Int} (h : evB X s x = some b) (d : Nat) : (∀ i, b = some i → 0 ≤ i → bndO σ x d i.toNat) ∧ (b = none → bndO σ x d d) := by
  cases x with
  | none => cases h; exact ⟨fun i h => (by cases h), fun _ => rfl⟩
  | some x =>
    unfold evB at h
    dsimp only at h
    split at h <;> try (cases h; done)
    rename_i kk i hx
    cases h
    refine ⟨fun j hj h0 => ?_, fun h => (by cases h)⟩
    cases hj
    refine ⟨kk, ?_⟩
    rw [hM.ev hx (by simp), Int.toNat_of_nonneg h0]
    rfl
/-- The list between two bounds. -/
def cutI {α : Type} (xs : List α) : Option Int → Option Int → Option (List α)
  | none, none => some xs
  | none, some h => if 0 ≤ h ∧ h ≤ (xs.length : Int) then some (xs.take h.toNat) else none
  | some l, none => if 0 ≤ l ∧ l ≤ (xs.length : Int) then some (xs.drop l.toNat) else none
  | some l, some h => if 0 ≤ l ∧ l ≤ h ∧ h ≤ (xs.length : Int) then some ((xs.drop l.toNat).take (h.toNat - l.toNat)) else none
theorem cutI_ok {α : Type} {xs ys : List α} {a b : Option Int} (h : cutI xs a b = some ys) (hM : M s σ) {x y : Option Operand} (hx : evB X s x = some a) (hy : evB X s y = some b) : ∃ l h : Nat, bndO σ x 0 l ∧ bndO σ y xs.length h ∧ l ≤ h ∧ h ≤ xs.length ∧ ys = (xs.drop l).take (h - l) := by
  have h1 := evB_ok hM hx 0
  have h2 := evB_ok hM hy xs.length
  cases a with
  | none =>
    cases b with
    | none => cases h; exact ⟨0, xs.length, h1.2 rfl, h2.2 rfl, Nat.zero_le _, Nat.le_refl _, by simp⟩
    | some b =>
      unfold cutI at h
      dsimp only at h
      split at h <;> try (cases h; done)
      rename_i hb
      cases h
      exact ⟨0, b.toNat, h1.2 rfl, h2.1 b rfl hb.1, Nat.zero_le _, by omega, by simp⟩
  | some a =>
    cases b with
    | none =>
      unfold cutI at h
      dsimp only at h
      split at h <;> try (cases h; done)
      rename_i hb
      cases h
      exact ⟨a.toNat, xs.length, h1.1 a rfl hb.1, h2.2 rfl, by omega, Nat.le_refl _, (List.take_of_length_le (by rw [List.length_drop]; exact Nat.le_refl _)).symm⟩
    | some b =>
      unfold cutI at h
      dsimp only at h
      split at h <;> try (cases h; done)
      rename_i hb
      cases h
      exact ⟨a.toNat, b.toNat, h1.1 a rfl hb.1, h2.1 b rfl (by omega), by omega, by omega, rfl⟩
def cutB (b : ByteArray) : Option Int → Option Int → Option ByteArray
  | none, none => some b
  | none, some h => if 0 ≤ h ∧ h ≤ (b.size : Int) then some (b.extract 0 h.toNat) else none
  | some l, none => if 0 ≤ l ∧ l ≤ (b.size : Int) then some (b.extract l.toNat b.size) else none
  | some l, some h => if 0 ≤ l ∧ l ≤ h ∧ h ≤ (b.size : Int) then some (b.extract l.toNat h.toNat) else none
theorem extract_all (b : ByteArray) : b.extract 0 b.size = b := by
  apply ByteArray.ext
  simp
theorem cutB_ok {b c : ByteArray} {a d : Option Int} (h : cutB b a d = some c) (hM : M s σ) {x y : Option Operand} (hx : evB X s x = some a) (hy : evB X s y = some d) : ∃ l h : Nat, bndO σ x 0 l ∧ bndO σ y b.size h ∧ l ≤ h ∧ h ≤ b.size ∧ b.extract l h = c := by
  have h1 := evB_ok hM hx 0
  have h2 := evB_ok hM hy b.size
  cases a with
  | none =>
    cases d with
    | none => cases h; exact ⟨0, b.size, h1.2 rfl, h2.2 rfl, Nat.zero_le _, Nat.le_refl _, extract_all b⟩
    | some d =>
      unfold cutB at h
      dsimp only at h
      split at h <;> try (cases h; done)
      rename_i hb
      cases h
      exact ⟨0, d.toNat, h1.2 rfl, h2.1 d rfl hb.1, Nat.zero_le _, by omega, rfl⟩
  | some a =>
    cases d with
    | none =>
      unfold cutB at h
      dsimp only at h
      split at h <;> try (cases h; done)
      rename_i hb
      cases h
      exact ⟨a.toNat, b.size, h1.1 a rfl hb.1, h2.2 rfl, by omega, Nat.le_refl _, rfl⟩
    | some d =>
      unfold cutB at h
      dsimp only at h
      split at h <;> try (cases h; done)
      rename_i hb
      cases h
      exact ⟨a.toNat, d.toNat, h1.1 a rfl hb.1, h2.1 d rfl (by omega), by omega, by omega, rfl⟩
def evCut (X : Cx) (s : TS X.U) (T : TypeId) (x : Operand) (lo hi : Option Operand) (k : List Loc → TEff X.U → Option R) : Option R :=
  match evB X s lo, evB X s hi with
  | some a, some b => match evO s x with
    | .v (.string t) => match X.sty T with
      | true => (cutB t a b).bind fun c => k (locO x ++ locB lo ++ locB hi) ⟨.v (.string c), []⟩
      | false => none
    | tv => match X.tt T with
      | none => none
      | some t => match t.elem with
        | none => none
        | some e => match X.tt e with
          | none => none
          | some u => match tv with
            | .lst c xs => if X.U.sz c = u.size then (cutI xs a b).bind fun ys => k (locO x ++ locB lo ++ locB hi) ⟨.lst c ys, []⟩ else none
            | .full id => match nth s.objs id with
              | some (.row c xs false) => if X.U.sz c = u.size then (cutI xs a b).bind fun ys => k (locO x ++ locB lo ++ locB hi ++ [.obj id] ++ [.obj s.objs.length]) ⟨.full s.objs.length, [(id, .dead xs.length), (s.objs.length, .row c ys false)]⟩ else none
              | _ => none
            | _ => none
  | _, _ => none
/-- An object goes, another one comes. -/
theorem Fit.swap {L : List Loc} {id n : Nat} {ob x : TO X.U} {tv : TV X.U} (h : nth s.objs id = some ob) (hn : ob.rlen = n) (hst : ∀ rl, (∀ i, i < s.objs.length → rl i = rlen s.objs i) → rl s.objs.length = x.rlen → Step P o L ⟨o.dst, tv.itp rl, [(id, .dead), (s.objs.length, x.itp rl)]⟩ σ) (hb : tv.bel (s.objs.length + 1) = true) (hx : x.bel (s.objs.length + 1) = true) : Fit P s o σ L ⟨tv, [(id, .dead n), (s.objs.length, x)]⟩ := by
  have hlt := nth_lt h
  have hl1 : (setO s.objs id (.dead n)).length = s.objs.length := by rw [length_setO, if_pos hlt]
  have hl : (updO s.objs [(id, .dead n), (s.objs.length, x)]).length = s.objs.length + 1 := by
    show (setO (setO s.objs id (.dead n)) s.objs.length x).length = _
    rw [length_setO, if_neg (by omega), hl1]
  have hok : ObsOk s.objs [(id, .dead n), (s.objs.length, x)] := ⟨.inl ⟨ob, h, hn⟩, .inr hl1.symm, trivial⟩
  refine ⟨hst _ (updO_rlen _ _ hok) ?_, hok, by rw [hl]; exact hb, ?_⟩
  · show rlen (setO (setO s.objs id (.dead n)) s.objs.length x) s.objs.length = _
    unfold rlen
    rw [nth_setO _ _ _ _ (by omega), if_pos rfl]
  · unfold obsBelow
    dsimp only
    rw [hl, List.all_cons, List.all_cons, hx]
    rfl
theorem evCut_ok (hX : CxOk P X) {T : TypeId} {x : Operand} {lo hi : Option Operand} (h : evCut X s T x lo hi k = some r) (hM : M s σ) (ho : o.op = .slice T x lo hi none) : ∃ L e, k L e = some r ∧ Fit P s o σ L e := by
  unfold evCut at h
  split at h <;> try (cases h; done)
  rename_i a b ha hb
  split at h
  · rename_i t hx
    split at h <;> try (cases h; done)
    rename_i hT
    obtain ⟨c, hc, h⟩ := Option.bind_eq_some_iff.1 h
    obtain ⟨l, hh, k1, k2, k3, k4, k5⟩ := cutB_ok hc hM ha hb
    exact ⟨_, _, h, .pure (w_cut_str (hX.str T hT) ho (hM.ev hx (by simp)) l hh k1 k2 k3 k4 k5) rfl⟩
  · split at h <;> try (cases h; done)
    rename_i t ht
    split at h <;> try (cases h; done)
    rename_i e he
    split at h <;> try (cases h; done)
    rename_i u hu
    split at h <;> try (cases h; done)
    · rename_i c xs hx
      split at h <;> try (cases h; done)
      rename_i hsz
      obtain ⟨ys, hys, h⟩ := Option.bind_eq_some_iff.1 h
      obtain ⟨l, hh, k1, k2, k3, k4, rfl⟩ := cutI_ok hys hM ha hb
      refine ⟨_, _, h, .pure (w_cut_lst hX.tab ho ht he hu (hM.ev hx (by simp)) hsz l hh k1 (by rw [List.length_map]; exact k2) k3 (by rw [List.length_map]; exact k4) ?_) rfl⟩
      rw [← List.map_drop, ← List.map_take]
    · rename_i id hx
      split at h <;> try (cases h; done)
      rename_i c xs hob
      split at h <;> try (cases h; done)
      rename_i hsz
      obtain ⟨ys, hys, h⟩ := Option.bind_eq_some_iff.1 h
      obtain ⟨l, hh, k1, k2, k3, k4, rfl⟩ := cutI_ok hys hM ha hb
      refine ⟨_, _, h, .swap hob rfl (fun rl _ hrl => ?_) (by show decide _ = true; simp) rfl⟩
      have hrl0 : rlen s.objs id = xs.length := by unfold rlen; rw [hob]; rfl
      have ex := hM.ev hx (by simp)
      have hlen : ((xs.drop l).take (hh - l)).length = hh - l := by rw [List.length_take, List.length_drop]; omega
      have := w_cut_adopt (P := P) hX.tab ho ht he hu ex (hM.obj_row hob) rfl hsz l hh k1 (by rw [hrl0]; exact k2) k3 (by rw [hrl0]; exact k4) s.objs.length hM.new (rows := ((xs.drop l).take (hh - l)).map (X.U.encS c)) (by rw [Nat.zero_add, ← List.map_drop, ← List.map_take]) (by rw [List.length_map, hlen])
      show Step P o _ ⟨_, .own s.objs.length 0 (rl s.objs.length), [_, (_, .ob ⟨X.U.sz c, ((xs.drop l).take (hh - l)).map (X.U.encS c), false⟩)]⟩ σ
      rw [hrl]
      show Step P o _ ⟨_, .own s.objs.length 0 ((xs.drop l).take (hh - l)).length, _⟩ σ
      rw [hlen]
      exact this
end
end Go.Proofs.YtmcflglkfgnbbaaDoor.Eng

/- Appends, and calls. -/
namespace Go.Proofs.YtmcflglkfgnbbaaDoor.Eng
open Go Go.RowKit
set_option linter.unusedVariables false
set_option linter.unusedSimpArgs false
section
variable {U : Univ}
def castL (c c' : U.C) (ys : List (U.T c)) : Option (List (U.T c')) := match U.deq c c' with
  | .isTrue h => some (h ▸ ys)
  | .isFalse _ => none
theorem castL_ok {c c' : U.C} {ys : List (U.T c)} {zs : List (U.T c')} (h : castL c c' ys = some zs) : U.sz c' = U.sz c ∧ zs.map (U.encS c') = ys.map (U.encS c) := by
  unfold castL at h
  split at h
  · rename_i e _
    subst e
    cases h
    exact ⟨rfl, rfl⟩
  · cases h
def rowsOf (s : TS U) (c : U.C) : TV U → Option (List (U.T c) × List Loc)
  | .lst c' ys => match castL c' c ys with
    | some zs => some (zs, [])
    | none => none
  | .full id => match nth s.objs id with
    | some (.row c' ys _) => match castL c' c ys with
      | some zs => some (zs, [.obj id])
      | none => none
    | _ => none
  | .v (.slice none 0 0) => some ([], [])
  | _ => none
theorem rowsOf_ok {s : TS U} {σ : St} (hM : M s σ) {c : U.C} {y : Operand} {zs : List (U.T c)} {L : List Loc} (h : rowsOf s c (evO s y) = some (zs, L)) : LstOf σ (σ.ev y) (U.sz c) (zs.map (U.encS c)) L := by
  unfold rowsOf at h
  split at h <;> try (cases h; done)
  · rename_i c' ys hy
    split at h <;> try (cases h; done)
    rename_i zs' hz
    cases h
    obtain ⟨h1, h2⟩ := castL_ok hz
    rw [hM.ev hy (by simp), h1, h2]
    exact .lst
  · rename_i id hy
    split at h <;> try (cases h; done)
    rename_i c' ys fz hob
    split at h <;> try (cases h; done)
    rename_i zs' hz
    cases h
    obtain ⟨h1, h2⟩ := castL_ok hz
    have hrl0 : rlen s.objs id = ys.length := by unfold rlen; rw [hob]; rfl
    have ho := hM.ob id _ hob
    have := LstOf.own (s := σ) (id := id) (lo := 0) (len := rlen s.objs id) ho (rows := ys.map (U.encS c')) (by rw [hrl0, List.drop_zero, List.take_of_length_le (by rw [List.length_map]; exact Nat.le_refl _)]) (by rw [hrl0, List.length_map])
    rw [hM.ev hy (by simp), h1, h2]
    exact this
  · rename_i hy
    cases h
    rw [hM.ev hy (by simp)]
    exact .nil
end
section
variable {P : Program} {X : Cx} {s : TS X.U} {o : Oper} {σ : St} {R : Type} {r : R} {k : List Loc → TEff X.U → Option R}
theorem encs_one (hX : CxOk P X) {c : X.U.C} (hc : X.rowk c = true) (xs : List (X.U.T c)) : ((xs.map (X.U.encS c)).all fun r => r.all SV.one) = true := by
  rw [List.all_map]
  exact List.all_eq_true.2 fun x _ => hX.one c x hc
def evAppend (X : Cx) (s : TS X.U) (T Ty : TypeId) (x y : Operand) (k : List Loc → TEff X.U → Option R) : Option R :=
  match X.tt T, X.tt Ty with
  | some t, some t2 => match t.elem, t2.elem with
    | some e, some _ => match X.tt e with
      | none => none
      | some u => match Nat.beq u.bytes 0 with
        | true => none
        | false => match evO s x with
          | .full id => match nth s.objs id with
            | some (.row c xs false) => match rowsOf s c (evO s y) with
              | some (ys, L) => if u.size = X.U.sz c ∧ X.rowk c = true then (if (xs.length + ys.length) * u.bytes ≤ 140737488355328 then k (locO x ++ locO y ++ L ++ [.obj id] ++ [.obj s.objs.length]) ⟨.full s.objs.length, [(id, .dead xs.length), (s.objs.length, .row c (xs ++ ys) false)]⟩ else none) else none
              | none => none
            | _ => none
          | .v (.slice none 0 0) => match X.elc e with
            | none => none
            | some c => match rowsOf s c (evO s y) with
              | some (ys, L) => if u.size = X.U.sz c ∧ X.rowk c = true then cond ys.isEmpty (k (locO x ++ locO y ++ L) ⟨.v (.slice none 0 0), []⟩)
                  (if ys.length * u.bytes ≤ 140737488355328 then k (locO x ++ locO y ++ L ++ [.obj s.objs.length]) ⟨.full s.objs.length, [(s.objs.length, .row c ys false)]⟩ else none) else none
              | none => none
          | _ => none
    | _, _ => none
  | _, _ => none
theorem evAppend_ok (hX : CxOk P X) {T Ty : TypeId} {x y : Operand} (h : evAppend X s T Ty x y k = some r) (hM : M s σ) (ho : o.op = .call { callee := .builtin .append, args := #[x, y], argTypes := #[T, Ty] }) : ∃ L e, k L e = some r ∧ Fit P s o σ L e := by
  unfold evAppend at h
  split at h <;> try (cases h; done)
  rename_i t t2 ht ht2
  split at h <;> try (cases h; done)
  rename_i e e2 he he2
  split at h <;> try (cases h; done)
  rename_i u hu
  split at h <;> try (cases h; done)
  rename_i hq
  have hq0 : u.bytes ≠ 0 := fun e => by rw [e] at hq; cases hq
  split at h <;> try (cases h; done)
  · rename_i id hx
    split at h <;> try (cases h; done)
    rename_i c xs hob
    split at h <;> try (cases h; done)
    rename_i ys L hys
    split at h <;> try (cases h; done)
    rename_i hsz
    obtain ⟨hsz, hrk⟩ := hsz
    split at h <;> try (cases h; done)
    rename_i hlim
    have hy := rowsOf_ok hM hys
    have hp := hX.pos c
    have hrl0 : rlen s.objs id = xs.length := by unfold rlen; rw [hob]; rfl
    have ex := hM.ev hx (by simp)
    have hb : xs.length + ys.length ≤ (xs.length + ys.length) * u.bytes := Nat.le_mul_of_pos_right _ (by omega)
    refine ⟨_, _, h, .swap hob rfl (fun rl _ hrl => ?_) (by show decide _ = true; simp) rfl⟩
    have := w_append (P := P) hX.tab ho ht he hu ht2 he2 s.objs.length hsz (by omega) ex (hM.obj_row hob) rfl (rx := xs.map (X.U.encS c)) (by rw [hrl0, List.drop_zero, List.take_of_length_le (by rw [List.length_map]; exact Nat.le_refl _)]) (by rw [hrl0, List.length_map]) hy (encs_one hX hrk ys) (encs_one hX hrk xs) hM.new (by rw [hrl0, List.length_map]; exact hlim) (by rw [hrl0, List.length_map]; omega) rfl rfl
    show Step P o _ ⟨_, .own s.objs.length 0 (rl s.objs.length), [_, (_, .ob ⟨X.U.sz c, (xs ++ ys).map (X.U.encS c), false⟩)]⟩ σ
    rw [hrl, List.map_append]
    show Step P o _ ⟨_, .own s.objs.length 0 (xs ++ ys).length, _⟩ σ
    rw [List.length_append]
    rw [hrl0, List.length_map] at this
    exact this
  · rename_i hx
    split at h <;> try (cases h; done)
    rename_i c hc
    split at h <;> try (cases h; done)
    rename_i ys L hys
    split at h <;> try (cases h; done)
    rename_i hsz
    obtain ⟨hsz, hrk⟩ := hsz
    have hy := rowsOf_ok hM hys
    have hp := hX.pos c
    have ex := hM.ev hx (by simp)
    cases ys with
    | nil =>
      simp only [List.isEmpty_nil, cond_true] at h
      rw [← hsz] at hy
      exact ⟨_, _, h, .pure (w_append_none hX.tab ho ht he hu ht2 he2 (by omega) ex hy) rfl⟩
    | cons z zs =>
      simp only [List.isEmpty_cons, cond_false] at h
      split at h <;> try (cases h; done)
      rename_i hlim
      have hb : (z :: zs).length ≤ (z :: zs).length * u.bytes := Nat.le_mul_of_pos_right _ (by omega)
      refine ⟨_, _, h, .new (fun rl _ hrl => ?_) (by show decide _ = true; simp) rfl⟩
      rw [← hsz] at hy
      have := w_append_nil (P := P) hX.tab ho ht he hu ht2 he2 s.objs.length (by omega) ex hy (encs_one hX hrk _) (by simp) hM.new (by rw [List.length_map]; exact hlim) (by rw [List.length_map]; omega) rfl
      show Step P o _ ⟨_, .own s.objs.length 0 (rl s.objs.length), [(_, .ob ⟨X.U.sz c, (z :: zs).map (X.U.encS c), false⟩)]⟩ σ
      rw [hrl, ← hsz]
      show Step P o _ ⟨_, .own s.objs.length 0 (z :: zs).length, _⟩ σ
      rw [List.length_map] at this
      exact this
end
/-! ### Under other names -/
section
variable {U : Univ}
mutual
def TV.ren (ρ : Nat → Nat) : TV U → TV U
  | .v x => .v x
  | .ref id i j => .ref (ρ id) i j
  | .own id lo len => .own (ρ id) lo len
  | .full id => .full (ρ id)
  | .lst c xs => .lst c xs
  | .agg l => .agg (tenL ρ l)
  | .tup l => .tup (tenL ρ l)
  | .elt c x j => .elt c x j
  | .mp id => .mp (ρ id)
  | .fn f l => .fn f (tenL ρ l)
  | .junk => .junk
def tenL (ρ : Nat → Nat) : List (TV U) → List (TV U)
  | [] => []
  | x :: l => x.ren ρ :: tenL ρ l
end
def TO.ren (ρ : Nat → Nat) : TO U → TO U
  | .dead n => .dead n
  | .cells l fz => .cells (tenL ρ l) fz
  | .row c xs fz => .row c xs fz
  | .mp c xs fz => .mp c xs fz
def TO.all (p : Nat → Bool) : TO U → Bool
  | .cells l _ => allL p l
  | _ => true
theorem TO.bel_all (n : Nat) (x : TO U) : x.bel n = x.all fun i => decide (i < n) := by cases x <;> rfl
mutual
theorem ren_ren {ρ τ : Nat → Nat} {p : Nat → Bool} (h : ∀ i, p i = true → τ (ρ i) = i) : ∀ {x : TV U}, x.all p = true → (x.ren ρ).ren τ = x
  | .v _, _ => rfl
  | .ref id _ _, hx => by show TV.ref (τ (ρ id)) _ _ = _; rw [h id hx]
  | .own id _ _, hx => by show TV.own (τ (ρ id)) _ _ = _; rw [h id hx]
  | .full id, hx => by show TV.full (τ (ρ id)) = _; rw [h id hx]
  | .lst .., _ => rfl
  | .agg l, hx => congrArg TV.agg (tenL_tenL h (l := l) hx)
  | .tup l, hx => congrArg TV.tup (tenL_tenL h (l := l) hx)
  | .elt .., _ => rfl
  | .mp id, hx => by show TV.mp (τ (ρ id)) = _; rw [h id hx]
  | .fn f l, hx => congrArg (TV.fn f) (tenL_tenL h (l := l) hx)
  | .junk, _ => rfl
theorem tenL_tenL {ρ τ : Nat → Nat} {p : Nat → Bool} (h : ∀ i, p i = true → τ (ρ i) = i) : ∀ {l : List (TV U)}, allL p l = true → tenL τ (tenL ρ l) = l
  | [], _ => rfl
  | x :: l, hx => by
    have hx : (x.all p && allL p l) = true := hx
    rw [Bool.and_eq_true] at hx
    show (x.ren ρ).ren τ :: tenL τ (tenL ρ l) = _
    rw [ren_ren h hx.1, tenL_tenL h hx.2]
end
theorem TO.ren_ren {ρ τ : Nat → Nat} {p : Nat → Bool} (h : ∀ i, p i = true → τ (ρ i) = i) : ∀ {x : TO U}, x.all p = true → (x.ren ρ).ren τ = x
  | .dead _, _ => rfl
  | .cells l fz, hx => congrArg (fun l => TO.cells l fz) (tenL_tenL h (l := l) hx)
  | .row .., _ => rfl
  | .mp .., _ => rfl
mutual
theorem ren_all {ρ : Nat → Nat} {p q : Nat → Bool} (h : ∀ i, p i = true → q (ρ i) = true) : ∀ {x : TV U}, x.all p = true → (x.ren ρ).all q = true
  | .v _, _ => rfl
  | .ref id _ _, hx => h id hx
  | .own id _ _, hx => h id hx
  | .full id, hx => h id hx
  | .lst .., _ => rfl
  | .agg l, hx => tenL_all h (l := l) hx
  | .tup l, hx => tenL_all h (l := l) hx
  | .elt .., _ => rfl
  | .mp id, hx => h id hx
  | .fn _ l, hx => tenL_all h (l := l) hx
  | .junk, _ => rfl
theorem tenL_all {ρ : Nat → Nat} {p q : Nat → Bool} (h : ∀ i, p i = true → q (ρ i) = true) : ∀ {l : List (TV U)}, allL p l = true → allL q (tenL ρ l) = true
  | [], _ => rfl
  | x :: l, hx => by
    have hx : (x.all p && allL p l) = true := hx
    rw [Bool.and_eq_true] at hx
    show ((x.ren ρ).all q && allL q (tenL ρ l)) = true
    rw [ren_all h hx.1, tenL_all h hx.2]
    rfl
end
theorem TO.ren_all {ρ : Nat → Nat} {p q : Nat → Bool} (h : ∀ i, p i = true → q (ρ i) = true) : ∀ {x : TO U}, x.all p = true → (x.ren ρ).all q = true
  | .dead _, _ => rfl
  | .cells l fz, hx => tenL_all h (l := l) hx
  | .row .., _ => rfl
  | .mp .., _ => rfl
theorem tenL_eq (ρ : Nat → Nat) : ∀ l : List (TV U), tenL ρ l = l.map (TV.ren ρ)
  | [] => rfl
  | x :: l => by rw [tenL, tenL_eq ρ l]; rfl
/-- What is told has no names in it. -/
def Clsd (U : Univ) : Prop := ∀ c x, closedL (U.encS c x) = true
theorem Clsd.rows (hc : Clsd U) (c : U.C) (xs : List (U.T c)) : closedR (xs.map (U.encS c)) = true := closedR_map _ (hc c) xs
mutual
theorem itp_ren (hc : Clsd U) {ρ : Nat → Nat} {p : Nat → Bool} {rl rl' : Nat → Nat} (h : ∀ i, p i = true → rl' (ρ i) = rl i) : ∀ {x : TV U}, x.all p = true → (x.itp rl).ren ρ = (x.ren ρ).itp rl'
  | .v _, _ => rfl
  | .ref .., _ => rfl
  | .own .., _ => rfl
  | .full id, hx => by show SV.own (ρ id) 0 (rl id) = SV.own (ρ id) 0 (rl' (ρ id)); rw [h id hx]
  | .lst c xs, _ => SV.closed_ren (s := .lst (U.sz c) (xs.map (U.encS c))) ρ (hc.rows c xs)
  | .agg l, hx => congrArg SV.agg (itpL_ren hc h (l := l) hx)
  | .tup l, hx => congrArg SV.tup (itpL_ren hc h (l := l) hx)
  | .elt c x j, _ => SV.closed_ren (s := .elt (U.encS c x) j) ρ (hc c x)
  | .mp .., _ => rfl
  | .fn f l, hx => congrArg (SV.fn f) (itpL_ren hc h (l := l) hx)
  | .junk, _ => rfl
theorem itpL_ren (hc : Clsd U) {ρ : Nat → Nat} {p : Nat → Bool} {rl rl' : Nat → Nat} (h : ∀ i, p i = true → rl' (ρ i) = rl i) : ∀ {l : List (TV U)}, allL p l = true → renL ρ (itpL rl l) = itpL rl' (tenL ρ l)
  | [], _ => rfl
  | x :: l, hx => by
    have hx : (x.all p && allL p l) = true := hx
    rw [Bool.and_eq_true] at hx
    show (x.itp rl).ren ρ :: renL ρ (itpL rl l) = (x.ren ρ).itp rl' :: itpL rl' (tenL ρ l)
    rw [itp_ren hc h hx.1, itpL_ren hc h hx.2]
end
theorem TO.itp_ren (hc : Clsd U) {ρ : Nat → Nat} {p : Nat → Bool} {rl rl' : Nat → Nat} (h : ∀ i, p i = true → rl' (ρ i) = rl i) : ∀ {x : TO U}, x.all p = true → (x.itp rl).ren ρ = (x.ren ρ).itp rl'
  | .dead _, _ => rfl
  | .cells l fz, hx => by
    show OS.ob ⟨l.length, [renL ρ (itpL rl l)], fz⟩ = OS.ob ⟨(tenL ρ l).length, [itpL rl' (tenL ρ l)], fz⟩
    rw [itpL_ren hc h hx, tenL_eq, List.length_map]
  | .row c xs fz, _ => by
    show OS.ob ⟨_, renR ρ (xs.map (U.encS c)), fz⟩ = OS.ob ⟨_, xs.map (U.encS c), fz⟩
    rw [closedR_ren ρ (hc.rows c xs)]
  | .mp c xs fz, _ => by
    show OS.ob ⟨_, renR ρ (xs.map (U.encS c)), fz⟩ = OS.ob ⟨_, xs.map (U.encS c), fz⟩
    rw [closedR_ren ρ (hc.rows c xs)]
mutual
theorem itp_lt (hc : Clsd U) {n : Nat} {rl : Nat → Nat} : ∀ {x : TV U}, x.bel n = true → (x.itp rl).lt n = true
  | .v _, _ => rfl
  | .ref .., hx => hx
  | .own .., hx => hx
  | .full id, hx => hx
  | .lst c xs, _ => SV.closed_lt (s := .lst (U.sz c) (xs.map (U.encS c))) n (hc.rows c xs)
  | .agg l, hx => itpL_lt hc (l := l) hx
  | .tup l, hx => itpL_lt hc (l := l) hx
  | .elt c x j, _ => SV.closed_lt (s := .elt (U.encS c x) j) n (hc c x)
  | .mp id, hx => hx
  | .fn _ l, hx => itpL_lt hc (l := l) hx
  | .junk, _ => rfl
theorem itpL_lt (hc : Clsd U) {n : Nat} {rl : Nat → Nat} : ∀ {l : List (TV U)}, belL n l = true → ltL n (itpL rl l) = true
  | [], _ => rfl
  | x :: l, hx => by
    have hx : (x.bel n && belL n l) = true := hx
    rw [Bool.and_eq_true] at hx
    show ((x.itp rl).lt n && ltL n (itpL rl l)) = true
    rw [itp_lt hc hx.1, itpL_lt hc hx.2]
    rfl
end
theorem TO.ren_rlen (ρ : Nat → Nat) (x : TO U) : (x.ren ρ).rlen = x.rlen := by cases x <;> rfl
/-! ### What a call takes and leaves -/
def TO.ob (rl : Nat → Nat) : TO U → Ob
  | .dead _ => ⟨0, [], false⟩
  | .cells l fz => ⟨l.length, [itpL rl l], fz⟩
  | .row c xs fz => ⟨U.sz c, xs.map (U.encS c), fz⟩
  | .mp c xs fz => ⟨U.sz c, xs.map (U.encS c), fz⟩
def TO.alive : TO U → Bool
  | .dead _ => false
  | _ => true
theorem TO.itp_ob {rl : Nat → Nat} {x : TO U} (h : x.alive = true) : x.itp rl = .ob (x.ob rl) := by cases x <;> first | rfl | cases h
structure Spc (U : Univ) where
  F : {R : Type} → List (TO U) → List (TV U) → (List (TO U) → TV U → Option R) → Option R
def PathF {U : Univ} (F : {R : Type} → (List (TO U) → TV U → Option R) → Option R) : Prop := ∀ {R : Type} (k : List (TO U) → TV U → Option R) (r : R), F k = some r → ∃ o v, k o v = some r ∧ ∀ {R' : Type} (k' : List (TO U) → TV U → Option R'), F k' = k' o v
/-- What is left: none told means that all is as it was. -/
def nz {U : Univ} : List (TO U) → List (TO U) → List (TO U)
  | [], l => l
  | x :: r, _ => x :: r
structure SpecOk (P : Program) (fid : FuncId) (S : Spc U) : Prop where
  fn : ∃ fn, P.funcs[fid]? = some fn ∧ (fn.name == "runtime.NumGoroutine") = false ∧ fn.body.isSome = true
  path : ∀ objs args, PathF fun k => S.F objs args k
  ok : ∀ (objs : List (TO U)) (args : List (TV U)) (objs' : List (TO U)) (res : TV U), S.F objs args (fun o v => some (o, v)) = some (objs', res) → belL objs.length args = true → (objs.all fun x => x.bel objs.length) = true → objs.all TO.alive = true →
    HCall P fid (objs.map (TO.ob (rlen objs))) (itpL (rlen objs) args) ((nz objs' objs).map (TO.itp (rlen (nz objs' objs)))) (res.itp (rlen (nz objs' objs))) ∧ objs.length ≤ (nz objs' objs).length ∧ (∀ i, i < objs.length → rlen (nz objs' objs) i = rlen objs i) ∧ res.bel (nz objs' objs).length = true ∧
      ((nz objs' objs).all fun x => x.bel (nz objs' objs).length) = true
mutual
def TV.ids : TV U → List Nat
  | .ref id _ _ => [id]
  | .own id _ _ => [id]
  | .full id => [id]
  | .agg l => idsL l
  | .tup l => idsL l
  | .mp id => [id]
  | .fn _ l => idsL l
  | _ => []
def idsL : List (TV U) → List Nat
  | [] => []
  | x :: l => x.ids ++ idsL l
end
def TO.ids : TO U → List Nat
  | .cells l _ => idsL l
  | _ => []
def memN (n : Nat) : List Nat → Bool
  | [] => false
  | x :: l => Nat.beq x n || memN n l
/-- The objects that one comes to from some. -/
def reach (objs : List (TO U)) : Nat → List Nat → List Nat → List Nat
  | 0, _, acc => acc
  | _ + 1, [], acc => acc
  | f + 1, i :: todo, acc => match memN i acc with
    | true => reach objs f todo acc
    | false => match nth objs i with
      | some x => reach objs f (x.ids ++ todo) (acc ++ [i])
      | none => reach objs f todo acc
def idxN (n : Nat) : List Nat → Nat
  | [] => 0
  | x :: l => match Nat.beq x n with
    | true => 0
    | false => idxN n l + 1
def nodupN : List Nat → Bool
  | [] => true
  | x :: l => !memN x l && nodupN l
def objsAt (objs : List (TO U)) : List Nat → Option (List (TO U))
  | [] => some []
  | i :: l => match nth objs i, objsAt objs l with
    | some x, some r => some (x :: r)
    | _, _ => none
theorem memN_iff {n : Nat} : ∀ {l : List Nat}, memN n l = true ↔ n ∈ l
  | [] => by simp [memN]
  | x :: l => by
    rw [memN, Bool.or_eq_true, memN_iff, List.mem_cons, Nat.beq_eq]
    exact ⟨fun h => h.imp Eq.symm id, fun h => h.imp Eq.symm id⟩
theorem nodupN_ok : ∀ {l : List Nat}, nodupN l = true → l.Nodup
  | [], _ => .nil
  | x :: l, h => by
    have h : (!memN x l && nodupN l) = true := h
    rw [Bool.and_eq_true] at h
    refine List.nodup_cons.2 ⟨fun hm => ?_, nodupN_ok h.2⟩
    rw [memN_iff.2 hm] at h
    cases h.1
theorem idxN_get : ∀ {l : List Nat} {n : Nat}, n ∈ l → l[idxN n l]? = some n ∧ idxN n l < l.length
  | x :: l, n, h => by
    unfold idxN
    split
    · rename_i e
      rw [Nat.eq_of_beq_eq_true e]
      exact ⟨rfl, by simp⟩
    · rename_i e
      have hn : n ∈ l := by
        rcases List.mem_cons.1 h with rfl | h
        · rw [Nat.beq_refl] at e; cases e
        · exact h
      obtain ⟨h1, h2⟩ := idxN_get hn
      exact ⟨by rw [List.getElem?_cons_succ]; exact h1, by rw [List.length_cons]; omega⟩
theorem objsAt_ok {objs : List (TO U)} : ∀ {l : List Nat} {r : List (TO U)}, objsAt objs l = some r → r.length = l.length ∧ ∀ (j i : Nat), l[j]? = some i → ∃ x, r[j]? = some x ∧ nth objs i = some x
  | [], r, h => by cases h; exact ⟨rfl, fun j i h => by simp at h⟩
  | a :: l, r, h => by
    unfold objsAt at h
    split at h <;> try (cases h; done)
    rename_i x r' hx hr
    cases h
    obtain ⟨h1, h2⟩ := objsAt_ok hr
    refine ⟨by rw [List.length_cons, List.length_cons, h1], fun j i hj => ?_⟩
    cases j with
    | zero => cases hj; exact ⟨x, rfl, hx⟩
    | succ j => exact h2 j i (by simpa using hj)
theorem updO_append : ∀ (a b : List (Nat × TO U)) (l : List (TO U)), updO l (a ++ b) = updO (updO l a) b
  | [], b, l => rfl
  | (i, x) :: a, b, l => updO_append a b (setO l i x)
theorem ObsOk.append : ∀ {a b : List (Nat × TO U)} {l : List (TO U)}, ObsOk l a → ObsOk (updO l a) b → ObsOk l (a ++ b)
  | [], b, l, _, h => h
  | (i, x) :: a, b, l, h, h2 => ⟨h.1, ObsOk.append h.2 h2⟩
theorem obs_old : ∀ (ids : List Nat) (os : List (TO U)) (objs : List (TO U)), os.length = ids.length → (∀ (j i : Nat) (x : TO U), ids[j]? = some i → os[j]? = some x → ∃ o, nth objs i = some o ∧ o.rlen = x.rlen) →
    ObsOk objs (ids.zip os) ∧ (updO objs (ids.zip os)).length = objs.length
  | [], os, objs, _, _ => ⟨by simp [ObsOk], by simp [updO]⟩
  | i :: ids, [], objs, h, _ => by cases h
  | i :: ids, x :: os, objs, hl, h => by
    obtain ⟨o, ho, hr⟩ := h 0 i x rfl rfl
    have hlen : (setO objs i x).length = objs.length := by rw [length_setO, if_pos (nth_lt ho)]
    obtain ⟨h1, h2⟩ := obs_old ids os (setO objs i x) (by simpa using hl) fun j i' x' hi hx => by
      obtain ⟨o', ho', hr'⟩ := h (j + 1) i' x' (by simpa using hi) (by simpa using hx)
      rw [nth_setO _ _ _ _ (Nat.le_of_lt (nth_lt ho))]
      by_cases e : i' = i
      · subst e
        rw [ho] at ho'
        cases ho'
        exact ⟨x, by rw [if_pos rfl], by rw [← hr, hr']⟩
      · exact ⟨o', by rw [if_neg e]; exact ho', hr'⟩
    exact ⟨⟨.inl ⟨o, ho, hr⟩, h1⟩, by rw [← hlen]; exact h2⟩
theorem obs_new : ∀ (os : List (TO U)) (objs : List (TO U)) (n : Nat), n = objs.length → ObsOk objs ((List.range' n os.length).zip os) ∧ (updO objs ((List.range' n os.length).zip os)).length = n + os.length ∧
    (∀ j, nth (updO objs ((List.range' n os.length).zip os)) (n + j) = nth os j) ∧ ∀ i, i < n → nth (updO objs ((List.range' n os.length).zip os)) i = nth objs i
  | [], objs, n, hn => ⟨trivial, hn.symm, fun j => by
      show nth objs (n + j) = nth [] j
      rw [nth_eq, nth_eq, List.getElem?_eq_none (by omega)]
      rfl, fun i hi => rfl⟩
  | x :: os, objs, n, hn => by
    have hlen : (setO objs n x).length = n + 1 := by rw [length_setO, if_neg (by omega), hn]
    obtain ⟨h1, h2, h3, h4⟩ := obs_new os (setO objs n x) (n + 1) hlen.symm
    rw [List.length_cons, List.range'_succ, List.zip_cons_cons]
    refine ⟨⟨.inr hn, h1⟩, ?_, fun j => ?_, fun i hi => ?_⟩
    · show (updO (setO objs n x) _).length = _
      rw [h2]
      omega
    · show nth (updO (setO objs n x) _) (n + j) = _
      cases j with
      | zero =>
        show nth (updO (setO objs n x) _) n = _
        rw [h4 n (by omega), nth_setO _ _ _ _ (by omega), if_pos rfl]
        rfl
      | succ j =>
        have := h3 j
        rw [show n + (j + 1) = n + 1 + j by omega, this]
        rfl
    · show nth (updO (setO objs n x) _) i = _
      rw [h4 i (by omega), nth_setO _ _ _ _ (by omega), if_neg (by omega)]
end
theorem zipH_zip (ρ : Nat → Nat) : ∀ (l : List Nat) (m : List OS), zipH ρ l m = (l.zip (m.map (OS.ren ρ)))
  | [], m => by simp [zipH]
  | i :: l, [] => by simp [zipH]
  | i :: l, x :: m => by rw [zipH, zipH_zip ρ l m]; rfl
section
variable {P : Program} {X : Cx} {s : TS X.U} {o : Oper} {σ : St} {R : Type} {r : R} {k : List Loc → TEff X.U → Option R}
def callK (s : TS X.U) (xs : List Operand) (ids : List Nat) (os' : List (TO X.U)) (res : TV X.U) (k : List Loc → TEff X.U → Option R) : Option R := match os' with
  | [] => k (locs xs ++ [] ++ [] ++ (ids ++ []).map .obj) ⟨res.ren (nameH (ids ++ [])), []⟩
  | x :: r =>
    let ns := List.range' s.objs.length ((x :: r).length - ids.length)
    k (locs xs ++ [] ++ [] ++ (ids ++ ns).map .obj) ⟨res.ren (nameH (ids ++ ns)), (ids ++ ns).zip ((x :: r).map (TO.ren (nameH (ids ++ ns))))⟩
theorem updO_id : ∀ (r : List (Nat × TO X.U)) (l : List (TO X.U)), (∀ p ∈ r, nth l p.1 = some p.2) → updO l r = l
  | [], l, _ => rfl
  | (i, x) :: r, l, h => by
    have h1 := h (i, x) (.head _)
    have e : setO l i x = l := setO_id l i x h1
    rw [updO, e]
    exact updO_id r l fun p hp => h p (.tail _ hp)
where setO_id : ∀ (l : List (TO X.U)) (i : Nat) (x : TO X.U), nth l i = some x → setO l i x = l
  | [], i, x, h => by cases i <;> cases h
  | y :: l, 0, x, h => by cases h; rfl
  | y :: l, i + 1, x, h => by rw [setO, setO_id l i x h]
theorem upds_id : ∀ (l : List (Nat × OS)) (σ : St), (∀ p ∈ l, σ.obj p.1 = p.2) → σ.upds l = σ
  | [], σ, _ => rfl
  | (i, x) :: l, σ, h => by
    have h1 : σ.obj i = x := h (i, x) (.head _)
    have e : σ.upd i x = σ := by
      unfold St.upd
      cases σ
      congr
      funext j
      dsimp only at h1 ⊢
      split
      · rename_i hj; rw [hj, h1]
      · rfl
    rw [St.upds, e]
    exact upds_id l σ fun p hp => h p (.tail _ hp)
theorem Step.ro {L : List Loc} {d : Option Nat} {v : SV} {ob : List (Nat × OS)} (h : Step P o L ⟨d, v, ob⟩ σ) (hob : ∀ p ∈ ob, Loc.obj p.1 ∈ L ∧ σ.obj p.1 = p.2) : Step P o L ⟨d, v, []⟩ σ := by
  intro f τ a w K Q hA hd hR hK
  refine h f τ a w K Q hA hd hR fun a' w' hR' => hK a' w' ?_
  have e : τ.app ⟨d, v, ob⟩ = τ.app ⟨d, v, []⟩ := by
    unfold St.app
    rw [upds_id ob τ fun p hp => by rw [hA.2 _ (hob p hp).1]; exact (hob p hp).2]
    rfl
  rw [← e]
  exact hR'
theorem Fit.ro {L : List Loc} {tv : TV X.U} {l : List (Nat × TO X.U)} (h : Fit P s o σ L ⟨tv, l⟩) (hM : M s σ) (hl : ∀ p ∈ l, Loc.obj p.1 ∈ L ∧ nth s.objs p.1 = some p.2) : Fit P s o σ L ⟨tv, []⟩ := by
  have e : updO s.objs l = s.objs := updO_id l s.objs fun p hp => (hl p hp).2
  have h1 : Step P o L ⟨o.dst, tv.itp (rlen (updO s.objs l)), l.map fun p => (p.1, p.2.itp (rlen (updO s.objs l)))⟩ σ := h.step
  have h2 : tv.bel (updO s.objs l).length = true := h.vb
  rw [e] at h1 h2
  refine .pure (Step.ro h1 fun p hp => ?_) h2
  obtain ⟨q, hq, rfl⟩ := List.mem_map.1 hp
  exact ⟨(hl q hq).1, hM.ob _ _ (hl q hq).2⟩
def evCall (X : Cx) (E : FuncId → Option (Spc X.U)) (s : TS X.U) (f : FuncId) (xs : List Operand) (k : List Loc → TEff X.U → Option R) : Option R :=
  match E f with
  | none => none
  | some S =>
    let args := xs.map (evO s)
    match args.any TV.isJunk with
    | true => none
    | false =>
      let ids := reach s.objs 1000 (idsL args) []
      match objsAt s.objs ids with
      | none => none
      | some os => match nodupN ids && allL (fun i => memN i ids) args && os.all (fun x => x.all fun i => memN i ids) && os.all TO.alive with
        | false => none
        | true => S.F (os.map (TO.ren fun i => idxN i ids)) (tenL (fun i => idxN i ids) args) fun os' res => callK s xs ids os' res k
theorem evCall_ok (hX : CxOk P X) {E : FuncId → Option (Spc X.U)} (hE : ∀ f S, E f = some S → SpecOk P f S) {f : FuncId} {xs : Array Operand} {ts : Array TypeId} (h : evCall X E s f xs.toList k = some r) (hM : M s σ)
    (ho : o.op = .call { callee := .value (.func f), args := xs, argTypes := ts }) : ∃ L e, k L e = some r ∧ Fit P s o σ L e := by
  unfold evCall at h
  split at h <;> try (cases h; done)
  rename_i S hS
  obtain ⟨⟨fn, hf, hname, hbody⟩, hpath, hok⟩ := hE f S hS
  dsimp only at h
  split at h <;> try (cases h; done)
  rename_i hj
  generalize hids : reach s.objs 1000 (idsL (xs.toList.map (evO s))) [] = ids at h
  split at h <;> try (cases h; done)
  rename_i os hos
  split at h <;> try (cases h; done)
  rename_i hchk
  simp only [Bool.and_eq_true] at hchk
  obtain ⟨⟨⟨c1, c2⟩, c3⟩, c4⟩ := hchk
  have hc : Clsd X.U := hX.closed
  have hnd := nodupN_ok c1
  obtain ⟨hol, hoget⟩ := objsAt_ok hos
  have hidlt : ∀ i ∈ ids, i < s.objs.length := fun i hi => by
    obtain ⟨j, hj⟩ := List.mem_iff_getElem?.1 hi
    obtain ⟨x, _, hx⟩ := hoget j i hj
    exact nth_lt hx
  have hidx : ∀ i, memN i ids = true → decide (idxN i ids < (os.map (TO.ren fun i => idxN i ids)).length) = true := fun i hi => by
    rw [List.length_map, hol]
    exact decide_eq_true (idxN_get (memN_iff.1 hi)).2
  obtain ⟨objs0, res, hk0, hpk⟩ := hpath _ _ _ _ h
  obtain ⟨hcall, hle, hrls, hrb, hob'⟩ := hok _ _ objs0 res (hpk _) (tenL_all hidx c2) (List.all_eq_true.2 fun x hx => by
      obtain ⟨y, hy, rfl⟩ := List.mem_map.1 hx
      rw [TO.bel_all]
      exact TO.ren_all hidx (List.all_eq_true.1 c3 y hy)) (List.all_eq_true.2 fun x hx => by
      obtain ⟨y, hy, rfl⟩ := List.mem_map.1 hx
      have := List.all_eq_true.1 c4 y hy
      cases y <;> first | rfl | exact this)
  generalize hO : nz objs0 (os.map (TO.ren fun i => idxN i ids)) = objs' at hcall hle hrls hrb hob'
  rw [List.length_map, hol] at hle hrls
  generalize hns : List.range' s.objs.length (objs'.length - ids.length) = ns
  have hnsl : ns.length = objs'.length - ids.length := by rw [← hns, List.length_range']
  have hnml : (ids ++ ns).length = objs'.length := by rw [List.length_append, hnsl]; omega
  have hnsm : ∀ i ∈ ns, s.objs.length ≤ i := fun i hi => by
    rw [← hns] at hi
    exact (List.mem_range'_1.1 hi).1
  have hnmnd : (ids ++ ns).Nodup := by
    refine List.nodup_append.2 ⟨hnd, by rw [← hns]; exact List.nodup_range', fun a ha b hb e => ?_⟩
    have h1 := hidlt a ha
    have h2 := hnsm b hb
    omega
  have hback : ∀ i, memN i ids = true → nameH (ids ++ ns) (idxN i ids) = i := fun i hi => by
    obtain ⟨h1, h2⟩ := idxN_get (memN_iff.1 hi)
    exact nameH_get (by rw [List.getElem?_append_left h2]; exact h1)
  -- what the callee is handed
  have hrel : ∀ j x, os[j]? = some x → rlen (os.map (TO.ren fun i => idxN i ids)) j = x.rlen := fun j x hx => by
    unfold rlen
    rw [nth_eq, List.getElem?_map, hx]
    exact TO.ren_rlen _ x
  have hrl1 : ∀ i, memN i ids = true → rlen (os.map (TO.ren fun i => idxN i ids)) (idxN i ids) = rlen s.objs i := fun i hi => by
    obtain ⟨h1, h2⟩ := idxN_get (memN_iff.1 hi)
    obtain ⟨x, hx, hx2⟩ := hoget _ _ h1
    rw [hrel _ _ hx]
    unfold rlen
    rw [hx2]
  have hrl2 : ∀ j, j < ids.length → rlen s.objs (nameH (ids ++ ns) j) = rlen (os.map (TO.ren fun i => idxN i ids)) j := fun j hj => by
    obtain ⟨x, hx, hx2⟩ := hoget j ids[j] (List.getElem?_eq_getElem hj)
    have e := nameH_get (nm := ids ++ ns) (j := j) (id := ids[j]) (by rw [List.getElem?_append_left hj]; exact List.getElem?_eq_getElem hj)
    rw [e, hrel _ _ hx]
    unfold rlen
    rw [hx2]
  -- what is left
  generalize hρ : nameH (ids ++ ns) = ρ at *
  have hρ1 : ∀ j, j < ids.length → ∃ i, ids[j]? = some i ∧ ρ j = i := fun j hj => ⟨ids[j], List.getElem?_eq_getElem hj, by rw [← hρ]; exact nameH_get (by rw [List.getElem?_append_left hj]; exact List.getElem?_eq_getElem hj)⟩
  have hρ2 : ∀ j, ids.length ≤ j → j < objs'.length → ρ j = s.objs.length + (j - ids.length) := fun j h1 h2 => by
    rw [← hρ]
    refine nameH_get ?_
    rw [List.getElem?_append_right h1, ← hns, List.getElem?_range' (by omega)]
    simp
  generalize hD : objs'.map (TO.ren ρ) = D at *
  have hDl : D.length = objs'.length := by rw [← hD, List.length_map]
  have hDg : ∀ j x, D[j]? = some x → ∃ y : TO X.U, objs'[j]? = some y ∧ x = y.ren ρ := fun j x hx => by
    rw [← hD, List.getElem?_map] at hx
    obtain ⟨y, hy, rfl⟩ := Option.map_eq_some_iff.1 hx
    exact ⟨y, hy, rfl⟩
  have hrD : ∀ j x, D[j]? = some x → x.rlen = rlen objs' j := fun j x hx => by
    obtain ⟨y, hy, rfl⟩ := hDg j x hx
    unfold rlen
    rw [nth_eq, hy]
    exact TO.ren_rlen _ _
  obtain ⟨a1, a2⟩ := obs_old ids (D.take ids.length) s.objs (by rw [List.length_take]; omega) fun j i x hi hx => by
    have hx := take_get0 hx
    obtain ⟨y, hy, hy2⟩ := hoget j i hi
    refine ⟨y, hy2, ?_⟩
    rw [hrD j x hx, hrls j (List.getElem?_eq_some_iff.1 hi).1]
    exact (hrel j y hy).symm
  have hdl : (D.drop ids.length).length = objs'.length - ids.length := by rw [List.length_drop, hDl]
  obtain ⟨b1, b2, b3, b4⟩ := obs_new (D.drop ids.length) (updO s.objs (ids.zip (D.take ids.length))) s.objs.length a2.symm
  rw [hdl, hns] at b1 b2 b3 b4
  have hzip : (ids ++ ns).zip D = ids.zip (D.take ids.length) ++ ns.zip (D.drop ids.length) := by
    conv => lhs; rw [← List.take_append_drop ids.length D]
    exact List.zip_append (by rw [List.length_take]; omega)
  have hok1 : ObsOk s.objs ((ids ++ ns).zip D) := by rw [hzip]; exact a1.append b1
  have hlen1 : (updO s.objs ((ids ++ ns).zip D)).length = s.objs.length + (objs'.length - ids.length) := by rw [hzip, updO_append]; exact b2
  have hrl3 : ∀ j, decide (j < objs'.length) = true → rlen (updO s.objs ((ids ++ ns).zip D)) (ρ j) = rlen objs' j := fun j hj => by
    have hj := of_decide_eq_true hj
    by_cases h1 : j < ids.length
    · obtain ⟨i, hi, e⟩ := hρ1 j h1
      rw [updO_rlen _ _ hok1 _ (by rw [e]; exact hidlt i (List.mem_of_getElem? hi)), hrl2 j h1, hrls j h1]
    · rw [hρ2 j (by omega) hj]
      unfold rlen
      rw [hzip, updO_append, b3, nth_eq, nth_eq, List.getElem?_drop, show ids.length + (j - ids.length) = j by omega, ← hD, List.getElem?_map, List.getElem?_eq_getElem hj]
      exact TO.ren_rlen _ _
  have hρlt : ∀ j, decide (j < objs'.length) = true → decide (ρ j < (updO s.objs ((ids ++ ns).zip D)).length) = true := fun j hj => by
    have hj := of_decide_eq_true hj
    refine decide_eq_true ?_
    rw [hlen1]
    by_cases h1 : j < ids.length
    · obtain ⟨i, hi, e⟩ := hρ1 j h1
      have := hidlt i (List.mem_of_getElem? hi)
      omega
    · rw [hρ2 j (by omega) hj]
      omega
  have hbel' : ∀ x ∈ objs', x.all (fun i => decide (i < objs'.length)) = true := fun x hx => by
    rw [← TO.bel_all]
    exact List.all_eq_true.1 hob' x hx
  have hargs : renL ρ (itpL (rlen (os.map (TO.ren fun i => idxN i ids))) (tenL (fun i => idxN i ids) (xs.toList.map (evO s)))) = xs.toList.map σ.ev := by
    rw [itpL_ren hc (rl' := rlen s.objs) (p := fun i => decide (i < ids.length)) (fun i hi => hrl2 i (of_decide_eq_true hi)) (tenL_all (fun i hi => by have := hidx i hi; rwa [List.length_map, hol] at this) c2), tenL_tenL hback c2, itpL_eq, List.map_map]
    refine List.map_congr_left fun x hx => ?_
    refine (hM.ev rfl ?_).symm
    refine not_junk ?_
    cases hq : (evO s x).isJunk with
    | false => rfl
    | true =>
      have : (xs.toList.map (evO s)).any TV.isJunk = true := List.any_eq_true.2 ⟨_, List.mem_map.2 ⟨x, hx, rfl⟩, hq⟩
      rw [hj] at this
      cases this
  have hrelb : ∀ x ∈ os, (x.ren fun i => idxN i ids).all (fun i => decide (i < ids.length)) = true := fun x hx => TO.ren_all (fun i hi => by have := hidx i hi; rwa [List.length_map, hol] at this) (List.all_eq_true.1 c3 x hx)
  have hfit : Fit P s o σ (locs xs.toList ++ [] ++ [] ++ (ids ++ ns).map .obj) ⟨res.ren ρ, (ids ++ ns).zip D⟩ := by
    have hstep := step_hcall (P := P) (s := σ) ho hf hname hbody [] (fun x hx => by cases hx) .nil ids ns hnmnd (objs := (os.map (TO.ren fun i => idxN i ids)).map (TO.ob (rlen (os.map (TO.ren fun i => idxN i ids))))) (objs' := objs'.map (TO.itp (rlen objs')))
      (args := itpL (rlen (os.map (TO.ren fun i => idxN i ids))) (tenL (fun i => idxN i ids) (xs.toList.map (evO s)))) (res := res.itp (rlen objs')) (L := []) ?_ (fun i hi => hM.fresh i (hnsm i hi)) ?_ (by rw [List.length_map, hnml]) ?_ ?_ ?_ hcall
    · refine ⟨?_, hok1, ren_all hρlt hrb, ?_⟩
      · have e1 : (res.itp (rlen objs')).ren ρ = (res.ren ρ).itp (rlen (updO s.objs ((ids ++ ns).zip D))) := itp_ren hc hrl3 hrb
        have e2 : zipH ρ (ids ++ ns) (objs'.map (TO.itp (rlen objs'))) = ((ids ++ ns).zip D).map fun p => (p.1, p.2.itp (rlen (updO s.objs ((ids ++ ns).zip D)))) := by
          rw [zipH_zip, List.map_map]
          have : objs'.map (OS.ren ρ ∘ TO.itp (rlen objs')) = D.map (TO.itp (rlen (updO s.objs ((ids ++ ns).zip D)))) := by
            rw [← hD, List.map_map]
            refine List.map_congr_left fun x hx => ?_
            rw [hD]
            exact TO.itp_ren hc hrl3 (hbel' x hx)
          rw [this, List.zip_map_right]
          rfl
        rw [hρ, e1, e2] at hstep
        exact hstep
      · refine List.all_eq_true.2 fun p hp => ?_
        have hm := (List.of_mem_zip (a := p.1) (b := p.2) hp).2
        rw [← hD] at hm
        obtain ⟨y, hy, e⟩ := List.mem_map.1 hm
        rw [TO.bel_all, ← e]
        exact TO.ren_all hρlt (hbel' y hy)
    · rw [hρ, List.map_map, List.map_map]
      apply List.ext_getElem?
      intro j
      rw [List.getElem?_map, List.getElem?_map]
      by_cases hjl : j < ids.length
      · obtain ⟨x, hx, hx2⟩ := hoget j ids[j] (List.getElem?_eq_getElem hjl)
        rw [List.getElem?_eq_getElem hjl, hx]
        have hmem := List.mem_of_getElem? hx
        have h1 := hM.ob _ _ hx2
        have hal : (x.ren fun i => idxN i ids).alive = true := by
          have := List.all_eq_true.1 c4 x hmem
          cases x <;> first | rfl | exact this
        have h2 : ((x.ren fun i => idxN i ids).itp (rlen (os.map (TO.ren fun i => idxN i ids)))).ren ρ = x.itp (rlen s.objs) := by
          rw [TO.itp_ren hc (rl' := rlen s.objs) (p := fun i => decide (i < ids.length)) (fun i hi => hrl2 i (of_decide_eq_true hi)) (hrelb x hmem), TO.ren_ren hback (List.all_eq_true.1 c3 x hmem)]
        rw [TO.itp_ob hal] at h2
        show some (σ.obj ids[j]) = some _
        rw [h1, ← h2]
        rfl
      · rw [List.getElem?_eq_none (by omega), List.getElem?_eq_none (by omega)]
        rfl
    · refine List.all_eq_true.2 fun ob hob => ?_
      obtain ⟨y, hy, rfl⟩ := List.mem_map.1 hob
      obtain ⟨x, hx, rfl⟩ := List.mem_map.1 hy
      have hb := hrelb x hx
      cases x with
      | dead n => rfl
      | cells l fz => show (ltL _ _ && true) = true; rw [itpL_lt hc hb]; rfl
      | row c xs fz => exact closedR_lt _ (hc.rows c xs)
      | mp c xs fz => exact closedR_lt _ (hc.rows c xs)
    · refine List.all_eq_true.2 fun os1 hos1 => ?_
      obtain ⟨x, hx, rfl⟩ := List.mem_map.1 hos1
      have hb := hbel' x hx
      rw [← hnml] at hb
      cases x with
      | dead n => rfl
      | cells l fz => show (ltL _ _ && true) = true; rw [itpL_lt hc hb]; rfl
      | row c xs fz => exact closedR_lt _ (hc.rows c xs)
      | mp c xs fz => exact closedR_lt _ (hc.rows c xs)
    · rw [hnml]; exact itp_lt hc hrb
    · rw [hρ, ← hargs]
      exact SolHL.of_ren (itpL_lt hc (tenL_all (fun i hi => by have := hidx i hi; rwa [List.length_map, hol] at this) c2))
  cases objs0 with
  | cons x0 r0 =>
    have hO : x0 :: r0 = objs' := hO
    subst hO hns hρ hD
    exact ⟨_, _, hk0, hfit⟩
  | nil =>
    have hO : os.map (TO.ren fun i => idxN i ids) = objs' := hO
    have hns0 : ns = [] := by
      have : ns.length = 0 := by rw [hnsl, ← hO, List.length_map, hol]; omega
      exact List.eq_nil_of_length_eq_zero this
    have hDo : D = os := by
      rw [← hD, ← hO, List.map_map]
      conv => rhs; rw [← List.map_id os]
      refine List.map_congr_left fun x hx => ?_
      exact TO.ren_ren hback (List.all_eq_true.1 c3 x hx)
    rw [hns0] at hfit hρ
    rw [hDo] at hfit
    subst hρ
    refine ⟨_, _, hk0, hfit.ro hM fun p hp => ?_⟩
    rw [List.append_nil] at hp
    obtain ⟨j, hj⟩ := List.mem_iff_getElem?.1 hp
    rw [List.getElem?_zip_eq_some] at hj
    obtain ⟨y, hy, hy2⟩ := hoget j p.1 hj.1
    rw [hj.2] at hy
    cases hy
    refine ⟨?_, hy2⟩
    refine List.mem_append_right _ (List.mem_map.2 ⟨p.1, ?_, rfl⟩)
    rw [List.append_nil]
    exact List.mem_of_getElem? hj.1
end
end Go.Proofs.YtmcflglkfgnbbaaDoor.Eng

/- Maps. -/
namespace Go.Proofs.YtmcflglkfgnbbaaDoor.Eng
open Go Go.RowKit
set_option linter.unusedVariables false
set_option linter.unusedSimpArgs false
section
variable {P : Program} {X : Cx} {s : TS X.U} {o : Oper} {σ : St} {R : Type} {r : R} {k : List Loc → TEff X.U → Option R}
def evMakeMap (X : Cx) (s : TS X.U) (T : TypeId) (k : List Loc → TEff X.U → Option R) : Option R := match X.mt T with
  | some m => k [.obj s.objs.length] ⟨.mp s.objs.length, [(s.objs.length, .mp m.c [] false)]⟩
  | none => none
theorem evMakeMap_ok (hX : CxOk P X) {T : TypeId} (h : evMakeMap X s T k = some r) (hM : M s σ) (ho : o.op = .makeMap T none) : ∃ L e, k L e = some r ∧ Fit P s o σ L e := by
  unfold evMakeMap at h
  split at h <;> try (cases h; done)
  rename_i m hm
  obtain ⟨kt, et, zi, zv, kv, bv, h1, h3, h4, h5, h6, h7, h8, h9, h10, h11, h12, h13⟩ := (hX.mt T m hm).ex
  have hs := step_makeMap (P := P) ho (hM.fresh s.objs.length (Nat.le_refl _))
  refine ⟨_, _, h, ?_, ⟨.inr rfl, trivial⟩, ?_, rfl⟩
  · show Step P o [.obj s.objs.length] ⟨o.dst, .mp s.objs.length, [(s.objs.length, .ob ⟨X.U.sz m.c, [], false⟩)]⟩ σ
    rw [h7]
    exact hs
  · show decide (s.objs.length < (setO s.objs s.objs.length (TO.mp m.c [] false)).length) = true
    rw [length_setO, if_neg (Nat.lt_irrefl _)]
    exact decide_eq_true (Nat.lt_succ_self _)
/-- What is told of a map. -/
def mapOf (s : TS X.U) (m : MK X.U) : TV X.U → Option (List (m.A × m.B) × Option (Nat × Bool))
  | .mp id => match nth s.objs id with
    | some (.mp c xs fz) => match castL c m.c xs with
      | some ys => some (m.fr ys, some (id, fz))
      | none => none
    | _ => none
  | .v (.map none) => some ([], none)
  | _ => none
def evLookup (X : Cx) (s : TS X.U) (T : TypeId) (x y : Operand) (ok : Bool) (k : List Loc → TEff X.U → Option R) : Option R := match X.mt T with
  | some m => match mapOf s m (evO s x) with
    | some (l, i) => match m.dk (evO s y) with
      | some q => k (locO x ++ locO y ++ (match i with | some (id, _) => [.obj id] | none => [])) ⟨match ok with | true => .tup [m.ev ((aget m.eq l q).getD m.zero), .v (.bool (aget m.eq l q).isSome)] | false => m.ev ((aget m.eq l q).getD m.zero), []⟩
      | none => none
    | none => none
  | none => none
theorem evLookup_ok (hX : CxOk P X) {T : TypeId} {x y : Operand} {ok : Bool} (h : evLookup X s T x y ok k = some r) (hM : M s σ) (ho : o.op = .lookup T x y ok) : ∃ L e, k L e = some r ∧ Fit P s o σ L e := by
  unfold evLookup at h
  split at h <;> try (cases h; done)
  rename_i m hm
  split at h <;> try (cases h; done)
  rename_i l i hl
  split at h <;> try (cases h; done)
  rename_i q hq
  obtain ⟨kt, et, zi, zv, kv, bv, h1, h3, h4, h5, h6, h7, h8, h9, h10, h11, h12, h13⟩ := (hX.mt T m hm).ex
  obtain ⟨hj, hk⟩ := h10 _ _ hq
  have hy : ∀ g H v, Rep g H v (σ.ev y) → v = kv q := fun g H v hv => by
    rw [hM.ev rfl hj] at hv
    exact hk _ _ _ _ hv
  refine ⟨_, _, h, ?_⟩
  unfold mapOf at hl
  split at hl <;> try (cases hl; done)
  · rename_i id hx
    split at hl <;> try (cases hl; done)
    rename_i c xs fz hob
    split at hl <;> try (cases hl; done)
    rename_i ys hys
    cases hl
    obtain ⟨c1, c2⟩ := castL_ok hys
    have ho1 : σ.obj id = .ob ⟨2, prs kv bv (m.fr ys), fz⟩ := by
      rw [hM.ob id _ hob, ← h8 ys, c2, ← h7, c1]
      rfl
    have hx1 : σ.ev x = .mp id := hM.ev hx (by simp)
    have hs := step_lookup (P := P) (z := m.zero) ho h1 h3 hx1 ho1 hy h4 h5 h6
    cases ok with
    | true =>
      refine .pure ?_ (by show (TV.bel _ _ && (TV.bel _ _ && true)) = true; rw [h13]; rfl)
      show Step P o _ ⟨o.dst, .tup [(m.ev _).itp _, .v (.bool _)], []⟩ σ
      rw [h12]
      exact hs
    | false =>
      refine .pure ?_ (h13 _ _)
      rw [h12]
      exact hs
  · rename_i hx
    cases hl
    have hx1 : σ.ev x = .v (.map none) := hM.ev hx (by simp)
    have hs := step_lookup_nil (P := P) (z := m.zero) (bv := bv) ho h1 h3 hx1 hy h4 h5 h6
    simp only [List.append_nil]
    cases ok with
    | true =>
      refine .pure ?_ (by show (TV.bel _ _ && (TV.bel _ _ && true)) = true; rw [h13]; rfl)
      show Step P o _ ⟨o.dst, .tup [(m.ev _).itp _, .v (.bool _)], []⟩ σ
      rw [h12]
      exact hs
    | false =>
      refine .pure ?_ (h13 _ _)
      rw [h12]
      exact hs
def evMapUpdate (X : Cx) (s : TS X.U) (T : TypeId) (x y z : Operand) (k : List Loc → TEff X.U → Option R) : Option R := match X.mt T with
  | some m => match evO s x with
    | .mp id => match nth s.objs id with
      | some (.mp c xs false) => match castL c m.c xs with
        | some ys => match m.dk (evO s y) with
          | some q => match m.dv (evO s z) with
            | some b => k (locO x ++ locO y ++ locO z ++ [.obj id]) ⟨.v undef, [(id, .mp m.c (m.to (aset m.eq (m.fr ys) q b)) false)]⟩
            | none => none
          | none => none
        | none => none
      | _ => none
    | _ => none
  | none => none
theorem evMapUpdate_ok (hX : CxOk P X) {T : TypeId} {x y z : Operand} (h : evMapUpdate X s T x y z k = some r) (hM : M s σ) (ho : o.op = .mapUpdate T x y z) : ∃ L e, k L e = some r ∧ Fit P s o σ L e := by
  unfold evMapUpdate at h
  split at h <;> try (cases h; done)
  rename_i m hm
  split at h <;> try (cases h; done)
  rename_i id hx
  split at h <;> try (cases h; done)
  rename_i c xs hob
  split at h <;> try (cases h; done)
  rename_i ys hys
  split at h <;> try (cases h; done)
  rename_i q hq
  split at h <;> try (cases h; done)
  rename_i b hb
  obtain ⟨kt, et, zi, zv, kv, bv, h1, h3, h4, h5, h6, h7, h8, h9, h10, h11, h12, h13⟩ := (hX.mt T m hm).ex
  obtain ⟨hj, hk⟩ := h10 _ _ hq
  obtain ⟨hj2, hv⟩ := h11 _ _ hb
  have hy : ∀ g H v, Rep g H v (σ.ev y) → v = kv q := fun g H v hv => by
    rw [hM.ev rfl hj] at hv
    exact hk _ _ _ _ hv
  obtain ⟨c1, c2⟩ := castL_ok hys
  have ho1 : σ.obj id = .ob ⟨2, prs kv bv (m.fr ys), false⟩ := by
    rw [hM.ob id _ hob, ← h8 ys, c2, ← h7, c1]
    rfl
  have hx1 : σ.ev x = .mp id := hM.ev hx (by simp)
  have hs := step_mapUpdate (P := P) ho h1 h3 hx1 ho1 hy (b := b) rfl (fun g H v hr => by rw [hM.ev rfl hj2] at hr; exact hv _ _ _ _ hr)
  refine ⟨_, _, h, ?_, ⟨.inl ⟨_, hob, rfl⟩, trivial⟩, rfl, rfl⟩
  show Step P o _ ⟨o.dst, .v undef, [(id, .ob ⟨X.U.sz m.c, (m.to _).map (X.U.encS m.c), false⟩)]⟩ σ
  rw [h8, h9, h7]
  exact hs
/-! ### Bytes as texts -/
def okStr (X : Cx) (T1 T2 : TypeId) : Bool := match X.tt T1 with
  | some t => match t.elem with
    | some e => match X.tt e with
      | some u => X.sty T2 && (match u.ik with | some .u8 => true | _ => false)
      | none => false
    | none => false
  | none => false
def evStr (X : Cx) (s : TS X.U) (T1 T2 : TypeId) (x : Operand) (k : List Loc → TEff X.U → Option R) : Option R := match X.u8k with
  | some q => match rowsOf s q.c (evO s x) with
    | some (ys, L) => match okStr X T1 T2 with
      | true => k (locO x ++ L) ⟨.v (.string (strOfNums (q.f ys))), []⟩
      | false => none
    | none => none
  | none => none
theorem evStr_ok (hX : CxOk P X) {T1 T2 : TypeId} {x : Operand} (h : evStr X s T1 T2 x k = some r) (hM : M s σ) (ho : o.op = .convert T1 T2 x) : ∃ L e, k L e = some r ∧ Fit P s o σ L e := by
  unfold evStr at h
  split at h <;> try (cases h; done)
  rename_i q hq
  split at h <;> try (cases h; done)
  rename_i ys L hys
  split at h <;> try (cases h; done)
  rename_i hok
  unfold okStr at hok
  split at hok <;> try (cases hok; done)
  rename_i t ht
  split at hok <;> try (cases hok; done)
  rename_i e he
  split at hok <;> try (cases hok; done)
  rename_i u hu
  rw [Bool.and_eq_true] at hok
  obtain ⟨h2, h3⟩ := hok
  split at h3 <;> try (cases h3; done)
  rename_i hik
  obtain ⟨q1, q2⟩ := hX.u8k q hq
  have hL := rowsOf_ok hM hys
  rw [q1, q2] at hL
  have hs := step_str (P := P) ((hX.tab T1 t ht).sl he) ((hX.tab e u hu).ikk hik) (hX.str T2 h2) ho _ hL
  exact ⟨_, _, h, .pure hs rfl⟩
/-- Conversions. -/
def evCv (X : Cx) (s : TS X.U) (T1 T2 : TypeId) (x : Operand) (k : List Loc → TEff X.U → Option R) : Option R := match evO s x with
  | .v (.int _ _) => evConv X s T1 T2 x k
  | _ => evStr X s T1 T2 x k
theorem evCv_ok (hX : CxOk P X) {T1 T2 : TypeId} {x : Operand} (h : evCv X s T1 T2 x k = some r) (hM : M s σ) (ho : o.op = .convert T1 T2 x) : ∃ L e, k L e = some r ∧ Fit P s o σ L e := by
  unfold evCv at h
  split at h
  · exact evConv_ok hX h hM ho
  · exact evStr_ok hX h hM ho
end
end Go.Proofs.YtmcflglkfgnbbaaDoor.Eng

/- Regions, and what is told with fewer names. -/
namespace Go.Proofs.YtmcflglkfgnbbaaDoor.Eng
open Go Go.RowKit
set_option linter.unusedVariables false
set_option linter.unusedSimpArgs false
section
variable {P : Program} {X : Cx} {E : FuncId → Option (Spc X.U)} {R : Type} {r : R}
def evBuiltin (X : Cx) (s : TS X.U) (b : Builtin) (xs : List Operand) (ts : List TypeId) (k : List Loc → TEff X.U → Option R) : Option R :=
  match b with
  | .len => match xs, ts with
    | [x], [T] => evLen X s T x k
    | _, _ => none
  | .append => match xs, ts with
    | [x, y], [T, Ty] => evAppend X s T Ty x y k
    | _, _ => none
  | .max => match xs with
    | [x, y] => evMM X s true x y k
    | _ => none
  | .min => match xs with
    | [x, y] => evMM X s false x y k
    | _ => none
  | _ => none
/-- A function that is told as a value, without anything that it captured. -/
def fnOf {U : Univ} : TV U → Option FuncId
  | .v (.func (.func f) ⟨[]⟩ ⟨[]⟩) => some f
  | _ => none
theorem fnOf_ok {U : Univ} {x : TV U} {f : FuncId} (h : fnOf x = some f) : x = .v (.func (.func f) #[] #[]) := by
  unfold fnOf at h
  split at h
  · cases h; rfl
  · cases h
def evCallV (X : Cx) (E : FuncId → Option (Spc X.U)) (s : TS X.U) (x : Operand) (xs : List Operand) (k : List Loc → TEff X.U → Option R) : Option R :=
  match fnOf (evO s x) with
  | none => none
  | some f => evCall X E s f xs fun L e => k (locO x ++ L) e
theorem evCallV_ok {s : TS X.U} {o : Oper} {σ : St} (hX : CxOk P X) (hE : ∀ f S, E f = some S → SpecOk P f S) {x : Operand} {xs : Array Operand} {ts : Array TypeId} {k : List Loc → TEff X.U → Option R} (h : evCallV X E s x xs.toList k = some r) (hM : M s σ)
    (ho : o.op = .call { callee := .value x, args := xs, argTypes := ts }) : ∃ L e, k L e = some r ∧ Fit P s o σ L e := by
  unfold evCallV at h
  split at h <;> try (cases h; done)
  rename_i f hf
  have hx := fnOf_ok hf
  obtain ⟨L, e, hk, hfit⟩ := evCall_ok (o := { o with op := .call { callee := .value (.func f), args := xs, argTypes := ts } }) hX hE h hM rfl
  refine ⟨locO x ++ L, e, hk, ⟨?_, hfit.obs, hfit.vb, hfit.obb⟩⟩
  intro fr σ' a w K Q hA hd hR hK
  obtain ⟨g, hR'⟩ := hR
  have ex := hM.ev hx (by simp)
  have hev : a.eval x = .func (.func f) #[] #[] := ev_v hR' hA.left ex
  have hexec : execOp a.eval o = execOp a.eval { o with op := .call { callee := .value (.func f), args := xs, argTypes := ts } } := by
    have e1 : a.eval (.func f) = .func (.func f) #[] #[] := rfl
    simp only [execOp, ho, resolve, hev, e1]
  have := hfit.step fr σ' a w K Q hA.right hd ⟨g, hR'⟩ hK
  unfold Oper.wp at this ⊢
  rw [hexec]
  exact this
def ev1 (X : Cx) (E : FuncId → Option (Spc X.U)) (s : TS X.U) (o : Oper) (k : List Loc → TEff X.U → Option R) : Option R :=
  match o.op with
  | .move x => evMv X s x k
  | .assign x => evMv X s x k
  | .pick c x y => evPick X s c x y k
  | .binOp op T x y _ => evBin X s op T x y k
  | .unOp op _ x => evUn X s op x k
  | .convert T1 T2 x => evCv X s T1 T2 x k
  | .load T x => evLoad X s T x k
  | .store T x y => evStore X s T x y k
  | .fieldAddr T x f => evFieldAddr X s T x f k
  | .field T x f => evField X s T x f k
  | .nilCheck x => evNil X s x k
  | .extract x n => evExtract X s x n k
  | .indexAddr T x y => evIndexAddr X s T x y k
  | .index T x y => evIndex X s T x y k
  | .alloc T => evAlloc X s T k
  | .box _ x => evBox X s x k
  | .build T parts => evBuild X s T parts.toList k
  | .buildSlice T n parts => evSliceLit X s T n parts.toList k
  | .makeSlice T x y => evMake X s T x y k
  | .slice T x lo hi none => evCut X s T x lo hi k
  | .makeMap T none => evMakeMap X s T k
  | .lookup T x y ok => evLookup X s T x y ok k
  | .mapUpdate T x y z => evMapUpdate X s T x y z k
  | .call c => match c.callee with
    | .value (.func f) => evCall X E s f c.args.toList k
    | .value x => evCallV X E s x c.args.toList k
    | .builtin b => evBuiltin X s b c.args.toList c.argTypes.toList k
    | _ => none
  | _ => none
variable {s : TS X.U} {o : Oper} {σ : St}
theorem arr1 {α : Type} {a : Array α} {x : α} (h : a.toList = [x]) : a = #[x] := by apply Array.ext'; exact h
theorem arr2 {α : Type} {a : Array α} {x y : α} (h : a.toList = [x, y]) : a = #[x, y] := by apply Array.ext'; exact h
theorem ev1_ok (hX : CxOk P X) (hE : ∀ f S, E f = some S → SpecOk P f S) {k : List Loc → TEff X.U → Option R} (h : ev1 X E s o k = some r) (hM : M s σ) : ∃ L e, k L e = some r ∧ Fit P s o σ L e := by
  unfold ev1 at h
  split at h <;> try (cases h; done)
  · rename_i ho; exact evMv_ok h hM (.inl ho)
  · rename_i ho; exact evMv_ok h hM (.inr ho)
  · rename_i ho; exact evPick_ok h hM ho
  · rename_i ho; exact evBin_ok hX h hM ho
  · rename_i ho; exact evUn_ok h hM ho
  · rename_i ho; exact evCv_ok hX h hM ho
  · rename_i ho; exact evLoad_ok hX h hM ho
  · rename_i ho; exact evStore_ok hX h hM ho
  · rename_i ho; exact evFieldAddr_ok hX h hM ho
  · rename_i ho; exact evField_ok hX h hM ho
  · rename_i ho; exact evNil_ok h hM ho
  · rename_i ho; exact evExtract_ok h hM ho
  · rename_i ho; exact evIndexAddr_ok hX h hM ho
  · rename_i ho; exact evIndex_ok hX h hM ho
  · rename_i ho; exact evAlloc_ok hX h hM ho
  · rename_i ho; exact evBox_ok h hM ho
  · rename_i ho; exact evBuild_ok hX h hM ho
  · rename_i ho; exact evSliceLit_ok hX h hM ho
  · rename_i ho; exact evMake_ok hX h hM ho
  · rename_i ho; exact evCut_ok hX h hM ho
  · rename_i ho; exact evMakeMap_ok hX h hM ho
  · rename_i ho; exact evLookup_ok hX h hM ho
  · rename_i ho; exact evMapUpdate_ok hX h hM ho
  · rename_i c ho
    obtain ⟨callee, args, ts⟩ := c
    dsimp only at h
    split at h <;> try (cases h; done)
    · exact evCall_ok hX hE h hM ho
    · exact evCallV_ok hX hE h hM ho
    · rename_i b
      unfold evBuiltin at h
      split at h <;> try (cases h; done)
      · split at h <;> try (cases h; done)
        rename_i h1 h2
        obtain rfl := arr1 h1
        obtain rfl := arr1 h2
        exact evLen_ok hX h hM ho
      · split at h <;> try (cases h; done)
        rename_i h1 h2
        obtain rfl := arr2 h1
        obtain rfl := arr2 h2
        exact evAppend_ok hX h hM ho
      · split at h <;> try (cases h; done)
        rename_i h1
        obtain rfl := arr2 h1
        exact evMax_ok h hM ho
      · split at h <;> try (cases h; done)
        rename_i h1
        obtain rfl := arr2 h1
        exact evMin_ok h hM ho
/-! ### Regions -/
def dstL : Option Nat → List Loc
  | some d => [.slot d]
  | none => []
def foot {U : Univ} (L : List Loc) (e : TEff U) (d : Option Nat) : List Loc × List Loc := (L, dstL d ++ e.ob.map fun x => .obj x.1)
def accA (dr : Bool) (acc l : List (List Loc × List Loc)) : List (List Loc × List Loc) := match dr with
  | true => acc ++ l
  | false => acc
def evOps (X : Cx) (E : FuncId → Option (Spc X.U)) (dr : Bool) (al : List Oper) : List Oper → TS X.U → List (List Loc × List Loc) → (TS X.U → List (List Loc × List Loc) → Option R) → Option R
  | [], s, acc, k => k s acc
  | o :: rest, s, acc, k => match o.guard with
    | none => ev1 X E s o fun L e => evOps X E dr al rest (s.app o.dst e) (match dr with | true => acc ++ [foot L e o.dst] | false => acc) k
    | some (j, b) => match (nth al j).bind (·.dst) with
      | none => none
      | some t0 => match getN s.slots t0 with
        | .v (.bool c) => match b with
          | true => cond c (ev1 X E ⟨setN s.slots t0 (.v (.bool true)), s.objs, s.hin⟩ o fun L e => evOps X E dr al rest (TS.app ⟨setN s.slots t0 (.v (.bool true)), s.objs, s.hin⟩ o.dst e) (accA dr acc [foot (.slot t0 :: L) e o.dst]) k)
              (evOps X E dr al rest (TS.app ⟨setN s.slots t0 (.v (.bool false)), s.objs, s.hin⟩ o.dst ⟨.v undef, []⟩) (accA dr acc [([.slot t0], dstL o.dst)]) k)
          | false => cond c (evOps X E dr al rest (TS.app ⟨setN s.slots t0 (.v (.bool true)), s.objs, s.hin⟩ o.dst ⟨.v undef, []⟩) (accA dr acc [([.slot t0], dstL o.dst)]) k)
              (ev1 X E ⟨setN s.slots t0 (.v (.bool false)), s.objs, s.hin⟩ o fun L e => evOps X E dr al rest (TS.app ⟨setN s.slots t0 (.v (.bool false)), s.objs, s.hin⟩ o.dst e) (accA dr acc [foot (.slot t0 :: L) e o.dst]) k)
        -- the guard itself was left out
        | .v (.tuple _) => evOps X E dr al rest (s.app o.dst ⟨.v undef, []⟩) (accA dr acc [([.slot t0], dstL o.dst)]) k
        | _ => none
theorem yielded_tup {P : Program} {ops : Array Oper} {f : Fr} {g : Gh} {σ : St} {a : Act} {w : World} (hR : Rel f g σ a w) {j t : Nat} {xs : Array Value} (ht : (ops[j]?).bind (·.dst) = some t) (hs : σ.slot t = .v (.tuple xs)) : yielded ops a.tmps j = none := by
  have h1 := hR.slot t
  rw [hs] at h1
  have h2 := rep_v h1
  unfold yielded
  rw [ht]
  cases hq : a.tmps[t]? with
  | none => simp [hq]
  | some v =>
    rw [Array.getD_eq_getD_getElem?, hq] at h2
    simp only [Option.getD_some] at h2
    simp [hq, h2]
theorem ChainL.offu {P : Program} {ops : Array Oper} {o : Oper} {rest : List Oper} {i : Nat} {s s' : St} {l : List (List Loc × Eff)} (j t0 : Nat) (b : Bool) {xs : Array Value} (hg : o.guard = some (j, b)) (ht : (ops[j]?).bind (·.dst) = some t0) (hs : s.slot t0 = .v (.tuple xs)) (t : ChainL P ops rest (i + 1) (s.app ⟨o.dst, .v undef, []⟩) l s') :
    ChainL P ops (o :: rest) i s (([.slot t0], ⟨o.dst, .v undef, []⟩) :: l) s' := by
  refine .cons (fun hi => ?_) t
  intro f σ a w K Q hA hd hR hK
  obtain ⟨g, hR⟩ := hR
  unfold wpOp
  rw [hi]
  have hw : Region.wanted o (yielded ops a.tmps) = false := by
    simp [Region.wanted, hg, yielded_tup (P := P) hR ht (by rw [hA.1 t0 List.mem_cons_self, hs])]
  simp only [hw, Bool.false_eq_true, if_false]
  exact hK _ _ ⟨g, hR.put o.dst (hd o · hi) (.v _)⟩
theorem M.same {t0 : Nat} {x : TV X.U} (hM : M s σ) (h : getN s.slots t0 = x) : M ⟨setN s.slots t0 x, s.objs, s.hin⟩ σ := by
  have hg : ∀ t, getN (setN s.slots t0 x) t = getN s.slots t := fun t => by
    rw [getN_set]
    split
    · rename_i e; rw [e.1, h]
    · rfl
  exact ⟨fun t ht => by rw [hg] at ht; show σ.slot t = (getN (setN s.slots t0 x) t).itp _; rw [hg]; exact hM.slot t ht, hM.ob, hM.fresh, fun t => by show (getN (setN s.slots t0 x) t).bel _ = true; rw [hg]; exact hM.sb t, hM.obb⟩
def footS (p : List Loc × Eff) : List Loc × List Loc := (p.1, p.2.locs)
theorem footS_itp {L : List Loc} {e : TEff X.U} {d : Option Nat} {rl : Nat → Nat} : footS (L, e.itp rl d) = foot L e d := by
  unfold footS foot TEff.itp Eff.locs dstL
  dsimp only
  rw [List.map_map]
  cases d <;> rfl
theorem accL {dr : Bool} {acc l : List (List Loc × List Loc)} {x : List Loc × List Loc} : accA dr (accA dr acc [x]) l = accA dr acc (x :: l) := by
  unfold accA
  cases dr
  · rfl
  · show acc ++ [x] ++ l = _
    rw [List.append_assoc]
    rfl
theorem evOps_ok (hX : CxOk P X) (hE : ∀ f S, E f = some S → SpecOk P f S) {dr : Bool} {all : Array Oper} : ∀ {ops : List Oper} {i : Nat} {s : TS X.U} {σ : St} {acc : List (List Loc × List Loc)} {k : TS X.U → List (List Loc × List Loc) → Option R},
    evOps X E dr all.toList ops s acc k = some r → M s σ → ∃ l s' σ', ChainL P all ops i σ l σ' ∧ M s' σ' ∧ k s' (accA dr acc (l.map footS)) = some r ∧ s'.hin = s.hin ∧ s.objs.length ≤ s'.objs.length ∧ ∀ i, i < s.objs.length → rlen s'.objs i = rlen s.objs i
  | [], i, s, σ, acc, k, h, hM => ⟨[], s, σ, .nil, hM, by
      show k s (accA dr acc []) = some r
      have e : accA dr acc [] = acc := by
        unfold accA
        split
        · exact List.append_nil _
        · rfl
      rw [e]
      exact h, rfl, Nat.le_refl _, fun _ _ => rfl⟩
  | o :: rest, i, s, σ, acc, k, h, hM => by
    have run : ∀ (s : TS X.U) (σ : St) (L0 : List Loc), M s σ → ev1 X E s o (fun L e => evOps X E dr all.toList rest (s.app o.dst e) (accA dr acc [foot (L0 ++ L) e o.dst]) k) = some r → (∀ L e σ' l, Step P o L ⟨o.dst, e, l⟩ σ → ∀ l' , ChainL P all rest (i + 1) (σ.app ⟨o.dst, e, l⟩) l' σ' → ChainL P all (o :: rest) i σ ((L0 ++ L, ⟨o.dst, e, l⟩) :: l') σ') →
        ∃ l s' σ', ChainL P all (o :: rest) i σ l σ' ∧ M s' σ' ∧ k s' (accA dr acc (l.map footS)) = some r ∧ s'.hin = s.hin ∧ s.objs.length ≤ s'.objs.length ∧ ∀ i, i < s.objs.length → rlen s'.objs i = rlen s.objs i := fun s σ L0 hM h hc => by
      obtain ⟨L, e, hk, hst, hobs, hvb, hobb⟩ := ev1_ok hX hE h hM
      obtain ⟨l, s', σ', q1, q2, q3, q4, q5, q6⟩ := evOps_ok hX hE (i := i + 1) hk (hM.app o.dst e hobs hvb hobb)
      refine ⟨_, s', σ', hc _ _ _ _ hst _ q1, q2, ?_, q4, Nat.le_trans (updO_len _ _) q5, fun i hi => (q6 i (Nat.lt_of_lt_of_le hi (updO_len _ _))).trans (updO_rlen _ _ hobs i hi)⟩
      rw [List.map_cons]
      have := footS_itp (L := L0 ++ L) (e := e) (d := o.dst) (rl := rlen (updO s.objs e.ob))
      unfold TEff.itp at this
      rw [this]
      rw [accL] at q3
      exact q3
    have skip : ∀ (s : TS X.U) (σ : St) (t0 j : Nat) (b : Bool), o.guard = some (j, b) → (all[j]?).bind (·.dst) = some t0 → σ.slot t0 = .v (.bool !b) → M s σ → evOps X E dr all.toList rest (s.app o.dst ⟨.v undef, []⟩) (accA dr acc [([.slot t0], dstL o.dst)]) k = some r →
        ∃ l s' σ', ChainL P all (o :: rest) i σ l σ' ∧ M s' σ' ∧ k s' (accA dr acc (l.map footS)) = some r ∧ s'.hin = s.hin ∧ s.objs.length ≤ s'.objs.length ∧ ∀ i, i < s.objs.length → rlen s'.objs i = rlen s.objs i := fun s σ t0 j b hg ht hs hM h => by
      obtain ⟨l, s', σ', q1, q2, q3, q4, q5, q6⟩ := evOps_ok hX hE (i := i + 1) h (hM.app o.dst ⟨.v undef, []⟩ trivial rfl rfl)
      refine ⟨_, s', σ', .off o.dst j t0 b hg ht rfl hs q1, q2, ?_, q4, q5, q6⟩
      rw [List.map_cons]
      have e : footS ([Loc.slot t0], ⟨o.dst, .v undef, []⟩) = ([.slot t0], dstL o.dst) := by
        unfold footS Eff.locs dstL
        cases o.dst <;> rfl
      rw [e]
      rw [accL] at q3
      exact q3
    unfold evOps at h
    split at h
    · rename_i hg
      exact run s σ [] hM h fun L e σ' l hst l' hc => .of o.dst hg rfl hst hc
    · rename_i j b hg
      split at h <;> try (cases h; done)
      rename_i t0 ht
      rw [nth_eq] at ht
      have ht : (all[j]?).bind (·.dst) = some t0 := by simpa using ht
      split at h <;> try (cases h; done)
      case h_2 xs hs =>
        have hσ : σ.slot t0 = .v (.tuple xs) := by rw [hM.slot t0 (by rw [hs]; simp), hs]; rfl
        obtain ⟨l, s', σ', q1, q2, q3, q4, q5, q6⟩ := evOps_ok hX hE (i := i + 1) h (hM.app o.dst ⟨.v undef, []⟩ trivial rfl rfl)
        refine ⟨_, s', σ', .offu j t0 b hg ht hσ q1, q2, ?_, q4, q5, q6⟩
        rw [List.map_cons]
        have e : footS ([Loc.slot t0], ⟨o.dst, .v undef, []⟩) = ([.slot t0], dstL o.dst) := by
          unfold footS Eff.locs dstL
          cases o.dst <;> rfl
        rw [e]
        rw [accL] at q3
        exact q3
      rename_i c hs
      have hσ : σ.slot t0 = .v (.bool c) := by rw [hM.slot t0 (by rw [hs]; simp), hs]; rfl
      cases b with
      | true =>
        cases c with
        | true => exact run ⟨setN s.slots t0 (.v (.bool true)), s.objs, s.hin⟩ σ [.slot t0] (hM.same hs) h fun L e σ' l hst l' hc => .on o.dst j t0 true hg ht rfl hσ hst hc
        | false => exact skip ⟨setN s.slots t0 (.v (.bool false)), s.objs, s.hin⟩ σ t0 j true hg ht hσ (hM.same hs) h
      | false =>
        cases c with
        | true => exact skip ⟨setN s.slots t0 (.v (.bool true)), s.objs, s.hin⟩ σ t0 j false hg ht hσ (hM.same hs) h
        | false => exact run ⟨setN s.slots t0 (.v (.bool false)), s.objs, s.hin⟩ σ [.slot t0] (hM.same hs) h fun L e σ' l hst l' hc => .on o.dst j t0 false hg ht rfl hσ hst hc
def indepF (B : List Nat) (l : List (List Loc × List Loc)) : Bool := (List.range l.length).all fun k => (List.range k).all fun i => (B.getD k 0).testBit i ||
  match l[i]?, l[k]? with
  | some (Li, ei), some (Lk, ek) => disj ei Lk && disj ei ek && disj ek Li
  | _, _ => true
theorem indepF_ok {B : List Nat} {l : List (List Loc × Eff)} (h : indepF B (l.map footS) = true) : indepOk B l = true := by
  unfold indepF at h
  unfold indepOk
  rw [List.length_map] at h
  refine List.all_eq_true.2 fun k hk => List.all_eq_true.2 fun i hi => ?_
  have := List.all_eq_true.1 (List.all_eq_true.1 h k hk) i hi
  rw [List.getElem?_map, List.getElem?_map] at this
  cases h1 : l[i]? with
  | none => simp
  | some p =>
    cases h2 : l[k]? with
    | none => simp
    | some q =>
      rw [h1, h2] at this
      exact this
def tabOf (ops : List Oper) : List Nat := ops.foldl (fun B o => B ++ [o.after.toList.foldl (fun b e => match Region.binds .any e with | true => b ||| (1 <<< e.on) ||| B.getD e.on 0 | false => b) 0]) []
def evReg (X : Cx) (E : FuncId → Option (Spc X.U)) (ops : Array Oper) (dr : Bool) (s : TS X.U) (k : TS X.U → Option R) : Option R :=
  evOps X E dr ops.toList ops.toList s [] fun s' l => match dr with
    | false => k s'
    | true => match okTab ops (tabOf ops.toList) && indepF (tabOf ops.toList) l with
      | true => k s'
      | false => none
/-- What is told of a state of the machine. -/
structure TR (f : Fr) (s : TS X.U) (a : Act) (w : World) : Prop where
  ex : ∃ σ, M s σ ∧ Eng.R f σ a w
  hin : s.hin ≤ s.objs.length
  g0 : ∀ id b, f.g0.β id = some b → id < s.hin
theorem evReg_ok (hX : CxOk P X) (hm : P.follows .mixedOrders = true) (hE : ∀ f S, E f = some S → SpecOk P f S) {ops : Array Oper} {dr : Bool} {id : Nat} {k : TS X.U → Option R} (h : evReg X E ops dr s k = some r) {f : Fr} {a : Act} {w : World} (hok : codeOk f.N (.region id ops dr) = true) (hT : TR f s a w)
    {Q : Exit → Act → World → Prop} (hQ : ∀ s' a' w', k s' = some r → TR f s' a' w' → Q .normal a' w') : (Code.region id ops dr).wp P Q a w := by
  obtain ⟨⟨σ, hM, hR⟩, hin, hg0⟩ := hT
  unfold evReg at h
  obtain ⟨l, s', σ', hc, hM', hk, e1, e2, _⟩ := evOps_ok hX hE (i := 0) h hM
  obtain ⟨k1, k2⟩ := hc.chain rfl
  have hT' : ∀ a' w', Eng.R f σ' a' w' → TR f s' a' w' := fun a' w' hR' => ⟨⟨σ', hM', hR'⟩, by omega, fun id b hb => by rw [e1]; exact hg0 id b hb⟩
  have hl : l.length = ops.size := by rw [k2]; simp
  cases dr with
  | false =>
    have hk : k s' = some r := hk
    exact wp_mono (cwp_region (id := id) (Q := fun e s => e = .normal ∧ s = σ') k1 hl ⟨rfl, rfl⟩ f a w hok hR) fun e a' w' ⟨s1, ⟨h1, h2⟩, hR'⟩ => by
      subst h1 h2
      exact hQ s' a' w' hk (hT' a' w' hR')
  | true =>
    dsimp only at hk
    split at hk <;> try (cases hk; done)
    rename_i hchk
    rw [Bool.and_eq_true] at hchk
    exact wp_mono (cwp_region_draw (id := id) (Q := fun e s => e = .normal ∧ s = σ') (tabOf ops.toList) hm k1 hl hchk.1 (indepF_ok hchk.2) ⟨rfl, rfl⟩ f a w hok hR) fun e a' w' ⟨s1, ⟨h1, h2⟩, hR'⟩ => by
      subst h1 h2
      exact hQ s' a' w' hk (hT' a' w' hR')
end
end Go.Proofs.YtmcflglkfgnbbaaDoor.Eng

/- Rows that are never written again, and states with fewer names. -/
namespace Go.Proofs.YtmcflglkfgnbbaaDoor.Eng
open Go Go.RowKit
set_option linter.unusedVariables false
set_option linter.unusedSimpArgs false
section
variable {U : Univ}
mutual
def TV.fz (id : Nat) (c : U.C) (xs : List (U.T c)) : TV U → TV U
  | .full i => match Nat.beq i id with
    | true => .lst c xs
    | false => .full i
  | .agg l => .agg (fzL id c xs l)
  | .tup l => .tup (fzL id c xs l)
  | .fn f l => .fn f (fzL id c xs l)
  | x => x
def fzL (id : Nat) (c : U.C) (xs : List (U.T c)) : List (TV U) → List (TV U)
  | [] => []
  | x :: l => x.fz id c xs :: fzL id c xs l
end
def TO.fz (id : Nat) (c : U.C) (xs : List (U.T c)) : TO U → TO U
  | .cells l z => .cells (fzL id c xs l) z
  | x => x
def frzOne (s : TS U) (id : Nat) : TS U := match nth s.objs id with
  | some (.row c xs false) => ⟨s.slots.map (TV.fz id c xs), setN (s.objs.map (TO.fz id c xs)) id (.row c xs true), s.hin⟩
  | _ => s
def frzs (s : TS U) : List Nat → TS U
  | [] => s
  | id :: l => frzs (frzOne s id) l
theorem fzL_eq (id : Nat) (c : U.C) (xs : List (U.T c)) : ∀ l : List (TV U), fzL id c xs l = l.map (TV.fz id c xs)
  | [] => rfl
  | x :: l => by rw [fzL, fzL_eq id c xs l]; rfl
mutual
theorem fz_all {id : Nat} {c : U.C} {xs : List (U.T c)} {p : Nat → Bool} : ∀ {x : TV U}, x.all p = true → (x.fz id c xs).all p = true
  | .v _, _ => rfl
  | .ref .., h => h
  | .own .., h => h
  | .full i, h => by
    unfold TV.fz
    split
    · rfl
    · exact h
  | .lst .., _ => rfl
  | .agg l, h => fzL_all (l := l) h
  | .tup l, h => fzL_all (l := l) h
  | .elt .., _ => rfl
  | .mp .., h => h
  | .fn _ l, h => fzL_all (l := l) h
  | .junk, _ => rfl
theorem fzL_all {id : Nat} {c : U.C} {xs : List (U.T c)} {p : Nat → Bool} : ∀ {l : List (TV U)}, allL p l = true → allL p (fzL id c xs l) = true
  | [], _ => rfl
  | x :: l, h => by
    have h : (x.all p && allL p l) = true := h
    rw [Bool.and_eq_true] at h
    show ((x.fz id c xs).all p && allL p (fzL id c xs l)) = true
    rw [fz_all h.1, fzL_all h.2]
    rfl
end
mutual
theorem rep_fz {g : Gh} {H : Array Go.Obj} {id : Nat} {c : U.C} {xs : List (U.T c)} {rl : Nat → Nat} (h0 : ∀ x, Rep g H x (.own id 0 (rl id)) → Rep g H x (.lst (U.sz c) (xs.map (U.encS c)))) : ∀ {tv : TV U} {x : Value}, Rep g H x (tv.itp rl) → Rep g H x ((tv.fz id c xs).itp rl)
  | .v _, _, h => h
  | .ref .., _, h => h
  | .own .., _, h => h
  | .full i, x, h => by
    unfold TV.fz
    split
    · rename_i e
      have := Nat.eq_of_beq_eq_true e
      subst this
      exact h0 x h
    · exact h
  | .lst .., _, h => h
  | .agg l, x, h => by
    have h : Rep g H x (.agg (itpL rl l)) := h
    cases h with
    | agg h => exact .agg (repL_fz h0 h)
  | .tup l, x, h => by
    have h : Rep g H x (.tup (itpL rl l)) := h
    cases h with
    | tup h => exact .tup (repL_fz h0 h)
  | .elt .., _, h => h
  | .mp .., _, h => h
  | .fn f l, x, h => by
    have h : Rep g H x (.fn f (itpL rl l)) := h
    cases h with
    | fn h => exact .fn (repL_fz h0 h)
  | .junk, _, h => h
theorem repL_fz {g : Gh} {H : Array Go.Obj} {id : Nat} {c : U.C} {xs : List (U.T c)} {rl : Nat → Nat} (h0 : ∀ x, Rep g H x (.own id 0 (rl id)) → Rep g H x (.lst (U.sz c) (xs.map (U.encS c)))) : ∀ {l : List (TV U)} {vs : List Value}, RepL g H vs (itpL rl l) → RepL g H vs (itpL rl (fzL id c xs l))
  | [], _, h => h
  | x :: l, _, h => by
    have h : RepL g H _ (x.itp rl :: itpL rl l) := h
    cases h with
    | cons h t => exact .cons (rep_fz h0 h) (repL_fz h0 t)
end
end
section
variable {P : Program} {X : Cx} {E : FuncId → Option (Spc X.U)}
theorem frzOne_ok (hX : CxOk P X) {s : TS X.U} (id : Nat) {f : Fr} {a : Act} {w : World} (hT : TR f s a w) : TR f (frzOne s id) a w := by
  unfold frzOne
  split
  case h_2 => exact hT
  case h_1 c xs hob =>
  obtain ⟨⟨σ, hM, g, hR⟩, hin, hg0⟩ := hT
  have ho := hM.obj_row hob
  have hlt := nth_lt hob
  obtain ⟨g1, hg1, hR1⟩ := hR.freeze id _ ho
  have hrl0 : rlen s.objs id = xs.length := by unfold rlen; rw [hob]; rfl
  have hlen : (setN (s.objs.map (TO.fz id c xs)) id (.row c xs true)).length = s.objs.length := by rw [setN_eq, List.length_set, List.length_map]
  have hnth : ∀ i, nth (setN (s.objs.map (TO.fz id c xs)) id (.row c xs true)) i = if i = id then some (.row c xs true) else (nth s.objs i).map (TO.fz id c xs) := fun i => by
    rw [nth_eq, setN_eq, List.getElem?_set, nth_eq]
    by_cases e : i = id
    · subst e
      rw [if_pos rfl, if_pos rfl, if_pos (by rw [List.length_map]; exact hlt)]
    · rw [if_neg (Ne.symm e), if_neg e, List.getElem?_map]
  have hrl : rlen (setN (s.objs.map (TO.fz id c xs)) id (.row c xs true)) = rlen s.objs := by
    funext i
    unfold rlen
    rw [hnth]
    by_cases e : i = id
    · subst e; rw [if_pos rfl, hob]; rfl
    · rw [if_neg e]
      cases nth s.objs i with
      | none => rfl
      | some o => cases o <;> rfl
  have h0 : ∀ x, Rep g1 w.heap x (.own id 0 (rlen s.objs id)) → Rep g1 w.heap x (.lst (X.U.sz c) (xs.map (X.U.encS c))) := fun x hx => by
    have hs := Sol.own (s := σ.upd id (.ob ⟨X.U.sz c, xs.map (X.U.encS c), true⟩)) (id := id) (lo := 0) (len := rlen s.objs id) (ob := ⟨X.U.sz c, xs.map (X.U.encS c), true⟩) (by show (if id = id then _ else _) = _; rw [if_pos rfl]) rfl (rows := xs.map (X.U.encS c))
      (by rw [hrl0, List.drop_zero, List.take_of_length_le (by rw [List.length_map]; exact Nat.le_refl _)]) (by rw [hrl0, List.length_map]) (closedR_map _ (hX.closed c) xs)
    exact (hs f g1 _ a w x (Agree.refl _ _) hR1 hx).ext (GExt.clo g1) (Ext.refl _ _)
  have hget : ∀ t, getN (s.slots.map (TV.fz id c xs)) t = (getN s.slots t).fz id c xs := fun t => by
    unfold getN
    rw [nth_eq, nth_eq, List.getElem?_map]
    cases s.slots[t]? <;> rfl
  have hjunk : ∀ tv : TV X.U, tv.fz id c xs ≠ .junk → tv ≠ .junk := fun tv h e => by subst e; exact h rfl
  refine ⟨⟨⟨fun t => if (getN s.slots t).isJunk then σ.slot t else ((getN s.slots t).fz id c xs).itp (rlen s.objs), fun i => match nth (setN (s.objs.map (TO.fz id c xs)) id (.row c xs true)) i with | some o => o.itp (rlen s.objs) | none => .never⟩, ?_, g1, ?_⟩, by rw [hlen]; exact hin, hg0⟩
  · refine ⟨fun t ht => ?_, fun i o ho => ?_, fun i hi => ?_, fun t => ?_, fun i o ho => ?_⟩
    · rw [hrl]
      have ht : getN (s.slots.map (TV.fz id c xs)) t ≠ .junk := ht
      rw [hget] at ht
      show (if _ then _ else _) = (getN (s.slots.map (TV.fz id c xs)) t).itp _
      rw [hget, if_neg]
      have := hjunk _ ht
      revert this
      cases getN s.slots t <;> simp [TV.isJunk]
    · rw [hrl]
      show (match nth (setN (s.objs.map (TO.fz id c xs)) id (.row c xs true)) i with | some o => o.itp (rlen s.objs) | none => .never) = _
      rw [ho]
    · have hi : (setN (s.objs.map (TO.fz id c xs)) id (.row c xs true)).length ≤ i := hi
      show (match nth (setN (s.objs.map (TO.fz id c xs)) id (.row c xs true)) i with | some o => o.itp (rlen s.objs) | none => .never) = _
      rw [nth_eq, List.getElem?_eq_none hi]
    · show (getN (s.slots.map (TV.fz id c xs)) t).bel (setN (s.objs.map (TO.fz id c xs)) id (.row c xs true)).length = true
      rw [hget, hlen]
      exact fz_all (hM.sb t)
    · show o.bel (setN (s.objs.map (TO.fz id c xs)) id (.row c xs true)).length = true
      have ho : nth (setN (s.objs.map (TO.fz id c xs)) id (.row c xs true)) i = some o := ho
      rw [hlen]
      rw [hnth] at ho
      by_cases e : i = id
      · rw [if_pos e] at ho; cases ho; rfl
      · rw [if_neg e] at ho
        obtain ⟨p, hp, rfl⟩ := Option.map_eq_some_iff.1 ho
        have := hM.obb i p hp
        cases p with
        | cells l z => exact fzL_all this
        | dead n => rfl
        | row c' ys z => rfl
        | mp c' ys z => rfl
  · refine hR1.recell (fun t => ?_) fun i => ?_
    · show Rep _ _ _ (if _ then _ else _)
      have h1 := hR1.slot t
      split
      · exact h1
      · rename_i hj
        have h2 : σ.slot t = (getN s.slots t).itp (rlen s.objs) := hM.slot t (fun e => hj (by rw [e]; rfl))
        have h1 : Rep g1 w.heap (a.tmps.getD t undef) (σ.slot t) := h1
        rw [h2] at h1
        exact rep_fz h0 h1
    · show (match nth (setN (s.objs.map (TO.fz id c xs)) id (.row c xs true)) i with | some o => o.itp (rlen s.objs) | none => .never) = (if i = id then _ else σ.obj i) ∨ ∃ o o', (if i = id then _ else σ.obj i) = _ ∧ _
      rw [hnth]
      by_cases e : i = id
      · rw [if_pos e]
        left
        rw [if_pos e]
        rfl
      · rw [if_neg e]
        cases hn : nth s.objs i with
        | none =>
          left
          rw [if_neg e]
          have : s.objs.length ≤ i := by rw [nth_eq] at hn; exact List.getElem?_eq_none_iff.1 hn
          exact (hM.fresh i this).symm
        | some p =>
          have hp := hM.ob i p hn
          cases p with
          | dead n => left; rw [if_neg e, hp]; rfl
          | row c' ys z => left; rw [if_neg e, hp]; rfl
          | mp c' ys z => left; rw [if_neg e, hp]; rfl
          | cells l z =>
            right
            refine ⟨⟨l.length, [itpL (rlen s.objs) l], z⟩, ⟨(fzL id c xs l).length, [itpL (rlen s.objs) (fzL id c xs l)], z⟩, by rw [if_neg e, hp]; rfl, by
              show (match nth (setN (s.objs.map (TO.fz id c xs)) id (.row c xs true)) i with | some o => o.itp (rlen s.objs) | none => .never) = _
              rw [hnth, if_neg e, hn]
              rfl, by rw [fzL_eq, List.length_map], rfl, rfl, fun vs hvs => ?_⟩
            cases hvs with
            | cons hm h t => exact .cons hm (repL_fz h0 h) t
theorem frzs_ok (hX : CxOk P X) : ∀ (ids : List Nat) {s : TS X.U} {f : Fr} {a : Act} {w : World}, TR f s a w → TR f (frzs s ids) a w
  | [], _, _, _, _, h => h
  | id :: l, _, _, _, _, h => frzs_ok hX l (frzOne_ok hX id h)
end
/-! ### Fewer names -/
section
variable {U : Univ}
def maskL (mask : Nat) : Nat → List (TV U) → List (TV U)
  | _, [] => []
  | n, x :: l => (match Nat.testBit mask n with | true => x | false => .junk) :: maskL mask (n + 1) l
def flatIds : List (TO U) → List Nat
  | [] => []
  | x :: l => x.ids ++ flatIds l
def eqN : List Nat → List Nat → Bool
  | [], [] => true
  | x :: l, y :: m => Nat.beq x y && eqN l m
  | _, _ => false
def upTo : Nat → Nat → List Nat
  | _, 0 => []
  | k, n + 1 => k :: upTo (k + 1) n
def norm (mask : Nat) (s : TS U) (xs : List (TV U)) : Option (TS U × List (TV U)) :=
  match objsAt s.objs (upTo 0 s.hin) with
  | none => none
  | some ho =>
    let sl := maskL mask 0 s.slots
    let ids := reach s.objs 1000 (flatIds ho ++ idsL sl ++ idsL xs) (upTo 0 s.hin)
    match objsAt s.objs ids with
    | none => none
    | some os => match nodupN ids && allL (fun i => memN i ids) sl && allL (fun i => memN i ids) xs && os.all (fun x => x.all fun i => memN i ids) && eqN (ids.take s.hin) (upTo 0 s.hin) with
      | true => some (⟨tenL (fun i => idxN i ids) sl, os.map (TO.ren fun i => idxN i ids), s.hin⟩, tenL (fun i => idxN i ids) xs)
      | false => none
theorem maskL_get (mask : Nat) : ∀ (l : List (TV U)) (n t : Nat), getN (maskL mask n l) t = .junk ∨ getN (maskL mask n l) t = getN l t
  | [], n, t => .inr rfl
  | x :: l, n, 0 => by
    show (match Nat.testBit mask n with | true => x | false => .junk) = .junk ∨ (match Nat.testBit mask n with | true => x | false => .junk) = x
    cases Nat.testBit mask n
    · exact .inl rfl
    · exact .inr rfl
  | x :: l, n, t + 1 => maskL_get mask l (n + 1) t
theorem eqN_ok : ∀ {l m : List Nat}, eqN l m = true → l = m
  | [], [], _ => rfl
  | x :: l, y :: m, h => by
    have h : (Nat.beq x y && eqN l m) = true := h
    rw [Bool.and_eq_true] at h
    rw [Nat.eq_of_beq_eq_true h.1, eqN_ok h.2]
  | [], _ :: _, h => by cases h
  | _ :: _, [], h => by cases h
theorem upTo_eq : ∀ (k n : Nat), upTo k n = List.range' k n
  | k, 0 => rfl
  | k, n + 1 => by rw [upTo, upTo_eq (k + 1) n]; rfl
theorem getN_ten (ρ : Nat → Nat) (l : List (TV U)) (t : Nat) : getN (tenL ρ l) t = (getN l t).ren ρ := by
  unfold getN
  rw [tenL_eq, nth_eq, nth_eq, List.getElem?_map]
  cases l[t]? <;> rfl
theorem norm_ok (hc : Clsd U) {mask : Nat} {s s1 : TS U} {xs xs1 : List (TV U)} (hn : norm mask s xs = some (s1, xs1)) {σ : St} (hM : M s σ) {f : Fr} {g : Gh} {a : Act} {w : World} (hR : Rel f g σ a w) (hin : s.hin ≤ s.objs.length) (hg0 : ∀ id b, f.g0.β id = some b → id < s.hin) :
    ∃ g1 σ1, Rel f g1 σ1 a w ∧ M s1 σ1 ∧ s1.hin = s.hin ∧ s1.hin ≤ s1.objs.length ∧ allL (fun i => decide (i < s1.objs.length)) xs1 = true ∧ ∀ (i : Nat) (tv : TV U) (v : Value), xs[i]? = some tv → Rep g w.heap v (tv.itp (rlen s.objs)) → ∃ tv1, xs1[i]? = some tv1 ∧ Rep g1 w.heap v (tv1.itp (rlen s1.objs)) := by
  unfold norm at hn
  split at hn <;> try (cases hn; done)
  rename_i ho hho
  dsimp only at hn
  generalize hids : reach s.objs 1000 (flatIds ho ++ idsL (maskL mask 0 s.slots) ++ idsL xs) (upTo 0 s.hin) = ids at hn
  split at hn <;> try (cases hn; done)
  rename_i os hos
  split at hn <;> try (cases hn; done)
  rename_i hchk
  simp only [Bool.and_eq_true] at hchk
  obtain ⟨⟨⟨⟨c1, c2⟩, c3⟩, c4⟩, c5⟩ := hchk
  cases hn
  have hnd := nodupN_ok c1
  obtain ⟨hol, hoget⟩ := objsAt_ok hos
  have hpre : ∀ j, j < s.hin → ids[j]? = some j := fun j hj => by
    have h := congrArg (fun l => l[j]?) (eqN_ok c5)
    rw [upTo_eq, ← List.range_eq_range'] at h
    have h : (ids.take s.hin)[j]? = (List.range s.hin)[j]? := h
    rw [List.getElem?_take, if_pos hj, List.getElem?_range hj] at h
    exact h
  have hidx : ∀ i, memN i ids = true → decide (idxN i ids < ids.length) = true := fun i hi => decide_eq_true (idxN_get (memN_iff.1 hi)).2
  have hback : ∀ i, memN i ids = true → nameH ids (idxN i ids) = i := fun i hi => nameH_get (idxN_get (memN_iff.1 hi)).1
  have hrel : ∀ j x, os[j]? = some x → rlen (os.map (TO.ren fun i => idxN i ids)) j = x.rlen := fun j x hx => by
    unfold rlen
    rw [nth_eq, List.getElem?_map, hx]
    exact TO.ren_rlen _ x
  have hrl2 : ∀ j, j < ids.length → rlen s.objs (nameH ids j) = rlen (os.map (TO.ren fun i => idxN i ids)) j := fun j hj => by
    obtain ⟨x, hx, hx2⟩ := hoget j ids[j] (List.getElem?_eq_getElem hj)
    rw [nameH_get (List.getElem?_eq_getElem hj), hrel _ _ hx]
    unfold rlen
    rw [hx2]
  have hname : ∀ j, j < ids.length → ids[j]? = some (nameH ids j) := fun j hj => by rw [nameH_get (List.getElem?_eq_getElem hj)]; exact List.getElem?_eq_getElem hj
  -- a value under the new names
  have hval : ∀ (tv : TV U) (v : Value), tv.all (fun i => memN i ids) = true → Rep g w.heap v (tv.itp (rlen s.objs)) → Rep (pullG g (nameH ids) ids.length) w.heap v ((tv.ren fun i => idxN i ids).itp (rlen (os.map (TO.ren fun i => idxN i ids)))) := fun tv v hall hv => by
    have hb := ren_all (ρ := fun i => idxN i ids) (q := fun i => decide (i < ids.length)) hidx hall
    refine Rep.pull (pull_pullG g (nameH ids) ids.length) ?_ (itp_lt hc hb)
    rw [itp_ren hc (rl' := rlen s.objs) (p := fun i => decide (i < ids.length)) (fun i hi => hrl2 i (of_decide_eq_true hi)) hb, ren_ren hback hall]
    exact hv
  have hvalL : ∀ (l : List (TV U)) (vs : List Value), allL (fun i => memN i ids) l = true → RepL g w.heap vs (itpL (rlen s.objs) l) → RepL (pullG g (nameH ids) ids.length) w.heap vs (itpL (rlen (os.map (TO.ren fun i => idxN i ids))) (tenL (fun i => idxN i ids) l)) := by
    intro l
    induction l with
    | nil => intro vs _ h; cases h; exact .nil
    | cons x l ih =>
      intro vs hall h
      have hall : (x.all (fun i => memN i ids) && allL (fun i => memN i ids) l) = true := hall
      rw [Bool.and_eq_true] at hall
      have h : RepL g w.heap vs (x.itp _ :: itpL _ l) := h
      cases h with
      | cons h t => exact .cons (hval x _ hall.1 h) (ih _ hall.2 t)
  have hsall : ∀ t, (getN (maskL mask 0 s.slots) t).all (fun i => memN i ids) = true := fun t => by
    unfold getN
    rw [nth_eq]
    cases hq : (maskL mask 0 s.slots)[t]? with
    | none => rfl
    | some x =>
      rw [allL_all] at c2
      exact List.all_eq_true.1 c2 x (List.mem_of_getElem? hq)
  have hobj : ∀ j o, (match nth (os.map (TO.ren fun i => idxN i ids)) j with | some o => o.itp (rlen (os.map (TO.ren fun i => idxN i ids))) | none => OS.never) = .ob o →
      ∃ i x o0, j < ids.length ∧ ids[j]? = some i ∧ nth s.objs i = some x ∧ σ.obj i = .ob o0 ∧ o0.m = o.m ∧ o0.fz = o.fz ∧ o0.rows.length = o.rows.length ∧ ∀ vs, RepR g w.heap vs o0.m o0.rows → RepR (pullG g (nameH ids) ids.length) w.heap vs o.m o.rows := fun j o h => by
    rw [nth_eq, List.getElem?_map] at h
    cases hq : os[j]? with
    | none => rw [hq] at h; cases h
    | some x =>
      rw [hq] at h
      have hj : j < ids.length := by rw [← hol]; exact (List.getElem?_eq_some_iff.1 hq).1
      obtain ⟨x', hx', hx2⟩ := hoget j ids[j] (List.getElem?_eq_getElem hj)
      rw [hq] at hx'
      obtain rfl := Option.some.inj hx'
      have hob := hM.ob _ _ hx2
      have hmem := List.all_eq_true.1 c4 x (List.mem_of_getElem? hq)
      have h : (x.ren fun i => idxN i ids).itp (rlen (os.map (TO.ren fun i => idxN i ids))) = .ob o := h
      cases x with
      | dead n => cases h
      | cells l z =>
        have h := OS.ob.inj h
        subst h
        refine ⟨_, _, _, hj, List.getElem?_eq_getElem hj, hx2, hob, ?_, rfl, rfl, fun vs hvs => ?_⟩
        · show l.length = (tenL _ l).length
          rw [tenL_eq, List.length_map]
        · cases hvs with
          | cons hm h t =>
            have hl : (tenL (fun i => idxN i ids) l).length = l.length := by rw [tenL_eq, List.length_map]
            show RepR _ _ _ (tenL (fun i => idxN i ids) l).length [_]
            rw [hl]
            cases t
            exact .cons hm (hvalL l _ hmem h) .nil
      | row c ys z =>
        have h := OS.ob.inj h
        subst h
        refine ⟨_, _, _, hj, List.getElem?_eq_getElem hj, hx2, hob, rfl, rfl, rfl, fun vs hvs => ?_⟩
        have hcl := hc.rows c ys
        exact RepR.pull (pull_pullG g (nameH ids) ids.length) (by rw [closedR_ren _ hcl]; exact hvs) (closedR_lt _ hcl)
      | mp c ys z =>
        have h := OS.ob.inj h
        subst h
        refine ⟨_, _, _, hj, List.getElem?_eq_getElem hj, hx2, hob, rfl, rfl, rfl, fun vs hvs => ?_⟩
        have hcl := hc.rows c ys
        exact RepR.pull (pull_pullG g (nameH ids) ids.length) (by rw [closedR_ren _ hcl]; exact hvs) (closedR_lt _ hcl)
  have hβ : ∀ j, j < ids.length → (pullG g (nameH ids) ids.length).β j = g.β (nameH ids j) := fun j hj => by show (if j < ids.length then _ else _) = _; rw [if_pos hj]
  refine ⟨pullG g (nameH ids) ids.length, ⟨fun t => if (getN (maskL mask 0 s.slots) t).isJunk then .v (a.tmps.getD t undef) else ((getN (maskL mask 0 s.slots) t).ren fun i => idxN i ids).itp (rlen (os.map (TO.ren fun i => idxN i ids))),
    fun j => match nth (os.map (TO.ren fun i => idxN i ids)) j with | some o => o.itp (rlen (os.map (TO.ren fun i => idxN i ids))) | none => .never⟩, ?_, ?_, rfl, ?_, ?_, ?_⟩
  · refine { slot := fun t => ?_, size := hR.size, defers := hR.defers, never := fun j hj => ?_, ob := fun j o hj => ?_, inj := fun i j o o' b h1 h2 z1 z2 k1 k2 => ?_, own := fun j o b hj z k => ?_, base := hR.base, hsize := hR.hsize, F0 := hR.F0, Fold := hR.Fold, Flt := hR.Flt, os := hR.os, tape := hR.tape, output := hR.output, gext := fun id b hb => ?_, kept := hR.kept, tb := hR.tb }
    · show Rep _ _ _ (if _ then _ else _)
      split
      · exact .v _
      · rename_i hj
        rcases maskL_get mask s.slots 0 t with e | e
        · exact absurd (by rw [e]; rfl) hj
        · refine hval _ _ (hsall t) ?_
          rw [e]
          rw [e] at hj
          rw [← hM.slot t (fun e => hj (by rw [e]; rfl))]
          exact hR.slot t
    · show (if j < ids.length then _ else none) = none
      rw [if_neg]
      intro hlt
      have hj : (match nth (os.map (TO.ren fun i => idxN i ids)) j with | some o => o.itp (rlen (os.map (TO.ren fun i => idxN i ids))) | none => OS.never) = .never := hj
      rw [nth_eq, List.getElem?_map, List.getElem?_eq_getElem (by omega)] at hj
      have hj : ((os[j]'(by omega)).ren fun i => idxN i ids).itp _ = .never := hj
      cases hq : os[j]'(by omega) <;> rw [hq] at hj <;> cases hj
    · obtain ⟨i, x, o0, hlt, hi, hx, hσ, e1, e2, e4, e3⟩ := hobj j o hj
      obtain ⟨⟨b, cs, T, fr, k1, k2, k3, k4, k5, k6⟩, k7⟩ := hR.ob i o0 hσ
      have hnm : nameH ids j = i := nameH_get hi
      refine ⟨⟨b, cs, T, fr, by rw [hβ j hlt, hnm]; exact k1, ?_, ?_, k4, by rw [← e2]; exact k5, by rw [← e2]; exact k6⟩, trivial⟩
      · show InH _ _ (g.mm (nameH ids j)) (g.o0 (nameH ids j)) _ _ _ _ _
        rw [hnm, ← e1, ← e4]
        exact k2
      · show RepR _ _ (cs.toList.drop (g.o0 (nameH ids j))) _ _
        rw [hnm]
        exact e3 _ k3
    · obtain ⟨i1, x1, o1, hlt1, hi1, hx1, hσ1, e11, e12, _⟩ := hobj i o h1
      obtain ⟨i2, x2, o2, hlt2, hi2, hx2, hσ2, e21, e22, _⟩ := hobj j o' h2
      rw [hβ i hlt1, nameH_get hi1] at k1
      rw [hβ j hlt2, nameH_get hi2] at k2
      have := hR.inj i1 i2 o1 o2 b hσ1 hσ2 (by rw [e12]; exact z1) (by rw [e22]; exact z2) k1 k2
      subst this
      have q1 := idx_get hnd hi1
      have q2 := idx_get hnd hi2
      rw [q1] at q2
      exact Option.some.inj q2
    · obtain ⟨i, x, o0, hlt, hi, hx, hσ, e1, e2, e4, e3⟩ := hobj j o hj
      rw [hβ j hlt, nameH_get hi] at k
      exact hR.own i o0 b hσ (by rw [e2]; exact z) k
    · obtain ⟨q1, q2, q3⟩ := hR.gext id b hb
      have hlt := hg0 id b hb
      have hi := hpre id hlt
      have hnm : nameH ids id = id := nameH_get hi
      refine ⟨by rw [hβ id (List.getElem?_eq_some_iff.1 hi).1, hnm]; exact q1, ?_, ?_⟩
      · show g.mm (nameH ids id) = _
        rw [hnm, q2]
      · show g.o0 (nameH ids id) = _
        rw [hnm, q3]
  · have hlen : (os.map (TO.ren fun i => idxN i ids)).length = ids.length := by rw [List.length_map, hol]
    refine ⟨fun t ht => ?_, fun i o ho => ?_, fun i hi => ?_, fun t => ?_, fun i o ho => ?_⟩
    · have ht : getN (tenL (fun i => idxN i ids) (maskL mask 0 s.slots)) t ≠ .junk := ht
      rw [getN_ten] at ht
      show (if _ then _ else _) = (getN (tenL (fun i => idxN i ids) (maskL mask 0 s.slots)) t).itp _
      rw [getN_ten, if_neg]
      intro hj
      apply ht
      revert hj
      cases getN (maskL mask 0 s.slots) t <;> simp [TV.isJunk, TV.ren]
    · show (match nth (os.map (TO.ren fun i => idxN i ids)) i with | some o => o.itp (rlen (os.map (TO.ren fun i => idxN i ids))) | none => OS.never) = _
      have ho : nth (os.map (TO.ren fun i => idxN i ids)) i = some o := ho
      rw [ho]
    · have hi : (os.map (TO.ren fun i => idxN i ids)).length ≤ i := hi
      show (match nth (os.map (TO.ren fun i => idxN i ids)) i with | some o => o.itp (rlen (os.map (TO.ren fun i => idxN i ids))) | none => OS.never) = _
      rw [nth_eq, List.getElem?_eq_none hi]
    · show (getN (tenL (fun i => idxN i ids) (maskL mask 0 s.slots)) t).bel (os.map (TO.ren fun i => idxN i ids)).length = true
      rw [getN_ten, hlen]
      exact ren_all hidx (hsall t)
    · have ho : nth (os.map (TO.ren fun i => idxN i ids)) i = some o := ho
      show o.bel (os.map (TO.ren fun i => idxN i ids)).length = true
      rw [hlen]
      rw [nth_eq, List.getElem?_map] at ho
      obtain ⟨x, hx, rfl⟩ := Option.map_eq_some_iff.1 ho
      rw [TO.bel_all]
      exact TO.ren_all hidx (List.all_eq_true.1 c4 x (List.mem_of_getElem? hx))
  · show s.hin ≤ (os.map (TO.ren fun i => idxN i ids)).length
    rw [List.length_map, hol]
    rcases Nat.eq_zero_or_pos s.hin with h0 | h0
    · omega
    · have := (List.getElem?_eq_some_iff.1 (hpre (s.hin - 1) (by omega))).1
      omega
  · rw [List.length_map, hol]
    exact tenL_all hidx c3
  · intro i tv v hi hv
    rw [tenL_eq]
    refine ⟨tv.ren fun i => idxN i ids, by rw [List.getElem?_map, hi]; rfl, hval tv v ?_ hv⟩
    rw [allL_all] at c3
    exact List.all_eq_true.1 c3 tv (List.mem_of_getElem? hi)
end
end Go.Proofs.YtmcflglkfgnbbaaDoor.Eng


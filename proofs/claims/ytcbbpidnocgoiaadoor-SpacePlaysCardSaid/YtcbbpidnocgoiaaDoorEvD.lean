/- Rows that are made, cut, appended to. -/
import Derived.Test.YtcbbpidnocgoiaaDoorEvC
namespace Go.Proofs.YtcbbpidnocgoiaaDoor.Eng
open Go Go.RowKit
set_option linter.unusedVariables false
set_option linter.unusedSimpArgs false
theorem fill_all (size : Nat) : ∀ (vs : List Value) (k : Nat) (cells : Array Value), (∀ v ∈ vs, v.cells.size = size) → k * size + vs.length * size ≤ cells.size →
    ∃ out, Instr.fill (fun i => some (i * size, size)) cells ((List.range' k vs.length).zip vs) = some out ∧ out.toList = cells.toList.take (k * size) ++ (vs.map (·.cells.toList)).flatten ++ cells.toList.drop (k * size + vs.length * size)
  | [], k, cells, _, _ => ⟨cells, rfl, by simp⟩
  | v :: vs, k, cells, hv, hle => by
    rw [List.length_cons, List.range'_succ, List.zip_cons_cons]
    have h1 := hv v List.mem_cons_self
    rw [List.length_cons, Nat.succ_mul] at hle
    unfold Instr.fill
    dsimp only
    rw [if_neg (by simp [h1]; omega)]
    have hf : (v.cells.zipIdx.foldl (fun cs (c, j) => cs.setIfInBounds (k * size + j) c) cells).toList = cells.toList.take (k * size) ++ v.cells.toList ++ cells.toList.drop (k * size + size) := by
      rw [← Array.foldl_toList]
      have := foldl_owr v.cells.toList 0 (k * size) cells
      simp only [Array.toList_zipIdx] at this ⊢
      rw [this, Nat.add_zero, owr_eq _ _ _ (by rw [Array.length_toList, h1, Array.length_toList]; omega), Array.length_toList, h1]
    generalize (v.cells.zipIdx.foldl (fun cs (c, j) => cs.setIfInBounds (k * size + j) c) cells) = c1 at hf
    have hsz : c1.size = cells.size := by
      have := congrArg List.length hf
      simp only [Array.length_toList, List.length_append, List.length_take, List.length_drop, h1] at this
      omega
    obtain ⟨out, e1, e2⟩ := fill_all size vs (k + 1) c1 (fun v hm => hv v (List.mem_cons_of_mem _ hm)) (by rw [Nat.succ_mul, hsz]; omega)
    refine ⟨out, e1, ?_⟩
    rw [e2, hf, Nat.succ_mul, List.map_cons, List.flatten_cons]
    have hl1 : (cells.toList.take (k * size) ++ v.cells.toList).length = k * size + size := by
      rw [List.length_append, List.length_take, Array.length_toList, Array.length_toList, h1]
      omega
    rw [List.take_left' hl1, ← List.drop_drop (i := vs.length * size) (j := k * size + size), List.drop_left' hl1, List.drop_drop]
    have e3 : k * size + size + vs.length * size = k * size + (vs.length + 1) * size := by rw [Nat.succ_mul]; omega
    rw [e3]
    simp only [List.append_assoc]
theorem repR_flat {g : Gh} {H : Array Go.Obj} {m : Nat} : ∀ (vs : List Value) (css : List (List SV)), (∀ (i : Nat) (v : Value) (cs : List SV), vs[i]? = some v → css[i]? = some cs → RepL g H v.cells.toList cs) → vs.length = css.length → (∀ cs ∈ css, cs.length = m) → RepR g H (vs.map (·.cells.toList)).flatten m css
  | [], [], _, _, _ => .nil
  | v :: vs, cs :: css, h, hl, hm => by
    have h0 := h 0 v cs rfl rfl
    rw [List.map_cons, List.flatten_cons]
    exact .cons (by rw [h0.length]; exact hm cs List.mem_cons_self) h0 (repR_flat vs css (fun i v cs h1 h2 => h (i + 1) v cs (by simpa using h1) (by simpa using h2)) (by simpa using hl) fun cs hc => hm cs (List.mem_cons_of_mem _ hc))
  | [], _ :: _, _, h, _ => by cases h
  | _ :: _, [], _, h, _ => by cases h
theorem run_buildSlice0 {P : Program} (w : World) (t e : TypeId) (u : TypeInfo) (hu : P.underlying t = some (.slice e)) (hi : P.info? e = some u) : (Instr.buildSlice t 0 #[]).run P w = .ok (.slice (some ⟨w.heap.size, 0, none⟩) 0 0) (w.alloc (.cells #[] e)) := by
  simp [Instr.buildSlice, run_underlying hu, sizeOf, typeInfo, hi, newRow, Instr.fill]
  rw [show (Array.range 0 : Array Nat) = #[] from by simp, Array.map_empty]
section
variable {P : Program} {tt : Nat → Option TI} {o : Oper} {s : St}
theorem w_sliceN (ht : Tab P tt) {T e : TypeId} {n : Nat} {parts : Array (Nat × Operand)} (ho : o.op = .buildSlice T n parts) {t : TI} (h1 : tt T = some t) (h2 : t.elem = some e) {u : TI} (h3 : tt e = some u) (id : Nat) (hm0 : 0 < u.size) (hsm : n * u.size ≤ 16777216) (hid : s.obj id = .never)
    (hp : parts.toList.map (·.1) = List.range n) {css : List (List SV)} (hc : parts.toList.map (fun p => (s.ev p.2).cells) = css) (hl : ∀ cs ∈ css, cs.length = u.size) :
    Step P o (locs (parts.toList.map (·.2)) ++ [.obj id]) ⟨o.dst, .own id 0 n, [(id, .ob ⟨u.size, css, false⟩)]⟩ s := by
  intro f σ a w K Q hA hd ⟨g, hR⟩ hK
  have hid' : σ.obj id = .never := by rw [agree_obj hA]; exact hid
  have hrep := repL_ev hR (parts.toList.map (·.2))
  rw [map_ev_agree hA.left] at hrep
  have hsl := (ht T t h1).sl h2
  obtain ⟨d, i, z, g1, g2, g3, g4, g5, g6, g7, g8, _⟩ := ht e u h3
  have hpl : parts.toList.length = n := by have := congrArg List.length hp; simpa using this
  have hcl : css.length = n := by rw [← hc, List.length_map, hpl]
  -- the values
  have hcells : ∀ (k : Nat) (v : Value) (cs : List SV), ((parts.toList.map (·.2)).map a.eval)[k]? = some v → css[k]? = some cs → RepL g w.heap v.cells.toList cs := fun k v cs hv hcs => by
    rw [← hc, List.getElem?_map] at hcs
    cases hk : parts.toList[k]? with
    | none => rw [hk] at hcs; cases hcs
    | some p =>
      rw [hk] at hcs
      obtain ⟨x, hx, hr⟩ := hrep.get k (s.ev p.2) (by rw [List.getElem?_map, List.getElem?_map, hk]; rfl)
      rw [hv] at hx
      obtain rfl := Option.some.inj hx
      obtain rfl := Option.some.inj hcs
      exact hr.cells
  have hszs : ∀ v ∈ (parts.toList.map (·.2)).map a.eval, v.cells.size = u.size := fun v hv => by
    obtain ⟨k, hk⟩ := List.mem_iff_getElem?.1 hv
    have hlt : k < css.length := by have := (List.getElem?_eq_some_iff.1 hk).1; simp only [List.length_map] at this; omega
    have := hcells k v _ hk (List.getElem?_eq_getElem hlt)
    rw [← Array.length_toList, this.length]
    exact hl _ (List.getElem_mem hlt)
  have hvl : ((parts.toList.map (·.2)).map a.eval).length = n := by simp [hpl]
  have hrun : ∃ cells : Array Value, (execOp a.eval o).run P w = .ok (.value (.slice (some ⟨w.heap.size, 0, none⟩) n n)) (w.alloc (.cells cells e)) ∧ cells.toList = (((parts.toList.map (·.2)).map a.eval).map (·.cells.toList)).flatten := by
    rcases Nat.eq_zero_or_pos n with h0 | hpos
    · subst h0
      have hpe : parts = #[] := by apply Array.ext'; simpa using List.eq_nil_of_length_eq_zero hpl
      subst hpe
      refine ⟨#[], ?_, by simp⟩
      have := run_buildSlice0 (P := P) w T e i hsl g2
      simp only [execOp, ho]
      rw [Sem.run_bind]
      simp only [List.map_toArray, List.map_nil]
      rw [this]
      rfl
    · obtain ⟨out, e1, e2⟩ := fill_all u.size ((parts.toList.map (·.2)).map a.eval) 0 ((Array.range (n * i.size)).map (z.cells[· % z.cells.size]!)) hszs (by rw [hvl, g5]; simp)
      have hz : (List.range' 0 ((parts.toList.map (·.2)).map a.eval).length).zip ((parts.toList.map (·.2)).map a.eval) = (parts.map fun (i, x) => (i, a.eval x)).toList := by
        rw [hvl, ← List.range_eq_range', ← hp, List.map_map, List.zip_map', Array.toList_map]
        rfl
      rw [hz, ← g5] at e1
      have hn : ¬ n * i.size = 0 := by rw [g5]; have := Nat.mul_pos hpos hm0; omega
      have := run_buildSlice (P := P) w T e n (parts.map fun (i, x) => (i, a.eval x)) out i z hsl g2 g3 (by rw [g5]; omega) hn e1
      refine ⟨out, ?_, ?_⟩
      · simp only [execOp, ho]
        rw [Sem.run_bind, this]
        rfl
      · rw [e2, hvl, Nat.zero_mul, List.take_zero, List.nil_append, Nat.zero_add, List.drop_of_length_le (by simp [g5]), List.append_nil]
  obtain ⟨cells, hrun, hcs⟩ := hrun
  have hrr := repR_flat (g := g) (H := w.heap) (m := u.size) _ css hcells (by rw [hvl, hcl]) hl
  rw [← hcs] at hrr
  unfold Oper.wp
  rw [hrun, Oper.upon_value]
  refine hK _ _ (new_step hd hR id hid' _ e u.size css hrr _ _ fun g' k1 k2 k3 => ?_)
  have hsz : (w.alloc (.cells cells e)).heap[w.heap.size]? = some (Go.Obj.cells cells e (0, 0)) := by
    show (w.heap.push _)[w.heap.size]? = _
    rw [Array.getElem?_push, if_pos rfl]
  have hlen := hrr.len
  rw [hcl, Array.length_toList] at hlen
  have := Rep.own (g := g') (H := (w.alloc (.cells cells e)).heap) (id := id) (lo := 0) (len := n) (cap := n) (fr := (0, 0)) k1 (Nat.le_refl _) hsz (by rw [k2, k3, Nat.zero_add, Nat.zero_add]; exact hlen)
  rw [k3] at this
  simpa using this
/-- A part of a row of our own, that is its own row from then on. -/
theorem w_cut_adopt (ht : Tab P tt) {T e : TypeId} {x : Operand} {lo hi : Option Operand} (ho : o.op = .slice T x lo hi none) {t : TI} (h1 : tt T = some t) (h2 : t.elem = some e) {u : TI} (h3 : tt e = some u) {id lo0 len : Nat} {ob : Ob} (hx : s.ev x = .own id lo0 len) (hob : s.obj id = .ob ob) (hfz : ob.fz = false) (hm : ob.m = u.size)
    (l h : Nat) (hl : bndO s lo 0 l) (hh : bndO s hi len h) (h4 : l ≤ h) (h5 : h ≤ len) (id' : Nat) (hid : s.obj id' = .never) {rows : List (List SV)} (hr : (ob.rows.drop (lo0 + l)).take (h - l) = rows) (hrl : rows.length = h - l) :
    Step P o (locO x ++ locB lo ++ locB hi ++ [.obj id] ++ [.obj id']) ⟨o.dst, .own id' 0 (h - l), [(id, .dead), (id', .ob ⟨ob.m, rows, false⟩)]⟩ s := by
  intro f σ a w K Q hA hd ⟨g, hR⟩ hK
  have hob' : σ.obj id = .ob ob := by rw [agree_obj hA.left]; exact hob
  have hid' : σ.obj id' = .never := by rw [agree_obj hA]; exact hid
  have hne : id' ≠ id := by rintro rfl; rw [hob'] at hid'; cases hid'
  have e1 := hR.ev x
  rw [ev_agree hA.left.left.left.left, hx] at e1
  have hsl := (ht T t h1).sl h2
  obtain ⟨ie, hie, hsz⟩ := Option.map_eq_some_iff.1 (ht e u h3).sz
  obtain ⟨⟨b', cs, T', fr, k1, k2, k3, k4, k5, k6⟩, k7⟩ := hR.ob id ob hob'
  have hk : (σ.upd id .dead).obj id' = .never := by show (if id' = id then _ else _) = _; rw [if_neg hne]; exact hid'
  generalize hX : a.eval x = X at e1
  cases e1 with
  | @own _ _ _ cap b cs1 T1 fr1 hb hlc hH hcap =>
    rw [k1] at hb
    obtain rfl := Option.some.inj hb
    rw [k2] at hH
    obtain ⟨rfl, rfl, rfl⟩ := Go.Obj.cells.inj (Option.some.inj hH)
    have hbd := run_bounds (P := P) (isS := true) (hh.val hA.left.left.right hR) (hl.val hA.left.left.left.right hR) h4 (Nat.le_trans h5 hlc) w
    have hRk := hR.kill id
    obtain ⟨off, hoff⟩ : ∃ off, off = if cap = l then g.o0 id + lo0 * g.mm id else g.o0 id + (lo0 + l) * g.mm id := ⟨_, rfl⟩
    have hrun : (execOp a.eval o).run P w = .ok (.value (.slice (some ⟨b', off, none⟩) (h - l) (cap - l))) w := by
      simp only [execOp, ho, hX]
      have hadd : g.o0 id + lo0 * g.mm id + l * ie.size = g.o0 id + (lo0 + l) * g.mm id := by rw [hsz, ← hm, ← k7, Nat.add_mul]; omega
      by_cases hc : cap = l
      · subst hc
        simp [Instr.sliceAt, Instr.slice, run_underlying hsl, hbd, sizeOf, typeInfo, hie, hoff]
      · simp [Instr.sliceAt, Instr.slice, run_underlying hsl, hbd, sizeOf, typeInfo, hie, hc, hoff, addr_add, hadd]
    have hrows : RepR g w.heap (cs.toList.drop off) ob.m rows := by
      rcases Nat.eq_zero_or_pos (h - l) with h0 | hp
      · have : rows = [] := List.eq_nil_of_length_eq_zero (by omega)
        rw [this]
        exact .nil
      · have hnc : ¬ cap = l := by omega
        have hlen := congrArg List.length hr
        rw [List.length_take, List.length_drop, hrl] at hlen
        have hd := (k3.drop (lo0 + l) (by omega)).take (h - l)
        rw [hr, List.drop_drop] at hd
        rw [hoff, if_neg hnc, k7]
        exact hd
    obtain ⟨g', hg, e1, e2, e3, e4, hRa⟩ := hRk.adopt id' hk k2 rows hrows k4 (k6 hfz) (hR.own id ob b' hob' hfz k1) (fun i1 o1 h1 hz1 hb1 => by
      have h1' : (if i1 = id then OS.dead else σ.obj i1) = .ob o1 := h1
      by_cases e : i1 = id
      · rw [if_pos e] at h1'; cases h1'
      · rw [if_neg e] at h1'
        exact e (hR.inj i1 id o1 ob b' h1' hob' hz1 hfz hb1 k1))
    unfold Oper.wp
    rw [hrun, Oper.upon_value]
    refine hK _ _ ⟨g', Rel.put hRa o.dst hd ?_⟩
    have hbnd : g'.o0 id' + (0 + (cap - l)) * g'.mm id' ≤ cs.size := by
      rw [e2, e3, hoff, ← k7]
      have hmul : (lo0 + cap) * g.mm id = lo0 * g.mm id + cap * g.mm id := Nat.add_mul ..
      by_cases hc : cap = l
      · rw [if_pos hc, hc]
        simp
        omega
      · rw [if_neg hc, Nat.add_mul, Nat.zero_add]
        have : (cap - l) * g.mm id + l * g.mm id = cap * g.mm id := by rw [← Nat.add_mul]; congr 1; omega
        omega
    have := Rep.own (g := g') (lo := 0) (len := h - l) (cap := cap - l) e1 (by omega) k2 hbnd
    rw [e2] at this
    simpa using this
end
section
variable {P : Program} {X : Cx} {s : TS X.U} {o : Oper} {σ : St} {R : Type} {r : R} {k : List Loc → TEff X.U → Option R}
def evMake (X : Cx) (s : TS X.U) (T : TypeId) (x y : Operand) (k : List Loc → TEff X.U → Option R) : Option R :=
  match X.tt T with
  | none => none
  | some t => match t.elem with
    | none => none
    | some e => match X.tt e, X.elc e with
      | some u, some c => match u.zero.all SV.isV with
        | false => none
        | true => if X.U.sz c = u.size then match X.dec c (tz u) with
          | none => none
          | some z => match evO s x, evO s y with
            | .v (.int i n), .v (.int j m) => if i = j then (if 0 ≤ n ∧ m = n ∧ n ≤ 9223372036854775807 ∧ (u.bytes : Int) * n ≤ 281474976710656 then
                k (locO x ++ locO y ++ [.obj s.objs.length]) ⟨.full s.objs.length, [(s.objs.length, .row c (List.replicate n.toNat z) false)]⟩ else none) else none
            | _, _ => none
          else none
      | _, _ => none
theorem evMake_ok (hX : CxOk P X) {T : TypeId} {x y : Operand} (h : evMake X s T x y k = some r) (hM : M s σ) (ho : o.op = .makeSlice T x y) : ∃ L e, k L e = some r ∧ Fit P s o σ L e := by
  unfold evMake at h
  split at h <;> try (cases h; done)
  rename_i t ht
  split at h <;> try (cases h; done)
  rename_i e he
  split at h <;> try (cases h; done)
  rename_i u c hu hc
  split at h <;> try (cases h; done)
  rename_i hz
  split at h <;> try (cases h; done)
  rename_i hsz
  split at h <;> try (cases h; done)
  rename_i z hdec
  split at h <;> try (cases h; done)
  rename_i i n j m hx hy
  split at h <;> try (cases h; done)
  rename_i hij
  subst hij
  split at h <;> try (cases h; done)
  rename_i hn
  obtain ⟨h0, rfl, h63, hb⟩ := hn
  refine ⟨_, _, h, .new (fun rl _ hrl => ?_) (by show decide _ = true; simp) rfl⟩
  have hp := hX.pos c
  have := w_makeSlice (P := P) hX.tab ho ht he hu s.objs.length (hM.ev hx (by simp)) (hM.ev hy (by simp)) h0 hb h63 (by omega) hM.new rfl
  have hd := hX.dec c _ _ (rlen s.objs) hdec
  rw [tz_ok hz] at hd
  show Step P o _ ⟨_, .own s.objs.length 0 (rl s.objs.length), [(_, .ob ⟨X.U.sz c, (List.replicate m.toNat z).map (X.U.encS c), false⟩)]⟩ σ
  rw [hrl, List.map_replicate]
  show Step P o _ ⟨_, .own s.objs.length 0 (List.replicate m.toNat z).length, _⟩ σ
  rw [List.length_replicate]
  refine step_weak this (fun _ _ _ h => h) (.cons ⟨hsz, rfl, fun g H vs hvs => ?_⟩ .nil)
  refine repR_weak (by rw [List.length_replicate, List.length_replicate]) (fun k r r' h1 h2 ws hws => ?_) hvs
  rw [List.getElem?_replicate] at h1 h2
  split at h1 <;> try (cases h1; done)
  rename_i hlt
  rw [if_pos hlt] at h2
  cases h1
  cases h2
  exact hd _ _ _ hws
def decParts (X : Cx) (s : TS X.U) (c : X.U.C) : List (Nat × Operand) → Option (List (X.U.T c))
  | [] => some []
  | (_, x) :: l => match tcells (evO s x) with
    | none => none
    | some cs => match X.dec c cs with
      | none => none
      | some z => match decParts X s c l with
        | none => none
        | some r => some (z :: r)
theorem decParts_ok (hX : CxOk P X) (hM : M s σ) {c : X.U.C} : ∀ {l : List (Nat × Operand)} {zs : List (X.U.T c)}, decParts X s c l = some zs →
    zs.length = l.length ∧ ∀ (k : Nat) (r : List SV) (z : X.U.T c), (l.map fun p => (σ.ev p.2).cells)[k]? = some r → zs[k]? = some z → r.length = r.length ∧ ∀ g H vs, RepL g H vs r → RepL g H vs (X.U.encS c z)
  | [], zs, h => by cases h; exact ⟨rfl, fun k r z h => by simp at h⟩
  | (i, x) :: l, zs, h => by
    unfold decParts at h
    split at h <;> try (cases h; done)
    rename_i cs hcs
    split at h <;> try (cases h; done)
    rename_i z hz
    split at h <;> try (cases h; done)
    rename_i r' hr
    cases h
    obtain ⟨h2, h1⟩ := decParts_ok hX hM hr
    refine ⟨by rw [List.length_cons, List.length_cons, h2], fun k r z' hk hz' => ?_⟩
    cases k with
    | zero =>
      simp only [List.map_cons, List.getElem?_cons_zero, Option.some.injEq] at hk hz'
      subst hk hz'
      refine ⟨rfl, fun g H vs hvs => hX.dec c _ _ (rlen s.objs) hz g H vs ?_⟩
      rw [← (hM.evc hcs (rlen s.objs) fun _ _ => rfl).1]
      exact hvs
    | succ k => exact h1 k r z' (by simpa using hk) (by simpa using hz')
/-- How many cells each of some has. -/
def lensOk (X : Cx) (s : TS X.U) (n : Nat) : List (Nat × Operand) → Bool
  | [] => true
  | (_, x) :: l => match tcells (evO s x) with
    | some cs => Nat.beq cs.length n && lensOk X s n l
    | none => false
theorem lensOk_ok (hM : M s σ) {n : Nat} : ∀ {l : List (Nat × Operand)}, lensOk X s n l = true → ∀ cs ∈ l.map (fun p => (σ.ev p.2).cells), cs.length = n
  | [], _, cs, h => by cases h
  | (i, x) :: l, h, cs, hm => by
    unfold lensOk at h
    split at h <;> try (cases h; done)
    rename_i ds hds
    rw [Bool.and_eq_true] at h
    rw [List.map_cons] at hm
    rcases List.mem_cons.1 hm with rfl | hm
    · show (σ.ev x).cells.length = n
      rw [(hM.evc hds (rlen s.objs) fun _ _ => rfl).1, itpL_len]
      exact Nat.eq_of_beq_eq_true h.1
    · exact lensOk_ok hM h.2 cs hm
def evSliceLit (X : Cx) (s : TS X.U) (T : TypeId) (n : Nat) (parts : List (Nat × Operand)) (k : List Loc → TEff X.U → Option R) : Option R :=
  match X.tt T with
  | none => none
  | some t => match t.elem with
    | none => none
    | some e => match X.tt e, X.elc e with
      | some u, some c => if X.U.sz c = u.size ∧ n * u.size ≤ 16777216 then match parts.map (·.1) == List.range n && lensOk X s u.size parts with
        | false => none
        | true => match decParts X s c parts with
          | none => none
          | some zs => k (locs (parts.map (·.2)) ++ [.obj s.objs.length]) ⟨.full s.objs.length, [(s.objs.length, .row c zs false)]⟩
        else none
      | _, _ => none
theorem evSliceLit_ok (hX : CxOk P X) {T : TypeId} {n : Nat} {parts : Array (Nat × Operand)} (h : evSliceLit X s T n parts.toList k = some r) (hM : M s σ) (ho : o.op = .buildSlice T n parts) : ∃ L e, k L e = some r ∧ Fit P s o σ L e := by
  unfold evSliceLit at h
  split at h <;> try (cases h; done)
  rename_i t ht
  split at h <;> try (cases h; done)
  rename_i e he
  split at h <;> try (cases h; done)
  rename_i u c hu hc
  split at h <;> try (cases h; done)
  rename_i hsz
  split at h <;> try (cases h; done)
  rename_i hp
  split at h <;> try (cases h; done)
  rename_i zs hzs
  obtain ⟨h2, h1⟩ := decParts_ok hX hM hzs
  rw [Bool.and_eq_true] at hp
  have hp' : parts.toList.map (·.1) = List.range n := by simpa using hp.1
  have hn : zs.length = n := by rw [h2]; have := congrArg List.length hp'; simpa using this
  refine ⟨_, _, h, .new (fun rl _ hrl => ?_) (by show decide _ = true; simp) rfl⟩
  have hps := hX.pos c
  have := w_sliceN (P := P) hX.tab ho ht he hu s.objs.length (by omega) hsz.2 hM.new hp' rfl (lensOk_ok hM hp.2)
  show Step P o _ ⟨_, .own s.objs.length 0 (rl s.objs.length), [(_, .ob ⟨X.U.sz c, zs.map (X.U.encS c), false⟩)]⟩ σ
  rw [hrl]
  show Step P o _ ⟨_, .own s.objs.length 0 zs.length, _⟩ σ
  rw [hn]
  refine step_weak this (fun _ _ _ h => h) (.cons ⟨hsz.1, rfl, fun g H vs hvs => ?_⟩ .nil)
  refine repR_weak (by rw [List.length_map, List.length_map, h2]) (fun k r r' e1 e2 ws hws => ?_) hvs
  rw [List.getElem?_map] at e2
  obtain ⟨z, hz, rfl⟩ := Option.map_eq_some_iff.1 e2
  exact (h1 k r z e1 hz).2 _ _ _ hws
/-! ### Cuts -/
def evB (X : Cx) (s : TS X.U) : Option Operand → Option (Option Int)
  | none => some none
  | some x => match evO s x with
    | .v (.int _ i) => some (some i)
    | _ => none
theorem evB_ok (hM : M s σ) {x : Option Operand} {b : Option Int} (h : evB X s x = some b) (d : Nat) : (∀ i, b = some i → 0 ≤ i → bndO σ x d i.toNat) ∧ (b = none → bndO σ x d d) := by
  cases x with
  | none => cases h; exact ⟨fun i h => (by cases h), fun _ => rfl⟩
  | some x =>
    unfold evB at h
    dsimp only at h
    split at h <;> try (cases h; done)
    rename_i kk i hx
    cases h
    refine ⟨fun j hj h0 => ?_, fun h => (by cases h)⟩
    cases hj
    refine ⟨kk, ?_⟩
    rw [hM.ev hx (by simp), Int.toNat_of_nonneg h0]
    rfl
/-- The list between two bounds. -/
def cutI {α : Type} (xs : List α) : Option Int → Option Int → Option (List α)
  | none, none => some xs
  | none, some h => if 0 ≤ h ∧ h ≤ (xs.length : Int) then some (xs.take h.toNat) else none
  | some l, none => if 0 ≤ l ∧ l ≤ (xs.length : Int) then some (xs.drop l.toNat) else none
  | some l, some h => if 0 ≤ l ∧ l ≤ h ∧ h ≤ (xs.length : Int) then some ((xs.drop l.toNat).take (h.toNat - l.toNat)) else none
theorem cutI_ok {α : Type} {xs ys : List α} {a b : Option Int} (h : cutI xs a b = some ys) (hM : M s σ) {x y : Option Operand} (hx : evB X s x = some a) (hy : evB X s y = some b) : ∃ l h : Nat, bndO σ x 0 l ∧ bndO σ y xs.length h ∧ l ≤ h ∧ h ≤ xs.length ∧ ys = (xs.drop l).take (h - l) := by
  have h1 := evB_ok hM hx 0
  have h2 := evB_ok hM hy xs.length
  cases a with
  | none =>
    cases b with
    | none => cases h; exact ⟨0, xs.length, h1.2 rfl, h2.2 rfl, Nat.zero_le _, Nat.le_refl _, by simp⟩
    | some b =>
      unfold cutI at h
      dsimp only at h
      split at h <;> try (cases h; done)
      rename_i hb
      cases h
      exact ⟨0, b.toNat, h1.2 rfl, h2.1 b rfl hb.1, Nat.zero_le _, by omega, by simp⟩
  | some a =>
    cases b with
    | none =>
      unfold cutI at h
      dsimp only at h
      split at h <;> try (cases h; done)
      rename_i hb
      cases h
      exact ⟨a.toNat, xs.length, h1.1 a rfl hb.1, h2.2 rfl, by omega, Nat.le_refl _, (List.take_of_length_le (by rw [List.length_drop]; exact Nat.le_refl _)).symm⟩
    | some b =>
      unfold cutI at h
      dsimp only at h
      split at h <;> try (cases h; done)
      rename_i hb
      cases h
      exact ⟨a.toNat, b.toNat, h1.1 a rfl hb.1, h2.1 b rfl (by omega), by omega, by omega, rfl⟩
def cutB (b : ByteArray) : Option Int → Option Int → Option ByteArray
  | none, none => some b
  | none, some h => if 0 ≤ h ∧ h ≤ (b.size : Int) then some (b.extract 0 h.toNat) else none
  | some l, none => if 0 ≤ l ∧ l ≤ (b.size : Int) then some (b.extract l.toNat b.size) else none
  | some l, some h => if 0 ≤ l ∧ l ≤ h ∧ h ≤ (b.size : Int) then some (b.extract l.toNat h.toNat) else none
theorem extract_all (b : ByteArray) : b.extract 0 b.size = b := by
  apply ByteArray.ext
  simp
theorem cutB_ok {b c : ByteArray} {a d : Option Int} (h : cutB b a d = some c) (hM : M s σ) {x y : Option Operand} (hx : evB X s x = some a) (hy : evB X s y = some d) : ∃ l h : Nat, bndO σ x 0 l ∧ bndO σ y b.size h ∧ l ≤ h ∧ h ≤ b.size ∧ b.extract l h = c := by
  have h1 := evB_ok hM hx 0
  have h2 := evB_ok hM hy b.size
  cases a with
  | none =>
    cases d with
    | none => cases h; exact ⟨0, b.size, h1.2 rfl, h2.2 rfl, Nat.zero_le _, Nat.le_refl _, extract_all b⟩
    | some d =>
      unfold cutB at h
      dsimp only at h
      split at h <;> try (cases h; done)
      rename_i hb
      cases h
      exact ⟨0, d.toNat, h1.2 rfl, h2.1 d rfl hb.1, Nat.zero_le _, by omega, rfl⟩
  | some a =>
    cases d with
    | none =>
      unfold cutB at h
      dsimp only at h
      split at h <;> try (cases h; done)
      rename_i hb
      cases h
      exact ⟨a.toNat, b.size, h1.1 a rfl hb.1, h2.2 rfl, by omega, Nat.le_refl _, rfl⟩
    | some d =>
      unfold cutB at h
      dsimp only at h
      split at h <;> try (cases h; done)
      rename_i hb
      cases h
      exact ⟨a.toNat, d.toNat, h1.1 a rfl hb.1, h2.1 d rfl (by omega), by omega, by omega, rfl⟩
def evCut (X : Cx) (s : TS X.U) (T : TypeId) (x : Operand) (lo hi : Option Operand) (k : List Loc → TEff X.U → Option R) : Option R :=
  match evB X s lo, evB X s hi with
  | some a, some b => match evO s x with
    | .v (.string t) => match X.sty T with
      | true => (cutB t a b).bind fun c => k (locO x ++ locB lo ++ locB hi) ⟨.v (.string c), []⟩
      | false => none
    | tv => match X.tt T with
      | none => none
      | some t => match t.elem with
        | none => none
        | some e => match X.tt e with
          | none => none
          | some u => match tv with
            | .lst c xs => if X.U.sz c = u.size then (cutI xs a b).bind fun ys => k (locO x ++ locB lo ++ locB hi) ⟨.lst c ys, []⟩ else none
            | .full id => match nth s.objs id with
              | some (.row c xs false) => if X.U.sz c = u.size then (cutI xs a b).bind fun ys => k (locO x ++ locB lo ++ locB hi ++ [.obj id] ++ [.obj s.objs.length]) ⟨.full s.objs.length, [(id, .dead xs.length), (s.objs.length, .row c ys false)]⟩ else none
              | _ => none
            | _ => none
  | _, _ => none
/-- An object goes, another one comes. -/
theorem Fit.swap {L : List Loc} {id n : Nat} {ob x : TO X.U} {tv : TV X.U} (h : nth s.objs id = some ob) (hn : ob.rlen = n) (hst : ∀ rl, (∀ i, i < s.objs.length → rl i = rlen s.objs i) → rl s.objs.length = x.rlen → Step P o L ⟨o.dst, tv.itp rl, [(id, .dead), (s.objs.length, x.itp rl)]⟩ σ) (hb : tv.bel (s.objs.length + 1) = true) (hx : x.bel (s.objs.length + 1) = true) : Fit P s o σ L ⟨tv, [(id, .dead n), (s.objs.length, x)]⟩ := by
  have hlt := nth_lt h
  have hl1 : (setO s.objs id (.dead n)).length = s.objs.length := by rw [length_setO, if_pos hlt]
  have hl : (updO s.objs [(id, .dead n), (s.objs.length, x)]).length = s.objs.length + 1 := by
    show (setO (setO s.objs id (.dead n)) s.objs.length x).length = _
    rw [length_setO, if_neg (by omega), hl1]
  have hok : ObsOk s.objs [(id, .dead n), (s.objs.length, x)] := ⟨.inl ⟨ob, h, hn⟩, .inr hl1.symm, trivial⟩
  refine ⟨hst _ (updO_rlen _ _ hok) ?_, hok, by rw [hl]; exact hb, ?_⟩
  · show rlen (setO (setO s.objs id (.dead n)) s.objs.length x) s.objs.length = _
    unfold rlen
    rw [nth_setO _ _ _ _ (by omega), if_pos rfl]
  · unfold obsBelow
    dsimp only
    rw [hl, List.all_cons, List.all_cons, hx]
    rfl
theorem evCut_ok (hX : CxOk P X) {T : TypeId} {x : Operand} {lo hi : Option Operand} (h : evCut X s T x lo hi k = some r) (hM : M s σ) (ho : o.op = .slice T x lo hi none) : ∃ L e, k L e = some r ∧ Fit P s o σ L e := by
  unfold evCut at h
  split at h <;> try (cases h; done)
  rename_i a b ha hb
  split at h
  · rename_i t hx
    split at h <;> try (cases h; done)
    rename_i hT
    obtain ⟨c, hc, h⟩ := Option.bind_eq_some_iff.1 h
    obtain ⟨l, hh, k1, k2, k3, k4, k5⟩ := cutB_ok hc hM ha hb
    exact ⟨_, _, h, .pure (w_cut_str (hX.str T hT) ho (hM.ev hx (by simp)) l hh k1 k2 k3 k4 k5) rfl⟩
  · split at h <;> try (cases h; done)
    rename_i t ht
    split at h <;> try (cases h; done)
    rename_i e he
    split at h <;> try (cases h; done)
    rename_i u hu
    split at h <;> try (cases h; done)
    · rename_i c xs hx
      split at h <;> try (cases h; done)
      rename_i hsz
      obtain ⟨ys, hys, h⟩ := Option.bind_eq_some_iff.1 h
      obtain ⟨l, hh, k1, k2, k3, k4, rfl⟩ := cutI_ok hys hM ha hb
      refine ⟨_, _, h, .pure (w_cut_lst hX.tab ho ht he hu (hM.ev hx (by simp)) hsz l hh k1 (by rw [List.length_map]; exact k2) k3 (by rw [List.length_map]; exact k4) ?_) rfl⟩
      rw [← List.map_drop, ← List.map_take]
    · rename_i id hx
      split at h <;> try (cases h; done)
      rename_i c xs hob
      split at h <;> try (cases h; done)
      rename_i hsz
      obtain ⟨ys, hys, h⟩ := Option.bind_eq_some_iff.1 h
      obtain ⟨l, hh, k1, k2, k3, k4, rfl⟩ := cutI_ok hys hM ha hb
      refine ⟨_, _, h, .swap hob rfl (fun rl _ hrl => ?_) (by show decide _ = true; simp) rfl⟩
      have hrl0 : rlen s.objs id = xs.length := by unfold rlen; rw [hob]; rfl
      have ex := hM.ev hx (by simp)
      have hlen : ((xs.drop l).take (hh - l)).length = hh - l := by rw [List.length_take, List.length_drop]; omega
      have := w_cut_adopt (P := P) hX.tab ho ht he hu ex (hM.obj_row hob) rfl hsz l hh k1 (by rw [hrl0]; exact k2) k3 (by rw [hrl0]; exact k4) s.objs.length hM.new (rows := ((xs.drop l).take (hh - l)).map (X.U.encS c)) (by rw [Nat.zero_add, ← List.map_drop, ← List.map_take]) (by rw [List.length_map, hlen])
      show Step P o _ ⟨_, .own s.objs.length 0 (rl s.objs.length), [_, (_, .ob ⟨X.U.sz c, ((xs.drop l).take (hh - l)).map (X.U.encS c), false⟩)]⟩ σ
      rw [hrl]
      show Step P o _ ⟨_, .own s.objs.length 0 ((xs.drop l).take (hh - l)).length, _⟩ σ
      rw [hlen]
      exact this
end
end Go.Proofs.YtcbbpidnocgoiaaDoor.Eng

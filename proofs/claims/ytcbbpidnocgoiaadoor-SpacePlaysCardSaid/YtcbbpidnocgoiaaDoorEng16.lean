/- Strings and literals of slices. -/
import Derived.Test.YtcbbpidnocgoiaaDoorEng15
import Derived.Great.BuildSlice
import Derived.Laws.BytesArg
import Derived.Laws.Strings
import Derived.Laws.IdiomStrings
namespace Go.Proofs.YtcbbpidnocgoiaaDoor.Eng
open Go Go.RowKit
set_option linter.unusedVariables false
set_option linter.unusedSimpArgs false
section
variable {P : Program} {tt : Nat → Option TI} {o : Oper} {s : St}
theorem w_len_str {T : TypeId} (hT : P.underlying T = some .string) {x : Operand} (ho : o.op = .call { callee := .builtin .len, args := #[x], argTypes := #[T] }) {b : ByteArray} (hx : s.ev x = .v (.string b)) {n : Int} (hn : (b.size : Int) = n) : Step P o (locO x) ⟨o.dst, .v (.int .i64 n), []⟩ s :=
  step_value fun g σ f ac w hA hR => by
    subst hn
    have e1 := ev_v hR hA hx
    refine ⟨_, ?_, .v _⟩
    rw [execOp_builtin ho]
    simp [builtin, Builtin.len_, e1, run_underlying hT, goInt]
theorem w_index_str {T : TypeId} (hT : P.underlying T = some .string) {x y : Operand} (ho : o.op = .index T x y) {b : ByteArray} (hx : s.ev x = .v (.string b)) {k : IntKind} {i : Int} (hy : s.ev y = .v (.int k i)) (h0 : 0 ≤ i) {c : UInt8} (hc : b.data[i.toNat]? = some c) {n : Int} (hn : (c.toNat : Int) = n) : Step P o (locO x ++ locO y) ⟨o.dst, .v (.int .u8 n), []⟩ s :=
  step_value fun g σ f ac w hA hR => by
    subst hn
    have e1 := ev_v hR hA.left hx
    have e2 := ev_v hR hA.right hy
    refine ⟨_, ?_, .v _⟩
    obtain ⟨hlt, hv⟩ := Array.getElem?_eq_some_iff.1 hc
    have hsz : i.toNat < b.size := hlt
    have hr := run_index_string (P := P) (w := w) T b k i hT
    rw [dif_pos ⟨h0, by omega⟩] at hr
    simp only [execOp, ho, e1, e2]
    rw [Sem.run_bind, hr]
    subst hv
    rfl
theorem fill_one (size : Nat) (cells : Array Value) (v : Value) (h1 : v.cells.size = size) (h2 : cells.size = size) : Instr.fill (fun i => some (i * size, size)) cells [(0, v)] = some v.cells := by
  unfold Instr.fill
  dsimp only
  rw [if_neg (by simp [h1, h2])]
  unfold Instr.fill
  congr 1
  apply Array.ext'
  rw [← Array.foldl_toList]
  have := foldl_owr v.cells.toList 0 (0 * size) cells
  simp only [Array.toList_zipIdx] at this ⊢
  rw [this, owr_eq _ _ _ (by simp [h1, h2])]
  simp [h1, h2]
/-- A slice of one element. -/
theorem w_slice1 (ht : Tab P tt) {T e : TypeId} {x : Operand} (ho : o.op = .buildSlice T 1 #[(0, x)]) {t : TI} (h1 : tt T = some t) (h2 : t.elem = some e) {u : TI} (h3 : tt e = some u) (id : Nat) (hm0 : 0 < u.size) (hsm : u.size ≤ 16777216) (hid : s.obj id = .never) {cs : List SV} (hc : (s.ev x).cells = cs) (hl : cs.length = u.size) :
    Step P o (locO x ++ [.obj id]) ⟨o.dst, .own id 0 1, [(id, .ob ⟨u.size, [cs], false⟩)]⟩ s := by
  intro f σ a w K Q hA hd ⟨g, hR⟩ hK
  have hid' : σ.obj id = .never := by rw [agree_obj hA]; exact hid
  have hx := hR.ev x
  rw [ev_agree hA.left] at hx
  have hcells := hx.cells
  rw [hc] at hcells
  have hsl := (ht T t h1).sl h2
  obtain ⟨d, i, z, g1, g2, g3, g4, g5, g6, g7, g8, _⟩ := ht e u h3
  have hvs : (a.eval x).cells.size = i.size := by
    have := hcells.length
    rw [Array.length_toList] at this
    rw [this, hl, g5]
  have hrun : (execOp a.eval o).run P w = .ok (.value (.slice (some ⟨w.heap.size, 0, none⟩) 1 1)) (w.alloc (.cells (a.eval x).cells e)) := by
    have := run_buildSlice (P := P) w T e 1 #[(0, a.eval x)] (a.eval x).cells i z hsl g2 g3 (by rw [g5]; omega) (by rw [g5]; omega) (fill_one i.size _ (a.eval x) hvs (by simp))
    simp only [execOp, ho]
    rw [Sem.run_bind]
    simp only [List.map_toArray, List.map_cons, List.map_nil]
    rw [this]
    rfl
  unfold Oper.wp
  rw [hrun, Oper.upon_value]
  refine hK _ _ (new_step hd hR id hid' _ e u.size [cs] (RepR.row hcells hl) _ _ fun g' k1 k2 k3 => ?_)
  have hsz : (w.alloc (.cells (a.eval x).cells e)).heap[w.heap.size]? = some (Go.Obj.cells (a.eval x).cells e (0, 0)) := by
    show (w.heap.push _)[w.heap.size]? = _
    rw [Array.getElem?_push, if_pos rfl]
  have := Rep.own (g := g') (H := (w.alloc (.cells (a.eval x).cells e)).heap) (id := id) (lo := 0) (len := 1) (cap := 1) (fr := (0, 0)) k1 (Nat.le_refl _) hsz (by rw [k2, k3, hvs, g5]; omega)
  rw [k3] at this
  simpa using this
theorem repR_bytes {g : Gh} {H : Array Go.Obj} : ∀ (xs : List Int) (vs : List Value), RepR g H vs 1 (xs.map fun n => [SV.v (.int .u8 n)]) → vs.length = xs.length → vs = xs.map (Value.int .u8)
  | [], [], _, _ => rfl
  | [], _ :: _, _, h => by cases h
  | x :: xs, vs, h, hl => by
    rw [List.map_cons] at h
    cases h with
    | @cons a b _ _ _ hm hr ht =>
      cases hr with
      | cons h1 h2 =>
        cases h2
        obtain rfl := rep_v h1
        simp only [List.cons_append, List.nil_append, List.length_cons, Nat.add_right_cancel_iff] at hl ⊢
        rw [List.map_cons, repR_bytes xs b ht hl]
/-- Bytes as a string. -/
theorem w_str {T T2 e : TypeId} (hT : P.underlying T = some (.slice e)) (he : P.underlying e = some (.int .u8)) (h2 : P.underlying T2 = some .string) {x : Operand} (ho : o.op = .convert T T2 x) {rows : List (List SV)} {L : List Loc} {m : Nat} (hx : LstOf s (s.ev x) m rows L) (hm : m = 1) (xs : List Int) (hr : rows = xs.map fun n => [SV.v (.int .u8 n)]) (hpos : 0 < xs.length) {b : ByteArray} (hb : strOfNums xs = b) :
    Step P o (locO x ++ L) ⟨o.dst, .v (.string b), []⟩ s :=
  step_value fun g σ f ac w hA hR => by
    subst hb hm
    have h1 := hR.ev x
    rw [ev_agree hA.left] at h1
    obtain ⟨vs, ⟨A, c, he', hcell⟩, hlen, hrep⟩ := LstOf.at hR (hx.agree hA.right) h1
    have hrl : rows.length = xs.length := by rw [hr, List.length_map]
    rw [hr] at hrep
    obtain rfl := repR_bytes xs vs hrep (by rw [hlen, hrl]; omega)
    refine ⟨.string (strOfNums xs), ?_, .v _⟩
    obtain ⟨b, off, hA0, _⟩ := hcell 0 (.int .u8 (xs.getD 0 0)) (by cases xs with | nil => simp at hpos | cons y ys => rfl)
    subst hA0
    have := run_convert_bytes_arg (P := P) w T e hT he b off rows.length c xs hrl.symm (fun i hi => by
      obtain ⟨b', off', e1, e2⟩ := hcell i (.int .u8 (xs.getD i 0)) (by rw [List.getElem?_map, List.getD_eq_getElem?_getD, List.getElem?_eq_getElem (by omega)]; rfl)
      cases e1
      exact e2) T2 h2
    simp only [execOp, ho, he']
    rw [Sem.run_bind, this]
    rfl
theorem w_str_own {T T2 e : TypeId} (hT : P.underlying T = some (.slice e)) (he : P.underlying e = some (.int .u8)) (h2 : P.underlying T2 = some .string) {x : Operand} (ho : o.op = .convert T T2 x) {id lo len : Nat} {ob : Ob} (hx : s.ev x = .own id lo len) (hob : s.obj id = .ob ob) (hm : ob.m = 1) (xs : List Int)
    (hr : (ob.rows.drop lo).take len = xs.map fun n => [SV.v (.int .u8 n)]) (hl : xs.length = len) (hpos : 0 < xs.length) {b : ByteArray} (hb : strOfNums xs = b) :
    Step P o (locO x ++ [.obj id]) ⟨o.dst, .v (.string b), []⟩ s := by
  have hL : LstOf s (s.ev x) ob.m ((ob.rows.drop lo).take len) [.obj id] := by
    rw [hx]
    exact .own hob rfl (by rw [hr, List.length_map, hl])
  exact w_str hT he h2 ho hL hm xs hr hpos hb
theorem w_append_nil_own (ht : Tab P tt) {x y : Operand} {T Ty e e2 : TypeId} (ho : o.op = .call { callee := .builtin .append, args := #[x, y], argTypes := #[T, Ty] }) {t : TI} (h1 : tt T = some t) (h2 : t.elem = some e) {u : TI} (h3 : tt e = some u) {t2 : TI} (h4 : tt Ty = some t2) (h5 : t2.elem = some e2)
    (id' : Nat) (hm0 : 0 < u.size) (hx : s.ev x = .v (.slice none 0 0)) {id lo len : Nat} {ob : Ob} (hy : s.ev y = .own id lo len) (hob : s.obj id = .ob ob) (hm : ob.m = u.size) {ry : List (List SV)} (hr : (ob.rows.drop lo).take len = ry) (hrl : ry.length = len) (hone : (ry.all fun r => r.all SV.one) = true) (hpos : 0 < ry.length)
    (hid : s.obj id' = .never) (hlim : ry.length * u.bytes ≤ 140737488355328) (h63 : ry.length ≤ 9223372036854775807) {n : Nat} (hn : ry.length = n) :
    Step P o (locO x ++ locO y ++ [.obj id] ++ [.obj id']) ⟨o.dst, .own id' 0 n, [(id', .ob ⟨u.size, ry, false⟩)]⟩ s := by
  have hL : LstOf s (s.ev y) u.size ry [.obj id] := by
    rw [hy, ← hm]
    exact .own hob hr hrl
  exact w_append_nil ht ho h1 h2 h3 h4 h5 id' hm0 hx hL hone hpos hid hlim h63 hn
theorem w_append_own (ht : Tab P tt) {x y : Operand} {T Ty e e2 : TypeId} (ho : o.op = .call { callee := .builtin .append, args := #[x, y], argTypes := #[T, Ty] }) {t : TI} (h1 : tt T = some t) (h2 : t.elem = some e) {u : TI} (h3 : tt e = some u) {t2 : TI} (h4 : tt Ty = some t2) (h5 : t2.elem = some e2)
    (id' : Nat) {id lo len : Nat} {ob : Ob} {rx ry : List (List SV)} (hm0 : 0 < u.size)
    (hx : s.ev x = .own id lo len) (hob : s.obj id = .ob ob) (him : u.size = ob.m) (hfz : ob.fz = false) (hrx : (ob.rows.drop lo).take len = rx) (hlx : rx.length = len) {id2 lo2 len2 : Nat} {ob2 : Ob} (hy : s.ev y = .own id2 lo2 len2) (hob2 : s.obj id2 = .ob ob2) (hm : ob2.m = ob.m) (hr : (ob2.rows.drop lo2).take len2 = ry) (hrl : ry.length = len2)
    (hone : (ry.all fun r => r.all SV.one) = true) (honex : (rx.all fun r => r.all SV.one) = true)
    (hid : s.obj id' = .never) (hlim : (len + ry.length) * u.bytes ≤ 140737488355328) (h63 : len + ry.length ≤ 9223372036854775807) {n : Nat} (hn : len + ry.length = n) {rows : List (List SV)} (hrows : rx ++ ry = rows) :
    Step P o (locO x ++ locO y ++ [.obj id2] ++ [.obj id] ++ [.obj id']) ⟨o.dst, .own id' 0 n, [(id, .dead), (id', .ob ⟨ob.m, rows, false⟩)]⟩ s := by
  have hL : LstOf s (s.ev y) ob.m ry [.obj id2] := by
    rw [hy, ← hm]
    exact .own hob2 hr hrl
  exact w_append ht ho h1 h2 h3 h4 h5 id' him hm0 hx hob hfz hrx hlx hL hone honex hid hlim h63 hn hrows
end
end Go.Proofs.YtcbbpidnocgoiaaDoor.Eng

/- The operations, by a table of the types. -/
import Derived.Test.YtcbbpidnocgoiaaDoorEng8
import Derived.Laws.Pointers
import Derived.Laws.Tables
import Derived.Laws.Entries
namespace Go.Proofs.YtcbbpidnocgoiaaDoor.Eng
open Go Go.RowKit
set_option linter.unusedVariables false
set_option linter.unusedSimpArgs false

structure TI where
  row : Bool
  size : Nat
  bytes : Nat
  zero : List SV
  flds : List (Nat × Nat)
  elem : Option Nat
  bool : Bool
  ptr : Bool
  ik : Option IntKind
structure TIok (P : Program) (T : TypeId) (t : TI) : Prop where
  ex : ∃ d i z, P.underlying T = some d ∧ P.info? T = some i ∧ i.zero = some z ∧ d.isRow = t.row ∧ i.size = t.size ∧ i.bytes = t.bytes ∧ z.cells.toList.map SV.v = t.zero ∧ z.cells.size = t.size ∧
    (t.flds ≠ [] → ∃ fs, d = .struct fs ∧ fs.toList.map (fun f => (f.offset, f.type)) = t.flds) ∧ (∀ e, t.elem = some e → d = .slice e) ∧ (t.bool = true → d = .bool) ∧ (t.ptr = true → d = .pointer (P.pointee T)) ∧ (∀ k, t.ik = some k → d = .int k)
/-- A table of types that tells what is so. -/
def Tab (P : Program) (tt : Nat → Option TI) : Prop := ∀ T t, tt T = some t → TIok P T t
section
variable {P : Program} {tt : Nat → Option TI} {o : Oper} {s : St}
theorem TIok.sz {T : TypeId} {t : TI} (h : TIok P T t) : (P.info? T).map (·.size) = some t.size := by
  obtain ⟨d, i, z, h1, h2, h3, h4, h5, _⟩ := h
  rw [h2]
  exact congrArg some h5
theorem TIok.und {T : TypeId} {t : TI} (h : TIok P T t) : ∃ d, P.underlying T = some d ∧ d.isRow = t.row := by
  obtain ⟨d, i, z, h1, h2, h3, h4, _⟩ := h
  exact ⟨d, h1, h4⟩
theorem TIok.sl {T : TypeId} {t : TI} (h : TIok P T t) {e : Nat} (he : t.elem = some e) : P.underlying T = some (.slice e) := by
  obtain ⟨d, i, z, h1, h2, h3, h4, h5, h6, h7, h8, h9, h10, h11⟩ := h
  rw [h1, h10 e he]
theorem TIok.fld {T : TypeId} {t : TI} (h : TIok P T t) {k off ft : Nat} (hk : t.flds[k]? = some (off, ft)) : ∃ fs fl, P.underlying T = some (.struct fs) ∧ fs[k]? = some fl ∧ fl.offset = off ∧ fl.type = ft := by
  obtain ⟨d, i, z, h1, h2, h3, h4, h5, h6, h7, h8, h9, h10, h11⟩ := h
  obtain ⟨fs, rfl, hfs⟩ := h9 (by rintro e; rw [e] at hk; simp at hk)
  rw [← hfs, List.getElem?_map] at hk
  obtain ⟨fl, hfl, he⟩ := Option.map_eq_some_iff.1 hk
  simp only [Prod.mk.injEq] at he
  exact ⟨fs, fl, h1, by simpa using hfl, he.1, he.2⟩
theorem w_load (ht : Tab P tt) {T : TypeId} {x : Operand} (ho : o.op = .load T x) {t : TI} (h1 : tt T = some t) (h2 : t.row = false) {id i j : Nat} {ob : Ob} {r : List SV} {sv : SV}
    (hx : s.ev x = .ref id i j) (hob : s.obj id = .ob ob) (hr : ob.rows[i]? = some r) (hj : r[j]? = some sv) : Step P o (locO x ++ [.obj id]) ⟨o.dst, sv, []⟩ s := by
  obtain ⟨d, hu, hd⟩ := (ht T t h1).und
  exact step_load ho hu (by rw [hd, h2]) hx hob hr hj
theorem w_load_elt (ht : Tab P tt) {T : TypeId} {x : Operand} (ho : o.op = .load T x) {t : TI} (h1 : tt T = some t) (h2 : t.row = false) {cells : List SV} {j : Nat} {sv : SV}
    (hx : s.ev x = .elt cells j) (hj : cells[j]? = some sv) : Step P o (locO x) ⟨o.dst, sv, []⟩ s := by
  obtain ⟨d, hu, hd⟩ := (ht T t h1).und
  exact step_load_elt ho hu (by rw [hd, h2]) hx hj
theorem w_loads (ht : Tab P tt) {T : TypeId} {x : Operand} (ho : o.op = .load T x) {t : TI} (h1 : tt T = some t) (h2 : t.row = true) {id i j : Nat} {ob : Ob} {r cells : List SV}
    (hx : s.ev x = .ref id i j) (hob : s.obj id = .ob ob) (hr : ob.rows[i]? = some r) (hc : (r.drop j).take t.size = cells) (hl : cells.length = t.size) : Step P o (locO x ++ [.obj id]) ⟨o.dst, .agg cells, []⟩ s := by
  obtain ⟨d, hu, hd⟩ := (ht T t h1).und
  exact step_loads ho hu (by rw [hd, h2]) (ht T t h1).sz hx hob hr hc hl
theorem w_loads_elt (ht : Tab P tt) {T : TypeId} {x : Operand} (ho : o.op = .load T x) {t : TI} (h1 : tt T = some t) (h2 : t.row = true) {r cells : List SV} {j : Nat}
    (hx : s.ev x = .elt r j) (hc : (r.drop j).take t.size = cells) (hl : cells.length = t.size) : Step P o (locO x) ⟨o.dst, .agg cells, []⟩ s := by
  obtain ⟨d, hu, hd⟩ := (ht T t h1).und
  exact step_loads_elt ho hu (by rw [hd, h2]) (ht T t h1).sz hx hc hl
theorem w_store (ht : Tab P tt) {T : TypeId} {x y : Operand} (ho : o.op = .store T x y) {t : TI} (h1 : tt T = some t) {id i j : Nat} {ob : Ob} {r cs r' : List SV}
    (hx : s.ev x = .ref id i j) (hob : s.obj id = .ob ob) (hz : ob.fz = false) (hr : ob.rows[i]? = some r) (hcs : (s.ev y).cells = cs) (hy : cs.all SV.one = true) (hl : cs.length = t.size) (hm : j + t.size ≤ r.length) (hr' : owr r j cs = r') {rows' : List (List SV)} (hrows : ob.rows.set i r' = rows') :
    Step P o (locO x ++ locO y ++ [.obj id]) ⟨o.dst, .v undef, [(id, .ob ⟨ob.m, rows', false⟩)]⟩ s := by
  subst hcs hr' hrows
  exact step_store ho (ht T t h1).sz hx hob hz hr hy hl hm
theorem w_alloc (ht : Tab P tt) {T : TypeId} (ho : o.op = .alloc T) {t : TI} (h1 : tt T = some t) (id : Nat) (hid : s.obj id = .never) :
    Step P o [.obj id] ⟨o.dst, .ref id 0 0, [(id, .ob ⟨t.size, [t.zero], false⟩)]⟩ s := by
  obtain ⟨d, i, z, g1, g2, g3, g4, g5, g6, g7, g8, _⟩ := ht T t h1
  have := step_alloc (P := P) (s := s) ho (z := z) (by rw [g2]; exact g3) hid g8
  rwa [g7] at this
theorem w_box {T : TypeId} {x : Operand} (ho : o.op = .box T x) (id : Nat) (hid : s.obj id = .never) {cs : List SV} (hc : (s.ev x).cells = cs) {m : Nat} (hm : cs.length = m) :
    Step P o (locO x ++ [.obj id]) ⟨o.dst, .ref id 0 0, [(id, .ob ⟨m, [cs], false⟩)]⟩ s := by
  subst hc
  exact step_box ho hid hm
theorem w_fieldAddr (ht : Tab P tt) {T : TypeId} {x : Operand} {k : Nat} (ho : o.op = .fieldAddr T x k) {t : TI} (h1 : tt T = some t) {off ft : Nat} (h2 : t.flds[k]? = some (off, ft)) {u : TI} (h3 : tt ft = some u) (h4 : u.size ≠ 0)
    {id i j : Nat} (hx : s.ev x = .ref id i j) {j' : Nat} (hj : j + off = j') : Step P o (locO x) ⟨o.dst, .ref id i j', []⟩ s := by
  obtain ⟨fs, fl, g1, g2, g3, g4⟩ := (ht T t h1).fld h2
  subst g3 g4 hj
  exact step_fieldAddr ho g1 g2 (ht _ u h3).sz h4 hx
theorem w_fieldAddr_elt (ht : Tab P tt) {T : TypeId} {x : Operand} {k : Nat} (ho : o.op = .fieldAddr T x k) {t : TI} (h1 : tt T = some t) {off ft : Nat} (h2 : t.flds[k]? = some (off, ft)) {u : TI} (h3 : tt ft = some u) (h4 : u.size ≠ 0)
    {cells : List SV} {j : Nat} (hx : s.ev x = .elt cells j) {j' : Nat} (hj : j + off = j') : Step P o (locO x) ⟨o.dst, .elt cells j', []⟩ s := by
  obtain ⟨fs, fl, g1, g2, g3, g4⟩ := (ht T t h1).fld h2
  subst g3 g4 hj
  exact step_fieldAddr_elt ho g1 g2 (ht _ u h3).sz h4 hx
theorem w_field (ht : Tab P tt) {T : TypeId} {x : Operand} {k : Nat} (ho : o.op = .field T x k) {t : TI} (h1 : tt T = some t) {off ft : Nat} (h2 : t.flds[k]? = some (off, ft)) {u : TI} (h3 : tt ft = some u) (h4 : u.row = false)
    {cells : List SV} {sv : SV} (hx : s.ev x = .agg cells) (hj : cells[off]? = some sv) : Step P o (locO x) ⟨o.dst, sv, []⟩ s := by
  obtain ⟨fs, fl, g1, g2, g3, g4⟩ := (ht T t h1).fld h2
  subst g3 g4
  obtain ⟨d, hu, hd⟩ := (ht _ u h3).und
  exact step_field ho g1 g2 hu (by rw [hd, h4]) hx hj
theorem w_fields (ht : Tab P tt) {T : TypeId} {x : Operand} {k : Nat} (ho : o.op = .field T x k) {t : TI} (h1 : tt T = some t) {off ft : Nat} (h2 : t.flds[k]? = some (off, ft)) {u : TI} (h3 : tt ft = some u) (h4 : u.row = true)
    {cells cs' : List SV} (hx : s.ev x = .agg cells) (hj : (cells.drop off).take u.size = cs') : Step P o (locO x) ⟨o.dst, .agg cs', []⟩ s := by
  obtain ⟨fs, fl, g1, g2, g3, g4⟩ := (ht T t h1).fld h2
  subst g3 g4
  obtain ⟨d, hu, hd⟩ := (ht _ u h3).und
  exact step_fields ho g1 g2 hu (by rw [hd, h4]) (ht _ u h3).sz hx hj
theorem w_index_own (ht : Tab P tt) {T e : TypeId} {x y : Operand} (ho : o.op = .indexAddr T x y) {t : TI} (h1 : tt T = some t) (h2 : t.elem = some e) {u : TI} (h3 : tt e = some u) {id lo len : Nat} {ob : Ob} {k : IntKind} {i : Int}
    (hx : s.ev x = .own id lo len) (hob : s.obj id = .ob ob) (hom : ob.m = u.size) (hy : s.ev y = .v (.int k i)) (h0 : 0 ≤ i) (h4 : i < len) {q : Nat} (hq : lo + i.toNat = q) : Step P o (locO x ++ locO y ++ [.obj id]) ⟨o.dst, .ref id q 0, []⟩ s := by
  subst hq
  exact step_index_own ho ((ht T t h1).sl h2) (ht e u h3).sz hx hob hom hy h0 h4
theorem w_index_lst (ht : Tab P tt) {T e : TypeId} {x y : Operand} (ho : o.op = .indexAddr T x y) {t : TI} (h1 : tt T = some t) (h2 : t.elem = some e) {u : TI} (h3 : tt e = some u) {m : Nat} {rows : List (List SV)} {r : List SV} {k : IntKind} {i : Int}
    (hx : s.ev x = .lst m rows) (hm : m = u.size) (hy : s.ev y = .v (.int k i)) (h0 : 0 ≤ i) (hr : rows[i.toNat]? = some r) : Step P o (locO x ++ locO y) ⟨o.dst, .elt r 0, []⟩ s := by
  subst hm
  exact step_index_lst ho ((ht T t h1).sl h2) (ht e u h3).sz hx hy h0 hr
theorem w_len (ht : Tab P tt) {x : Operand} {T e : TypeId} (ho : o.op = .call { callee := .builtin .len, args := #[x], argTypes := #[T] }) {t : TI} (h1 : tt T = some t) (h2 : t.elem = some e) {m : Nat} {rows : List (List SV)} {L : List Loc}
    (hx : LstOf s (s.ev x) m rows L) {n : Nat} (hn : rows.length = n) : Step P o (locO x ++ L) ⟨o.dst, .v (.int .i64 (n : Int)), []⟩ s := by
  subst hn
  exact step_len ho ((ht T t h1).sl h2) hx
theorem w_append (ht : Tab P tt) {x y : Operand} {T Ty e e2 : TypeId} (ho : o.op = .call { callee := .builtin .append, args := #[x, y], argTypes := #[T, Ty] }) {t : TI} (h1 : tt T = some t) (h2 : t.elem = some e) {u : TI} (h3 : tt e = some u) {t2 : TI} (h4 : tt Ty = some t2) (h5 : t2.elem = some e2)
    (id' : Nat) {id lo len : Nat} {ob : Ob} {rx ry : List (List SV)} {L : List Loc} (him : u.size = ob.m) (hm0 : 0 < u.size)
    (hx : s.ev x = .own id lo len) (hob : s.obj id = .ob ob) (hfz : ob.fz = false) (hrx : (ob.rows.drop lo).take len = rx) (hlx : rx.length = len) (hy : LstOf s (s.ev y) ob.m ry L) (hone : (ry.all fun r => r.all SV.one) = true) (honex : (rx.all fun r => r.all SV.one) = true)
    (hid : s.obj id' = .never) (hlim : (len + ry.length) * u.bytes ≤ 140737488355328) (h63 : len + ry.length ≤ 9223372036854775807) {n : Nat} (hn : len + ry.length = n) {rows : List (List SV)} (hrows : rx ++ ry = rows) :
    Step P o (locO x ++ locO y ++ L ++ [.obj id] ++ [.obj id']) ⟨o.dst, .own id' 0 n, [(id, .dead), (id', .ob ⟨ob.m, rows, false⟩)]⟩ s := by
  subst hn hrows
  have hsl2 := (ht Ty t2 h4).sl h5
  obtain ⟨d, i, z, g1, g2, g3, g4, g5, g6, g7, g8, _⟩ := ht e u h3
  exact step_append ho ((ht T t h1).sl h2) hsl2 g2 g3 (by rw [g8, g5]) (by rw [g5, him]) (by omega) hx hob hfz hrx hlx hy hone honex hid (by rw [g6]; exact hlim) h63
theorem w_append_nil (ht : Tab P tt) {x y : Operand} {T Ty e e2 : TypeId} (ho : o.op = .call { callee := .builtin .append, args := #[x, y], argTypes := #[T, Ty] }) {t : TI} (h1 : tt T = some t) (h2 : t.elem = some e) {u : TI} (h3 : tt e = some u) {t2 : TI} (h4 : tt Ty = some t2) (h5 : t2.elem = some e2)
    (id' : Nat) {ry : List (List SV)} {L : List Loc} (hm0 : 0 < u.size)
    (hx : s.ev x = .v (.slice none 0 0)) (hy : LstOf s (s.ev y) u.size ry L) (hone : (ry.all fun r => r.all SV.one) = true) (hpos : 0 < ry.length)
    (hid : s.obj id' = .never) (hlim : ry.length * u.bytes ≤ 140737488355328) (h63 : ry.length ≤ 9223372036854775807) {n : Nat} (hn : ry.length = n) :
    Step P o (locO x ++ locO y ++ L ++ [.obj id']) ⟨o.dst, .own id' 0 n, [(id', .ob ⟨u.size, ry, false⟩)]⟩ s := by
  subst hn
  have hsl2 := (ht Ty t2 h4).sl h5
  obtain ⟨d, i, z, g1, g2, g3, g4, g5, g6, g7, g8, _⟩ := ht e u h3
  exact step_append_nil ho ((ht T t h1).sl h2) hsl2 g2 g3 (by rw [g8, g5]) g5 hm0 hx hy hone hpos hid (by rw [g6]; exact hlim) h63

/-! ### Values -/
def abin (op : BinOp) : Value → Value → Option Value
  | .int k a, .int k' b => match op with
    | .shl => if b < 0 then none else some (.int k (k.wrap (a * 2 ^ (min b.toNat k.bits))))
    | .shr => if b < 0 then none else some (.int k (a.fdiv (2 ^ (min b.toNat k.bits))))
    | _ => if k = k' then (match op with
      | .add => some (.int k (k.wrap (a + b)))
      | .sub => some (.int k (k.wrap (a - b)))
      | .mul => some (.int k (k.wrap (a * b)))
      | .quo => if b = 0 then none else some (.int k (k.wrap (a.tdiv b)))
      | .rem => if b = 0 then none else some (.int k (a.tmod b))
      | .eql => some (.bool (a == b))
      | .neq => some (.bool (a != b))
      | .lss => some (.bool (decide (a < b)))
      | .leq => some (.bool (decide (a ≤ b)))
      | .gtr => some (.bool (decide (a > b)))
      | .geq => some (.bool (decide (a ≥ b)))
      | .and => some (.int k (k.wrap ((BitVec.ofInt k.bits a &&& BitVec.ofInt k.bits b).toNat : Nat)))
      | .or => some (.int k (k.wrap ((BitVec.ofInt k.bits a ||| BitVec.ofInt k.bits b).toNat : Nat)))
      | .xor => some (.int k (k.wrap ((BitVec.ofInt k.bits a ^^^ BitVec.ofInt k.bits b).toNat : Nat)))
      | .andNot => some (.int k (k.wrap ((BitVec.ofInt k.bits a &&& ~~~BitVec.ofInt k.bits b).toNat : Nat)))
      | _ => none) else none
  | .string a, .string b => match op with
    | .add => if ((a.size + b.size : Nat) : Int) > 9223372036854775807 then none else some (.string (a ++ b))
    | .eql => some (.bool (a.toList == b.toList))
    | .neq => some (.bool !(a.toList == b.toList))
    | .lss => some (.bool (Op.bytesLess a.toList b.toList))
    | .leq => some (.bool (Op.bytesLess a.toList b.toList || a.toList == b.toList))
    | .gtr => some (.bool !(Op.bytesLess a.toList b.toList || a.toList == b.toList))
    | .geq => some (.bool !(Op.bytesLess a.toList b.toList))
    | _ => none
  | _, _ => none
theorem abin_run {op : BinOp} {T : TypeId} {x y : Value} {v : Value} (h : abin op x y = some v) (w : World) : (binOp op T x y).run P w = .ok v w := by
  cases x <;> cases y <;> first | (cases h; done) | skip
  case int.int k a k' b =>
    cases op <;> simp only [abin] at h <;> (repeat' split at h) <;> first | (cases h; done) | (cases h; subst_vars; simp_all [binOp, Op.intArith, Op.intDiv, Op.intCmp, Op.shift, Op.intBits]; done) | (cases h; subst_vars; simp_all [binOp, Op.intArith, Op.intDiv, Op.intCmp, Op.shift, Op.intBits]; intro h; omega)
  case string.string a b =>
    cases op <;> simp only [abin] at h <;> (repeat' split at h) <;> first | (cases h; done) | (cases h; simp_all [binOp, Op.stringOp, IntKind.max, IntKind.bits, IntKind.signed])
theorem eqGuard_run {op : BinOp} {T : TypeId} {x y : Operand} {a b : Value} {v : Value} (h : abin op a b = some v) (w : World) : (eqGuard op T x y a b).run P w = .ok () w := by
  cases a <;> cases b <;> first | (cases h; done) | (unfold eqGuard; cases op <;> simp)
theorem w_bin {op : BinOp} {T T2 : TypeId} {x y : Operand} (ho : o.op = .binOp op T x y T2) {a b v : Value} (hx : s.ev x = .v a) (hy : s.ev y = .v b) (hv : abin op a b = some v) : Step P o (locO x ++ locO y) ⟨o.dst, .v v, []⟩ s :=
  step_value fun g σ f ac w hA hR => by
    have e1 := ev_v hR hA.left hx
    have e2 := ev_v hR hA.right hy
    refine ⟨v, ?_, .v _⟩
    simp only [execOp, ho, e1, e2]
    simp [Sem.run_bind, eqGuard_run hv, abin_run hv]
theorem w_not {T : TypeId} {x : Operand} (ho : o.op = .unOp .not T x) {b : Bool} (hx : s.ev x = .v (.bool b)) : Step P o (locO x) ⟨o.dst, .v (.bool !b), []⟩ s :=
  step_value fun g σ f ac w hA hR => by
    have e1 := ev_v hR hA hx
    refine ⟨.bool !b, ?_, .v _⟩
    simp only [execOp, ho, e1]
    simp [Op.unary]
end
end Go.Proofs.YtcbbpidnocgoiaaDoor.Eng

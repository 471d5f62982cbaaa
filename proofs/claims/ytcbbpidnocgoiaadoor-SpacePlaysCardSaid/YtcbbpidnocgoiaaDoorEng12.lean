/- More operations. -/
import Derived.Test.YtcbbpidnocgoiaaDoorEng11
import Derived.Laws.Tables
import Derived.Laws.Pointers
namespace Go.Proofs.YtcbbpidnocgoiaaDoor.Eng
open Go Go.RowKit
set_option linter.unusedVariables false
set_option linter.unusedSimpArgs false
section
variable {P : Program} {tt : Nat → Option TI} {o : Oper} {s : St}
theorem TIok.pt {T : TypeId} {t : TI} (h : TIok P T t) (hp : t.ptr = true) : P.underlying T = some (.pointer (P.pointee T)) := by
  obtain ⟨d, i, z, h1, h2, h3, h4, h5, h6, h7, h8, h9, h10, h11, h12, h13⟩ := h
  rw [h1, h12 hp]
theorem TIok.bl {T : TypeId} {t : TI} (h : TIok P T t) (hp : t.bool = true) : P.underlying T = some .bool := by
  obtain ⟨d, i, z, h1, h2, h3, h4, h5, h6, h7, h8, h9, h10, h11, h12, h13⟩ := h
  rw [h1, h11 hp]
theorem eqGuard_ptr {op : BinOp} {T : TypeId} {x y : Operand} {p q : Option Addr} (w : World) : (eqGuard op T x y (.pointer p) (.pointer q)).run P w = .ok () w := by
  unfold eqGuard; cases op <;> simp
/-- A pointer compared with none. -/
theorem w_ptr_nil (ht : Tab P tt) {b : Bool} {T T2 : TypeId} {x y : Operand} (ho : o.op = .binOp (if b then .eql else .neq) T x y T2) {t : TI} (h1 : tt T = some t) (h2 : t.ptr = true) {id i j : Nat} (hx : s.ev x = .ref id i j) (hy : s.ev y = .v (.pointer none)) : Step P o (locO x ++ locO y) ⟨o.dst, .v (.bool !b), []⟩ s :=
  step_value fun g σ f ac w hA hR => by
    have e1 := hR.ev x
    rw [ev_agree hA.left, hx] at e1
    have e2 := ev_v hR hA.right hy
    obtain ⟨bb, hb, he⟩ := rep_ref e1
    refine ⟨.bool !b, ?_, .v _⟩
    have hp := run_equal_pointer_nil (P := P) (w := w) T (some ⟨bb, g.o0 id + (i * g.mm id + j), none⟩) ((ht T t h1).pt h2)
    cases b <;> simp [execOp, ho, e2, he, Sem.run_bind, eqGuard_ptr, binOp, hp]
theorem w_nil_nil (ht : Tab P tt) {b : Bool} {T T2 : TypeId} {x y : Operand} (ho : o.op = .binOp (if b then .eql else .neq) T x y T2) {t : TI} (h1 : tt T = some t) (h2 : t.ptr = true) (hx : s.ev x = .v (.pointer none)) (hy : s.ev y = .v (.pointer none)) : Step P o (locO x ++ locO y) ⟨o.dst, .v (.bool b), []⟩ s :=
  step_value fun g σ f ac w hA hR => by
    have e1 := ev_v hR hA.left hx
    have e2 := ev_v hR hA.right hy
    refine ⟨.bool b, ?_, .v _⟩
    have hp := run_equal_pointer_nil (P := P) (w := w) T none ((ht T t h1).pt h2)
    cases b <;> simp [execOp, ho, e1, e2, Sem.run_bind, eqGuard_ptr, binOp, hp]
theorem eqGuard_bool {op : BinOp} {T : TypeId} {x y : Operand} {p q : Bool} (w : World) : (eqGuard op T x y (.bool p) (.bool q)).run P w = .ok () w := by
  unfold eqGuard; cases op <;> simp
theorem run_equalIn_bool (d : Nat) (T : TypeId) (h : P.underlying T = some .bool) (p q : Bool) (w : World) : (Op.equalIn (d + 1) T (.bool p) (.bool q)).run P w = .ok (p == q) w := by
  simp [Op.equalIn, run_underlying h]
theorem w_bool (ht : Tab P tt) {b : Bool} {T T2 : TypeId} {x y : Operand} (ho : o.op = .binOp (if b then .eql else .neq) T x y T2) {t : TI} (h1 : tt T = some t) (h2 : t.bool = true) {p q : Bool} (hx : s.ev x = .v (.bool p)) (hy : s.ev y = .v (.bool q)) : Step P o (locO x ++ locO y) ⟨o.dst, .v (.bool (if b then p == q else !(p == q))), []⟩ s :=
  step_value fun g σ f ac w hA hR => by
    have e1 := ev_v hR hA.left hx
    have e2 := ev_v hR hA.right hy
    refine ⟨_, ?_, .v _⟩
    have hp : (Op.equal T (.bool p) (.bool q)).run P w = .ok (p == q) w := run_equalIn_bool 9999 T ((ht T t h1).bl h2) p q w
    cases b <;> simp [execOp, ho, e1, e2, Sem.run_bind, eqGuard_bool, binOp, hp]
theorem w_max {x y : Operand} {ts : Array TypeId} (ho : o.op = .call { callee := .builtin .max, args := #[x, y], argTypes := ts }) {k : IntKind} {a b : Int} (hx : s.ev x = .v (.int k a)) (hy : s.ev y = .v (.int k b)) {c : Int} (hc : (if a < b then b else a) = c) : Step P o (locO x ++ locO y) ⟨o.dst, .v (.int k c), []⟩ s :=
  step_value fun g σ f ac w hA hR => by
    subst hc
    have e1 := ev_v hR hA.left hx
    have e2 := ev_v hR hA.right hy
    refine ⟨.int k (if a < b then b else a), ?_, .v _⟩
    rw [execOp_builtin ho]
    by_cases hlt : a < b <;> simp [builtin, Builtin.max_, Builtin.max2, e1, e2, hlt]
theorem w_min {x y : Operand} {ts : Array TypeId} (ho : o.op = .call { callee := .builtin .min, args := #[x, y], argTypes := ts }) {k : IntKind} {a b : Int} (hx : s.ev x = .v (.int k a)) (hy : s.ev y = .v (.int k b)) {c : Int} (hc : (if b < a then b else a) = c) : Step P o (locO x ++ locO y) ⟨o.dst, .v (.int k c), []⟩ s :=
  step_value fun g σ f ac w hA hR => by
    subst hc
    have e1 := ev_v hR hA.left hx
    have e2 := ev_v hR hA.right hy
    refine ⟨.int k (if b < a then b else a), ?_, .v _⟩
    rw [execOp_builtin ho]
    by_cases hlt : b < a <;> simp [builtin, Builtin.min_, Builtin.min2, e1, e2, hlt]
theorem w_makeSlice (ht : Tab P tt) {T e : TypeId} {x y : Operand} (ho : o.op = .makeSlice T x y) {t : TI} (h1 : tt T = some t) (h2 : t.elem = some e) {u : TI} (h3 : tt e = some u) (id : Nat) {k : IntKind} {n : Int}
    (hx : s.ev x = .v (.int k n)) (hy : s.ev y = .v (.int k n)) (h0 : 0 ≤ n) (hb : (u.bytes : Int) * n ≤ 281474976710656) (h63 : n ≤ 9223372036854775807) (hm0 : 0 < u.size) (hid : s.obj id = .never) {q : Nat} (hq : n.toNat = q) :
    Step P o (locO x ++ locO y ++ [.obj id]) ⟨o.dst, .own id 0 q, [(id, .ob ⟨u.size, List.replicate q u.zero, false⟩)]⟩ s := by
  subst hq
  have hsl := (ht T t h1).sl h2
  obtain ⟨d, i, z, g1, g2, g3, g4, g5, g6, g7, g8, _⟩ := ht e u h3
  have := step_makeSlice (P := P) (s := s) ho hsl g2 g3 hx hy h0 (by rw [g6]; exact hb) h63 (by rw [g8, g5]) g5 hm0 hid
  rwa [g7] at this

/-! ### A struct of parts -/
def afill (places : List (Nat × Nat)) (cells : List SV) : List (Nat × List SV) → Option (List SV)
  | [] => some cells
  | (i, cs) :: rest => match places[i]? with
    | none => none
    | some (off, size) => if cs.length = size ∧ off + cs.length ≤ cells.length then afill places (owr cells off cs) rest else none
theorem foldl_owr : ∀ (vs : List Value) (k off : Nat) (cells : Array Value), ((vs.zipIdx k).foldl (fun cs (p : Value × Nat) => cs.setIfInBounds (off + p.2) p.1) cells).toList = owr cells.toList (off + k) vs
  | [], k, off, cells => rfl
  | v :: vs, k, off, cells => by
    rw [List.zipIdx_cons, List.foldl_cons, foldl_owr vs (k + 1) off, owr]
    simp [Nat.add_assoc]
theorem fill_rep {g : Gh} {H : Array Go.Obj} {places : List (Nat × Nat)} : ∀ (parts : List (Nat × Value)) (ps : List (Nat × List SV)) (cells : Array Value) (ss out : List SV), parts.map (·.1) = ps.map (·.1) →
    (∀ (k : Nat) (p : Nat × Value) (q : Nat × List SV), parts[k]? = some p → ps[k]? = some q → RepL g H p.2.cells.toList q.2) → RepL g H cells.toList ss → afill places ss ps = some out →
    ∃ cells', Instr.fill (places[·]?) cells parts = some cells' ∧ RepL g H cells'.toList out
  | [], [], cells, ss, out, _, _, hs, hf => by
    cases hf
    exact ⟨cells, rfl, hs⟩
  | (i, v) :: parts, (i', cs) :: ps, cells, ss, out, hm, hp, hs, hf => by
    simp only [List.map_cons, List.cons.injEq] at hm
    obtain ⟨rfl, hm⟩ := hm
    have h0 := hp 0 (i, v) (i, cs) rfl rfl
    unfold afill at hf
    unfold Instr.fill
    cases hq : places[i]? with
    | none => rw [hq] at hf; cases hf
    | some p =>
      obtain ⟨off, size⟩ := p
      rw [hq] at hf
      dsimp only at hf ⊢
      split at hf
      case isFalse => cases hf
      case isTrue hc =>
        have hlen := h0.length
        have hls := hs.length
        simp only [Array.length_toList] at hlen hls
        have e1 : v.cells.size = size := by rw [← hc.1]; simpa using hlen
        have e2 : off + v.cells.size ≤ cells.size := by rw [e1, ← hc.1]; omega
        rw [if_neg (by simp [e1]; omega)]
        refine fill_rep parts ps _ (owr ss off cs) out hm (fun k p q h1 h2 => hp (k + 1) p q (by simpa using h1) (by simpa using h2)) ?_ hf
        rw [← Array.foldl_toList]
        have := foldl_owr v.cells.toList 0 off cells
        simp only [Array.toList_zipIdx] at this ⊢
        rw [this]
        exact RepL.owr h0 hs off
  | [], _ :: _, _, _, _, hm, _, _, _ => by cases hm
  | _ :: _, [], _, _, _, hm, _, _, _ => by cases hm
def places (tt : Nat → Option TI) (t : TI) : Option (List (Nat × Nat)) := t.flds.mapM fun p => (tt p.2).map fun u => (p.1, u.size)
theorem places_ok (ht : Tab P tt) : ∀ (fs : List Field) (fl : List (Nat × Nat)) (pl : List (Nat × Nat)), fs.map (fun f => (f.offset, f.type)) = fl → fl.mapM (fun p => (tt p.2).map fun u => (p.1, u.size)) = some pl → fs.mapM (fun f => (P.info? f.type).map fun i => (f.offset, i.size)) = some pl
  | [], _, pl, rfl, h => h
  | f :: fs, _, pl, rfl, h => by
    simp only [List.map_cons, List.mapM_cons, Option.bind_eq_bind, Option.pure_def] at h ⊢
    cases hq : tt f.type with
    | none => simp [hq] at h
    | some u =>
      have hs := (ht _ u hq).sz
      cases hi : P.info? f.type with
      | none => simp [hi] at hs
      | some i =>
        simp only [hi, Option.map_some, Option.some.injEq] at hs
        simp only [hq, Option.map_some, Option.bind_some] at h
        cases hr : (fs.map fun f => (f.offset, f.type)).mapM (fun p => (tt p.2).map fun u => (p.1, u.size)) with
        | none => simp [hr] at h
        | some rest =>
          have ih := places_ok ht fs _ rest rfl hr
          simp only [hr, Option.bind_some, Option.some.injEq] at h
          subst h
          simp [hi, ih, hs]
def evParts (s : St) (parts : Array (Nat × Operand)) : List (Nat × List SV) := parts.toList.map fun p => (p.1, (s.ev p.2).cells)
def locP (parts : Array (Nat × Operand)) : List Loc := locs (parts.toList.map (·.2))
theorem w_build (ht : Tab P tt) {T : TypeId} {parts : Array (Nat × Operand)} (ho : o.op = .build T parts) {t : TI} (h1 : tt T = some t) (h0 : t.flds ≠ []) {pl : List (Nat × Nat)} (h2 : places tt t = some pl) {out : List SV} (hf : afill pl t.zero (evParts s parts) = some out) :
    Step P o (locP parts) ⟨o.dst, .agg out, []⟩ s :=
  step_value fun g σ f ac w hA hR => by
    obtain ⟨d, i, z, g1, g2, g3, g4, g5, g6, g7, g8, g9, _⟩ := ht T t h1
    obtain ⟨fs, rfl, hfs⟩ := g9 h0
    have hpl := places_ok ht fs.toList t.flds pl hfs h2
    have hrep := repL_ev hR (parts.toList.map (·.2))
    rw [map_ev_agree hA] at hrep
    have hps : ∀ (k : Nat) (p : Nat × Value) (q : Nat × List SV), (parts.map fun (i, x) => (i, ac.eval x)).toList[k]? = some p → (evParts s parts)[k]? = some q → RepL g w.heap p.2.cells.toList q.2 := fun k p q hp hq => by
      simp only [Array.toList_map, List.getElem?_map] at hp
      simp only [evParts, List.getElem?_map] at hq
      cases hk : parts.toList[k]? with
      | none => rw [hk] at hp; cases hp
      | some x =>
        rw [hk] at hp hq
        cases hp
        cases hq
        obtain ⟨v, hv, hr⟩ := hrep.get k (s.ev x.2) (by simp only [List.getElem?_map, hk, Option.map_some])
        simp only [List.getElem?_map, hk, Option.map_some, Option.some.injEq] at hv
        rw [← hv] at hr
        exact hr.cells
    obtain ⟨cells', hc, hr⟩ := fill_rep (places := pl) (parts.map fun (i, x) => (i, ac.eval x)).toList (evParts s parts) z.cells t.zero out (by simp [evParts]) hps (by rw [← g7]; exact repL_v _) hf
    have hb : P.built T (parts.map fun (i, x) => (i, ac.eval x)).toList = some cells' := by
      unfold Program.built
      simp only [g1, g2, g3, hpl]
      rw [← hc]
      congr 1
      funext k
      simp
    refine ⟨.agg cells', ?_, .agg hr⟩
    simp only [execOp, ho, Sem.run_bind, run_build w T _ cells' hb, Result.andThen_ok]
    rfl
end
end Go.Proofs.YtcbbpidnocgoiaaDoor.Eng

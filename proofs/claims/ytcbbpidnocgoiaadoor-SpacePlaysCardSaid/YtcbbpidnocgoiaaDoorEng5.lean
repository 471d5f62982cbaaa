/- Rows as lists: they are read, cut, appended to. -/
import Derived.Test.YtcbbpidnocgoiaaDoorEng4
namespace Go.Proofs.YtcbbpidnocgoiaaDoor.Eng
open Go Go.RowKit
set_option linter.unusedVariables false
set_option linter.unusedSimpArgs false

theorem take_get0 {α : Type} {l : List α} {n k : Nat} {x : α} (h : (l.take n)[k]? = some x) : l[k]? = some x := by
  rw [List.getElem?_take] at h
  split at h
  · exact h
  · cases h
/-- What list a slot's slice is, and which objects tell it. -/
inductive LstOf (s : St) : SV → Nat → List (List SV) → List Loc → Prop where
  | own {id lo len : Nat} {ob : Ob} {rows : List (List SV)} (h : s.obj id = .ob ob) (hr : (ob.rows.drop lo).take len = rows) (hl : rows.length = len) : LstOf s (.own id lo len) ob.m rows [.obj id]
  | lst {m : Nat} {rows : List (List SV)} : LstOf s (.lst m rows) m rows []
  | nil {m : Nat} : LstOf s (.v (.slice none 0 0)) m [] []
theorem LstOf.agree {s σ : St} {sv : SV} {m : Nat} {rows : List (List SV)} {L : List Loc} (h : LstOf s sv m rows L) (hA : Agree L s σ) : LstOf σ sv m rows L := by
  cases h with
  | own h hr hl => exact .own (by rw [hA.2 _ (List.mem_singleton.2 rfl)]; exact h) hr hl
  | lst => exact .lst
  | nil => exact .nil
/-- The cells that a list's rows lie in. -/
structure LstAt (g : Gh) (w : World) (x : Value) (m : Nat) (rows : List (List SV)) (vs : List Value) : Prop where
  ex : ∃ A c, x = .slice A rows.length c ∧ ∀ j u, vs[j]? = some u → ∃ b off, A = some ⟨b, off, none⟩ ∧ w.cell? ⟨b, off + j, none⟩ = some u
  len : vs.length = rows.length * m
  rep : RepR g w.heap vs m rows
theorem ObRep.cells {g : Gh} {w : World} {id : Nat} {o : Ob} (h : ObRep g w.heap id o) (lo len : Nat) {rows : List (List SV)} (hr : (o.rows.drop lo).take len = rows) (hl : rows.length = len) :
    ∃ b vs, g.β id = some b ∧ vs.length = len * o.m ∧ RepR g w.heap vs o.m rows ∧ (∀ j u, vs[j]? = some u → w.cell? ⟨b, g.o0 id + lo * g.mm id + j, none⟩ = some u) := by
  obtain ⟨⟨b, cs, T, fr, k1, k2, k3, _⟩, k7⟩ := h
  have hlen := k3.len
  have hlr : lo + len ≤ o.rows.length ∨ len = 0 := by
    have := congrArg List.length hr
    rw [List.length_take, List.length_drop, hl] at this
    omega
  have hle : lo ≤ o.rows.length ∨ len = 0 := by omega
  rcases Nat.eq_zero_or_pos len with h0 | hpos
  · subst h0
    have : rows = [] := List.eq_nil_of_length_eq_zero hl
    subst this
    exact ⟨b, [], k1, by simp, .nil, fun j u hj => by simp at hj⟩
  have hlr : lo + len ≤ o.rows.length := by omega
  have hd := (k3.drop lo (by omega)).take len
  rw [hr] at hd
  have hmul : (lo + len) * o.m ≤ o.rows.length * o.m := Nat.mul_le_mul_right _ hlr
  rw [Nat.add_mul] at hmul
  have hcut := RepR.left hd (len * o.m) (by rw [hl]; exact Nat.le_refl _)
  refine ⟨b, _, k1, ?_, hcut, fun j u hj => ?_⟩
  · rw [List.length_take, List.length_drop]
    omega
  · have hj := take_get0 hj
    rw [List.getElem?_drop, List.getElem?_drop] at hj
    rw [cell_of k2, k7]
    simpa [Nat.add_assoc] using hj
theorem LstOf.at {f : Fr} {g : Gh} {s : St} {a : Act} {w : World} (hR : Rel f g s a w) {x : Value} {sv : SV} {m : Nat} {rows : List (List SV)} {L : List Loc} (h : LstOf s sv m rows L) (hx : Rep g w.heap x sv) :
    ∃ vs, LstAt g w x m rows vs := by
  cases h with
  | @own id lo len ob rows h hr hl =>
    obtain ⟨b, vs, hb, hvl, hrep, hcell⟩ := (hR.ob id ob h).cells lo len hr hl
    cases hx with
    | own hb' hlc hH hc =>
      rw [hb] at hb'
      obtain rfl := Option.some.inj hb'
      exact ⟨vs, ⟨_, _, by rw [hl], fun j u hj => ⟨_, _, rfl, hcell j u hj⟩⟩, by rw [hvl, hl], hrep⟩
  | lst =>
    cases hx with
    | nil => exact ⟨[], ⟨_, _, rfl, fun j u hj => by simp at hj⟩, by simp, .nil⟩
    | @lst m b off n cap rows cs T fr hn hF hH hl hc hr =>
      have hle : rows.length * m ≤ cap * m := Nat.mul_le_mul_right _ (by omega)
      refine ⟨(cs.toList.drop off).take (rows.length * m), ⟨_, _, by rw [hn], fun j u hj => ⟨_, _, rfl, ?_⟩⟩, ?_, RepR.left hr _ (Nat.le_refl _)⟩
      · have hj := take_get0 hj
        rw [List.getElem?_drop] at hj
        rw [cell_of hH]
        simpa using hj
      · have hcs : cs.toList.length = cs.size := Array.length_toList
        rw [List.length_take, List.length_drop]
        omega
  | nil =>
    obtain rfl := rep_v hx
    exact ⟨[], ⟨none, 0, rfl, fun j u hj => by simp at hj⟩, by simp, .nil⟩

section
variable {P : Program} {o : Oper} {s : St}
theorem execOp_builtin {b : Builtin} {xs : Array Operand} {ts : Array TypeId} (ho : o.op = .call { callee := .builtin b, args := xs, argTypes := ts }) (ρ : Operand → Value) (w : World) :
    (execOp ρ o).run P w = (builtin b ts o.type (xs.map fun | .const _ => true | _ => false) (xs.map ρ)).run P w := by
  simp only [execOp, ho, resolve, invoke]
  rfl
/-- How many elements. -/
theorem step_len {x : Operand} {T e : TypeId} (ho : o.op = .call { callee := .builtin .len, args := #[x], argTypes := #[T] }) (hu : P.underlying T = some (.slice e)) {m : Nat} {rows : List (List SV)} {L : List Loc}
    (hx : LstOf s (s.ev x) m rows L) : Step P o (locO x ++ L) ⟨o.dst, .v (.int .i64 (rows.length : Int)), []⟩ s :=
  step_value fun g σ f a w hA hR => by
    have h1 := hR.ev x
    rw [ev_agree hA.left] at h1
    obtain ⟨vs, ⟨⟨A, c, he, _⟩, _, _⟩⟩ := LstOf.at hR (hx.agree hA.right) h1
    refine ⟨_, ?_, .v _⟩
    rw [execOp_builtin ho]
    simp [builtin, Builtin.len_, he, run_underlying hu, goInt]
/-- The address of a field. -/
theorem run_fieldAt {T : TypeId} {fs : Array Field} {k : Nat} {fl : Field} (hu : P.underlying T = some (.struct fs)) (hk : fs[k]? = some fl) {n : Nat} (hn : (P.info? fl.type).map (·.size) = some n) (hn0 : n ≠ 0) (b off : Nat) (w : World) :
    (Instr.fieldAt T (.pointer (some ⟨b, off, none⟩)) k).run P w = .ok (.pointer (some ⟨b, off + fl.offset, none⟩)) w := by
  cases hq : P.info? fl.type with
  | none => simp [hq] at hn
  | some i =>
    have hs : i.size = n := by simpa [hq] using hn
    simp [Instr.fieldAt, run_underlying hu, hk, Instr.sureAddr, fieldPlace, sizeOf, typeInfo, hq, hs, hn0, Addr.add_mid]
theorem step_fieldAddr {T : TypeId} {x : Operand} {k : Nat} {fs : Array Field} {fl : Field} (ho : o.op = .fieldAddr T x k) (hu : P.underlying T = some (.struct fs)) (hk : fs[k]? = some fl) {n : Nat} (hn : (P.info? fl.type).map (·.size) = some n) (hn0 : n ≠ 0)
    {id i j : Nat} (hx : s.ev x = .ref id i j) : Step P o (locO x) ⟨o.dst, .ref id i (j + fl.offset), []⟩ s :=
  step_value fun g σ f a w hA hR => by
    have h1 := hR.ev x
    rw [ev_agree hA, hx] at h1
    obtain ⟨b, hb, he⟩ := rep_ref h1
    refine ⟨.pointer (some ⟨b, g.o0 id + (i * g.mm id + (j + fl.offset)), none⟩), ?_, .ref hb⟩
    have hf := run_fieldAt hu hk hn hn0 b (g.o0 id + (i * g.mm id + j)) w
    rw [show g.o0 id + (i * g.mm id + j) + fl.offset = g.o0 id + (i * g.mm id + (j + fl.offset)) by omega] at hf
    simp only [execOp, ho, he]
    simp [Sem.run_bind, hf]
theorem step_fieldAddr_elt {T : TypeId} {x : Operand} {k : Nat} {fs : Array Field} {fl : Field} (ho : o.op = .fieldAddr T x k) (hu : P.underlying T = some (.struct fs)) (hk : fs[k]? = some fl) {n : Nat} (hn : (P.info? fl.type).map (·.size) = some n) (hn0 : n ≠ 0)
    {cells : List SV} {j : Nat} (hx : s.ev x = .elt cells j) : Step P o (locO x) ⟨o.dst, .elt cells (j + fl.offset), []⟩ s :=
  step_value fun g σ f a w hA hR => by
    have h1 := hR.ev x
    rw [ev_agree hA, hx] at h1
    generalize he : a.eval x = v at h1
    cases h1 with
    | @elt b off _ _ cs T' fr hF hH hj hr =>
      have hf := run_fieldAt hu hk hn hn0 b (off + j) w
      refine ⟨.pointer (some ⟨b, off + (j + fl.offset), none⟩), ?_, .elt hF hH hj hr⟩
      rw [Nat.add_assoc] at hf
      simp only [execOp, ho, he]
      simp [Sem.run_bind, hf]
/-- A field of a value. -/
theorem step_field {T : TypeId} {x : Operand} {k : Nat} {fs : Array Field} {fl : Field} {d : TypeDesc} (ho : o.op = .field T x k) (hu : P.underlying T = some (.struct fs)) (hk : fs[k]? = some fl) (hd : P.underlying fl.type = some d) (hrow : d.isRow = false)
    {cells : List SV} {sv : SV} (hx : s.ev x = .agg cells) (hj : cells[fl.offset]? = some sv) : Step P o (locO x) ⟨o.dst, sv, []⟩ s :=
  step_value fun g σ f a w hA hR => by
    have h1 := hR.ev x
    rw [ev_agree hA, hx] at h1
    generalize he : a.eval x = v at h1
    cases h1 with
    | @agg vs _ h =>
      obtain ⟨y, hy, hRy⟩ := h.get _ _ hj
      refine ⟨y, ?_, hRy⟩
      have hagg : (isAgg fl.type).run P w = .ok false w := by
        unfold isAgg
        rw [Sem.run_bind, run_underlying hd w]
        cases d <;> simp_all
      have hy' : vs[fl.offset]? = some y := by simpa using hy
      simp only [execOp, ho, he]
      simp [Instr.field, run_underlying hu, hk, asAgg, part, Sem.run_bind, hagg, hy']
theorem step_fields {T : TypeId} {x : Operand} {k : Nat} {fs : Array Field} {fl : Field} {d : TypeDesc} (ho : o.op = .field T x k) (hu : P.underlying T = some (.struct fs)) (hk : fs[k]? = some fl) (hd : P.underlying fl.type = some d) (hrow : d.isRow = true)
    {n : Nat} (hn : (P.info? fl.type).map (·.size) = some n) {cells cs' : List SV} (hx : s.ev x = .agg cells) (hj : (cells.drop fl.offset).take n = cs') : Step P o (locO x) ⟨o.dst, .agg cs', []⟩ s :=
  step_value fun g σ f a w hA hR => by
    have h1 := hR.ev x
    rw [ev_agree hA, hx] at h1
    generalize he : a.eval x = v at h1
    cases h1 with
    | @agg vs _ h =>
      have hagg : (isAgg fl.type).run P w = .ok true w := by
        unfold isAgg
        rw [Sem.run_bind, run_underlying hd w]
        cases d <;> simp_all
      cases hq : P.info? fl.type with
      | none => simp [hq] at hn
      | some i =>
        have hs : i.size = n := by simpa [hq] using hn
        refine ⟨.agg (vs.extract fl.offset (fl.offset + n)), ?_, .agg ?_⟩
        · simp only [execOp, ho, he]
          simp [Instr.field, run_underlying hu, hk, asAgg, part, Sem.run_bind, hagg, sizeOf, typeInfo, hq, hs]
        · rw [← hj]
          have := (h.drop fl.offset).take n
          rw [Array.toList_extract, List.extract_eq_take_drop, Nat.add_sub_cancel_left]
          exact this
/-- The address of an element. -/
theorem run_indexAt_in {T e : TypeId} (hu : P.underlying T = some (.slice e)) {m : Nat} (hm : (P.info? e).map (·.size) = some m) {b off len cap : Nat} {k : IntKind} {i : Int} (h0 : 0 ≤ i) (h1 : i < len) (w : World) :
    (Instr.indexAt T (.slice (some ⟨b, off, none⟩) len cap) (.int k i)).run P w = .ok (.pointer (some ⟨b, off + i.toNat * m, none⟩)) w := by
  cases hq : P.info? e with
  | none => simp [hq] at hm
  | some q =>
    have hs : q.size = m := by simpa [hq] using hm
    simp [Instr.indexAt, asIntOf, run_underlying hu, sizeOf, typeInfo, hq, hs, h0, h1, Addr.add_mid]
theorem step_index_own {T e : TypeId} {x y : Operand} (ho : o.op = .indexAddr T x y) (hu : P.underlying T = some (.slice e)) {m : Nat} (hm : (P.info? e).map (·.size) = some m) {id lo len : Nat} {ob : Ob} {k : IntKind} {i : Int}
    (hx : s.ev x = .own id lo len) (hob : s.obj id = .ob ob) (hom : ob.m = m) (hy : s.ev y = .v (.int k i)) (h0 : 0 ≤ i) (h1 : i < len) : Step P o (locO x ++ locO y ++ [.obj id]) ⟨o.dst, .ref id (lo + i.toNat) 0, []⟩ s :=
  step_value fun g σ f a w hA hR => by
    have hx1 := hR.ev x
    rw [ev_agree hA.left.left, hx] at hx1
    have hy1 := ev_v hR hA.left.right hy
    have hmm := (hR.ob id ob (by rw [agree_obj hA]; exact hob)).mm
    generalize he : a.eval x = v at hx1
    cases hx1 with
    | @own _ _ _ cap b cs T' fr hb hl hH hc =>
      refine ⟨.pointer (some ⟨b, g.o0 id + ((lo + i.toNat) * g.mm id + 0), none⟩), ?_, .ref hb⟩
      have hrun := run_indexAt_in hu hm (b := b) (off := g.o0 id + lo * g.mm id) (len := len) (cap := cap) (k := k) h0 h1 w
      rw [show g.o0 id + lo * g.mm id + i.toNat * m = g.o0 id + ((lo + i.toNat) * g.mm id + 0) by rw [hmm, hom, Nat.add_mul]; omega] at hrun
      simp only [execOp, ho, he, hy1]
      simp [Sem.run_bind, hrun]
theorem step_index_lst {T e : TypeId} {x y : Operand} (ho : o.op = .indexAddr T x y) (hu : P.underlying T = some (.slice e)) {m : Nat} (hm : (P.info? e).map (·.size) = some m) {rows : List (List SV)} {r : List SV} {k : IntKind} {i : Int}
    (hx : s.ev x = .lst m rows) (hy : s.ev y = .v (.int k i)) (h0 : 0 ≤ i) (hr : rows[i.toNat]? = some r) : Step P o (locO x ++ locO y) ⟨o.dst, .elt r 0, []⟩ s :=
  step_value fun g σ f a w hA hR => by
    have hx1 := hR.ev x
    rw [ev_agree hA.left, hx] at hx1
    have hy1 := ev_v hR hA.right hy
    have hlt : i.toNat < rows.length := (List.getElem?_eq_some_iff.1 hr).1
    have h1 : i < (rows.length : Int) := by omega
    generalize he : a.eval x = v at hx1
    cases hx1 with
    | nil => simp at hr
    | @lst _ b off n cap _ cs T' fr hn hF hH hl hc hrr =>
      have hrun := run_indexAt_in hu hm (b := b) (off := off) (len := n) (cap := cap) (k := k) h0 (by omega) w
      obtain ⟨hrl, hrep⟩ := hrr.get _ _ hr
      have hmul : (i.toNat + 1) * m ≤ cap * m := Nat.mul_le_mul_right _ (by omega)
      rw [Nat.succ_mul] at hmul
      rw [List.drop_drop] at hrep
      refine ⟨.pointer (some ⟨b, off + i.toNat * m + 0, none⟩), ?_, .elt hF hH (by rw [hrl]; omega) (by rw [hrl]; exact hrep)⟩
      simp only [execOp, ho, he, hy1]
      simp [Sem.run_bind, hrun]
theorem step_nilCheck {x : Operand} (ho : o.op = .nilCheck x) {id i j : Nat} (hx : s.ev x = .ref id i j) : Step P o (locO x) ⟨o.dst, .ref id i j, []⟩ s :=
  step_value fun g σ f a w hA hR => by
    have h1 := hR.ev x
    rw [ev_agree hA, hx] at h1
    obtain ⟨b, hb, he⟩ := rep_ref h1
    exact ⟨a.eval x, by simp [execOp, ho, he], h1⟩
theorem step_nilCheck_elt {x : Operand} (ho : o.op = .nilCheck x) {cells : List SV} {j : Nat} (hx : s.ev x = .elt cells j) : Step P o (locO x) ⟨o.dst, .elt cells j, []⟩ s :=
  step_value fun g σ f a w hA hR => by
    have h1 := hR.ev x
    rw [ev_agree hA, hx] at h1
    obtain ⟨b, off, he, _⟩ := rep_elt h1
    exact ⟨a.eval x, by simp [execOp, ho, he], h1⟩
theorem step_extract {x : Operand} {k : Nat} (ho : o.op = .extract x k) {vs : List SV} {sv : SV} (hx : s.ev x = .tup vs) (hk : vs[k]? = some sv) : Step P o (locO x) ⟨o.dst, sv, []⟩ s :=
  step_value fun g σ f a w hA hR => by
    have h1 := hR.ev x
    rw [ev_agree hA, hx] at h1
    generalize he : a.eval x = v at h1
    cases h1 with
    | @tup vs' _ h =>
      obtain ⟨y, hy, hRy⟩ := h.get _ _ hk
      have hy' : vs'[k]? = some y := by simpa using hy
      refine ⟨y, ?_, hRy⟩
      simp only [execOp, ho, he]
      simp [Instr.extract, hy']
end
end Go.Proofs.YtcbbpidnocgoiaaDoor.Eng

/- Parts of strings and slices. -/
import Derived.Test.YtcbbpidnocgoiaaDoorEng17
import Derived.Laws.Slices
namespace Go.Proofs.YtcbbpidnocgoiaaDoor.Eng
open Go Go.RowKit
set_option linter.unusedVariables false
set_option linter.unusedSimpArgs false
def bndV : Option Value → Nat → Nat → Prop
  | none, d, n => n = d
  | some v, _, n => ∃ k, v = .int k (n : Int)
section
variable {P : Program} {tt : Nat → Option TI} {o : Oper} {s : St}
theorem run_bounds {isS : Bool} {len cap l h : Nat} {low high : Option Value} (hh : bndV high len h) (hl : bndV low 0 l) (h1 : l ≤ h) (h2 : h ≤ cap) (w : World) : (Instr.sliceBounds isS len cap low high none).run P w = .ok (l, h, cap) w := by
  cases high with
  | none =>
    obtain rfl : h = len := hh
    cases low with
    | none =>
      obtain rfl : l = 0 := hl
      simp [Instr.sliceBounds]
    | some v =>
      obtain ⟨k, rfl⟩ := hl
      have := run_sliceBound (P := P) (w := w) k (l : Int) h (if (none : Option Value).isSome then .slice3C else .sliceB) (by omega) (by omega)
      simp [Instr.sliceBounds, run_sliceBound, h1]
  | some u =>
    obtain ⟨k2, rfl⟩ := hh
    cases low with
    | none =>
      obtain rfl : l = 0 := hl
      simp [Instr.sliceBounds, run_sliceBound, h2]
    | some v =>
      obtain ⟨k, rfl⟩ := hl
      simp [Instr.sliceBounds, run_sliceBound, h2, h1]
/-- A bound that an operand tells. -/
def bndO (s : St) : Option Operand → Nat → Nat → Prop
  | none, d, n => n = d
  | some x, _, n => ∃ k, s.ev x = .v (.int k (n : Int))
def locB : Option Operand → List Loc
  | none => []
  | some x => locO x
theorem bndO.val {x : Option Operand} {d n : Nat} (h : bndO s x d n) {f : Fr} {g : Gh} {σ : St} {a : Act} {w : World} (hA : Agree (locB x) s σ) (hR : Rel f g σ a w) : bndV (x.map a.eval) d n := by
  cases x with
  | none => exact h
  | some x =>
    obtain ⟨k, hk⟩ := h
    exact ⟨k, ev_v hR hA hk⟩
theorem w_cut_str {T : TypeId} (hT : P.underlying T = some .string) {x : Operand} {lo hi : Option Operand} (ho : o.op = .slice T x lo hi none) {b : ByteArray} (hx : s.ev x = .v (.string b)) (l h : Nat) (hl : bndO s lo 0 l) (hh : bndO s hi b.size h) (h1 : l ≤ h) (h2 : h ≤ b.size) {c : ByteArray} (hc : b.extract l h = c) :
    Step P o (locO x ++ locB lo ++ locB hi) ⟨o.dst, .v (.string c), []⟩ s :=
  step_value fun g σ f ac w hA hR => by
    subst hc
    have e1 := ev_v hR hA.left.left hx
    refine ⟨_, ?_, .v _⟩
    have hb := run_bounds (P := P) (isS := false) (hh.val hA.right hR) (hl.val hA.left.right hR) h1 h2 w
    simp only [execOp, ho, e1]
    simp [Instr.sliceAt, Instr.slice, run_underlying hT, hb]
theorem w_cut_own (ht : Tab P tt) {T e : TypeId} {x : Operand} {lo hi : Option Operand} (ho : o.op = .slice T x lo hi none) {t : TI} (h1 : tt T = some t) (h2 : t.elem = some e) {u : TI} (h3 : tt e = some u) {id lo0 len : Nat} {ob : Ob} (hx : s.ev x = .own id lo0 len) (hob : s.obj id = .ob ob) (hm : ob.m = u.size)
    (l h : Nat) (hl : bndO s lo 0 l) (hh : bndO s hi len h) (h4 : l < h) (h5 : h ≤ len) {a n : Nat} (ha : lo0 + l = a) (hn : h - l = n) :
    Step P o (locO x ++ locB lo ++ locB hi ++ [.obj id]) ⟨o.dst, .own id a n, []⟩ s :=
  step_value fun g σ f ac w hA hR => by
    subst ha hn
    have e1 := hR.ev x
    rw [ev_agree hA.left.left.left, hx] at e1
    have hob' : σ.obj id = .ob ob := by rw [agree_obj hA]; exact hob
    have hmm := (hR.ob id ob hob').mm
    generalize hX : ac.eval x = X at e1
    have hsl := (ht T t h1).sl h2
    obtain ⟨ie, hie, hsz⟩ := Option.map_eq_some_iff.1 (ht e u h3).sz
    cases e1 with
    | @own _ _ _ cap b cs T1 fr hb hlc hH hcap =>
      have hbd := run_bounds (P := P) (isS := true) (hh.val hA.left.right hR) (hl.val hA.left.left.right hR) (Nat.le_of_lt h4) (Nat.le_trans h5 hlc) w
      refine ⟨.slice (some ⟨b, g.o0 id + (lo0 + l) * g.mm id, none⟩) (h - l) (cap - l), ?_, ?_⟩
      · simp only [execOp, ho, hX]
        have hne : ¬ cap = l := by omega
        have hoff : g.o0 id + lo0 * g.mm id + l * ie.size = g.o0 id + (lo0 + l) * g.mm id := by rw [hsz, ← hm, ← hmm, Nat.add_mul]; omega
        simp [Instr.sliceAt, Instr.slice, run_underlying hsl, hbd, sizeOf, typeInfo, hie, hne, addr_add, hoff]
      · refine .own hb (by omega) hH ?_
        have : lo0 + l + (cap - l) = lo0 + cap := by omega
        rw [this]
        exact hcap
theorem w_cut_own_none (ht : Tab P tt) {T e : TypeId} {x : Operand} {lo hi : Option Operand} (ho : o.op = .slice T x lo hi none) {t : TI} (h1 : tt T = some t) (h2 : t.elem = some e) {u : TI} (h3 : tt e = some u) {id lo0 len : Nat} (hx : s.ev x = .own id lo0 len)
    (l : Nat) (hl : bndO s lo 0 l) (hh : bndO s hi len l) (h5 : l ≤ len) :
    Step P o (locO x ++ locB lo ++ locB hi) ⟨o.dst, .lst u.size [], []⟩ s :=
  step_value fun g σ f ac w hA hR => by
    have e1 := hR.ev x
    rw [ev_agree hA.left.left, hx] at e1
    generalize hX : ac.eval x = X at e1
    have hsl := (ht T t h1).sl h2
    obtain ⟨ie, hie, hsz⟩ := Option.map_eq_some_iff.1 (ht e u h3).sz
    cases e1 with
    | @own _ _ _ cap b cs T1 fr hb hlc hH hcap =>
      have hbd := run_bounds (P := P) (isS := true) (hh.val hA.right hR) (hl.val hA.left.right hR) (Nat.le_refl _) (Nat.le_trans h5 hlc) w
      refine ⟨.slice (if cap = l then some ⟨b, g.o0 id + lo0 * g.mm id, none⟩ else some ((⟨b, g.o0 id + lo0 * g.mm id, none⟩ : Addr).add (l * ie.size))) 0 (cap - l), ?_, .nil⟩
      simp only [execOp, ho, hX]
      simp [Instr.sliceAt, Instr.slice, run_underlying hsl, hbd, sizeOf, typeInfo, hie]
/-- A part of a row that is never written. -/
theorem w_cut_lst (ht : Tab P tt) {T e : TypeId} {x : Operand} {lo hi : Option Operand} (ho : o.op = .slice T x lo hi none) {t : TI} (h1 : tt T = some t) (h2 : t.elem = some e) {u : TI} (h3 : tt e = some u) {m : Nat} {rows : List (List SV)} (hx : s.ev x = .lst m rows) (hm : m = u.size)
    (l h : Nat) (hl : bndO s lo 0 l) (hh : bndO s hi rows.length h) (h4 : l ≤ h) (h5 : h ≤ rows.length) {r : List (List SV)} (hr : (rows.drop l).take (h - l) = r) :
    Step P o (locO x ++ locB lo ++ locB hi) ⟨o.dst, .lst m r, []⟩ s :=
  step_value fun g σ f ac w hA hR => by
    subst hr hm
    have e1 := hR.ev x
    rw [ev_agree hA.left.left, hx] at e1
    generalize hX : ac.eval x = X at e1
    have hsl := (ht T t h1).sl h2
    obtain ⟨ie, hie, hsz⟩ := Option.map_eq_some_iff.1 (ht e u h3).sz
    cases e1 with
    | @nil _ c A =>
      obtain rfl : h = 0 := by simpa using h5
      obtain rfl : l = 0 := by omega
      have hbd := run_bounds (P := P) (isS := true) (len := 0) (cap := c) (hh.val hA.right hR) (hl.val hA.left.right hR) (Nat.le_refl _) (Nat.zero_le _) w
      refine ⟨.slice (if c = 0 then A else A.map (·.add (0 * ie.size))) 0 c, ?_, .nil⟩
      simp only [execOp, ho, hX]
      simp [Instr.sliceAt, Instr.slice, run_underlying hsl, hbd, sizeOf, typeInfo, hie]
    | @lst _ b off n cap _ cs T1 fr hn hF hH hlc hcs hrep =>
      subst hn
      have hbd := run_bounds (P := P) (isS := true) (hh.val hA.right hR) (hl.val hA.left.right hR) h4 (Nat.le_trans h5 hlc) w
      refine ⟨.slice (if cap = l then some ⟨b, off, none⟩ else some ((⟨b, off, none⟩ : Addr).add (l * ie.size))) (h - l) (cap - l), ?_, ?_⟩
      · simp only [execOp, ho, hX]
        simp [Instr.sliceAt, Instr.slice, run_underlying hsl, hbd, sizeOf, typeInfo, hie]
      · rcases Nat.eq_zero_or_pos (h - l) with h0 | hpos
        · rw [h0, List.take_zero]
          exact .nil
        · rw [if_neg (by omega), addr_add, hsz]
          have hd := (hrep.drop l (by omega)).take (h - l)
          rw [List.drop_drop] at hd
          refine .lst (by rw [List.length_take, List.length_drop]; omega) hF hH (by omega) ?_ hd
          have : (cap - l) * u.size + l * u.size = cap * u.size := by rw [← Nat.add_mul]; congr 1; omega
          omega
/-- Bytes as a string, none of them too. -/
theorem w_str_any {T T2 e : TypeId} (hT : P.underlying T = some (.slice e)) (he : P.underlying e = some (.int .u8)) (h2 : P.underlying T2 = some .string) {x : Operand} (ho : o.op = .convert T T2 x) {id lo len : Nat} {ob : Ob} (hx : s.ev x = .own id lo len) (hob : s.obj id = .ob ob) (hm : ob.m = 1) (xs : List Int)
    (hr : (ob.rows.drop lo).take len = xs.map fun n => [SV.v (.int .u8 n)]) (hl : xs.length = len) {b : ByteArray} (hb : strOfNums xs = b) :
    Step P o (locO x ++ [.obj id]) ⟨o.dst, .v (.string b), []⟩ s :=
  step_value fun g σ f ac w hA hR => by
    subst hb
    have e1 := hR.ev x
    rw [ev_agree hA.left, hx] at e1
    have hob' : σ.obj id = .ob ob := by rw [agree_obj hA]; exact hob
    obtain ⟨b2, vs, hb2, hvl, hrep, hcell⟩ := (hR.ob id ob hob').cells lo len hr (by rw [List.length_map, hl])
    rw [hm] at hvl hrep
    obtain rfl := repR_bytes xs vs hrep (by rw [hvl, hl]; omega)
    generalize hX : ac.eval x = X at e1
    cases e1 with
    | @own _ _ _ cap b3 cs T1 fr hb hlc hH hcap =>
      rw [hb2] at hb
      obtain rfl := Option.some.inj hb
      refine ⟨.string (strOfNums xs), ?_, .v _⟩
      have := run_convert_bytes_arg (P := P) w T e hT he b2 (g.o0 id + lo * g.mm id) len cap xs hl (fun i hi => hcell i (.int .u8 (xs.getD i 0)) (by rw [List.getElem?_map, List.getD_eq_getElem?_getD, List.getElem?_eq_getElem (by omega)]; rfl)) T2 h2
      simp only [execOp, ho, hX]
      rw [Sem.run_bind, this]
      rfl
/-- Nothing appended to nothing. -/
theorem w_append_none (ht : Tab P tt) {x y : Operand} {T Ty e e2 : TypeId} (ho : o.op = .call { callee := .builtin .append, args := #[x, y], argTypes := #[T, Ty] }) {t : TI} (h1 : tt T = some t) (h2 : t.elem = some e) {u : TI} (h3 : tt e = some u) {t2 : TI} (h4 : tt Ty = some t2) (h5 : t2.elem = some e2)
    {L : List Loc} (hm0 : 0 < u.size) (hx : s.ev x = .v (.slice none 0 0)) (hy : LstOf s (s.ev y) u.size [] L) : Step P o (locO x ++ locO y ++ L) ⟨o.dst, .v (.slice none 0 0), []⟩ s := by
  have hsl2 := (ht Ty t2 h4).sl h5
  obtain ⟨d, i, z, g1, g2, g3, g4, g5, g6, g7, g8, _⟩ := ht e u h3
  exact step_append_nil_nil ho ((ht T t h1).sl h2) hsl2 g2 g5 hm0 hx hy
end
end Go.Proofs.YtcbbpidnocgoiaaDoor.Eng

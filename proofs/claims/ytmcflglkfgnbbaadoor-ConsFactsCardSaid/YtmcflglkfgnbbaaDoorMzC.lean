/- Texts of this claim, put together: part 3. -/
import Derived.Laws.Slices
import Derived.MapKept
import Derived.WideMake
import Derived.Laws.Cover3
import Derived.ChangeKeysEq
import Derived.Laws.StructEq
import Derived.Test.YtmcflglkfgnbbaaDoorMzB
/- Parts of strings and slices. -/
namespace Go.Proofs.YtmcflglkfgnbbaaDoor.Eng
open Go Go.RowKit
set_option linter.unusedVariables false
set_option linter.unusedSimpArgs false
def bndV : Option Value → Nat → Nat → Prop
  | none, d, n => n = d
  | some v, _, n => ∃ k, v = .int k (n : Int)
section
variable {P : Program} {tt : Nat → Option TI} {o : Oper} {s : St}
theorem run_bounds {isS : Bool} {len cap l h : Nat} {low high : Option Value} (hh : bndV high len h) (hl : bndV low 0 l) (h1 : l ≤ h) (h2 : h ≤ cap) (w : World) : (Instr.sliceBounds isS len cap low high none).run P w = .ok (l, h, cap) w := by
  cases high with
  | none =>
    obtain rfl : h = len := hh
    cases low with
    | none =>
      obtain rfl : l = 0 := hl
      simp [Instr.sliceBounds]
    | some v =>
      obtain ⟨k, rfl⟩ := hl
      have := run_sliceBound (P := P) (w := w) k (l : Int) h (if (none : Option Value).isSome then .slice3C else .sliceB) (by omega) (by omega)
      simp [Instr.sliceBounds, run_sliceBound, h1]
  | some u =>
    obtain ⟨k2, rfl⟩ := hh
    cases low with
    | none =>
      obtain rfl : l = 0 := hl
      simp [Instr.sliceBounds, run_sliceBound, h2]
    | some v =>
      obtain ⟨k, rfl⟩ := hl
      simp [Instr.sliceBounds, run_sliceBound, h2, h1]
/-- A bound that an operand tells. -/
def bndO (s : St) : Option Operand → Nat → Nat → Prop
  | none, d, n => n = d
  | some x, _, n => ∃ k, s.ev x = .v (.int k (n : Int))
def locB : Option Operand → List Loc
  | none => []
  | some x => locO x
theorem bndO.val {x : Option Operand} {d n : Nat} (h : bndO s x d n) {f : Fr} {g : Gh} {σ : St} {a : Act} {w : World} (hA : Agree (locB x) s σ) (hR : Rel f g σ a w) : bndV (x.map a.eval) d n := by
  cases x with
  | none => exact h
  | some x =>
    obtain ⟨k, hk⟩ := h
    exact ⟨k, ev_v hR hA hk⟩
theorem w_cut_str {T : TypeId} (hT : P.underlying T = some .string) {x : Operand} {lo hi : Option Operand} (ho : o.op = .slice T x lo hi none) {b : ByteArray} (hx : s.ev x = .v (.string b)) (l h : Nat) (hl : bndO s lo 0 l) (hh : bndO s hi b.size h) (h1 : l ≤ h) (h2 : h ≤ b.size) {c : ByteArray} (hc : b.extract l h = c) :
    Step P o (locO x ++ locB lo ++ locB hi) ⟨o.dst, .v (.string c), []⟩ s :=
  step_value fun g σ f ac w hA hR => by
    subst hc
    have e1 := ev_v hR hA.left.left hx
    refine ⟨_, ?_, .v _⟩
    have hb := run_bounds (P := P) (isS := false) (hh.val hA.right hR) (hl.val hA.left.right hR) h1 h2 w
    simp only [execOp, ho, e1]
    simp [Instr.sliceAt, Instr.slice, run_underlying hT, hb]
theorem w_cut_own (ht : Tab P tt) {T e : TypeId} {x : Operand} {lo hi : Option Operand} (ho : o.op = .slice T x lo hi none) {t : TI} (h1 : tt T = some t) (h2 : t.elem = some e) {u : TI} (h3 : tt e = some u) {id lo0 len : Nat} {ob : Ob} (hx : s.ev x = .own id lo0 len) (hob : s.obj id = .ob ob) (hm : ob.m = u.size)
    (l h : Nat) (hl : bndO s lo 0 l) (hh : bndO s hi len h) (h4 : l < h) (h5 : h ≤ len) {a n : Nat} (ha : lo0 + l = a) (hn : h - l = n) :
    Step P o (locO x ++ locB lo ++ locB hi ++ [.obj id]) ⟨o.dst, .own id a n, []⟩ s :=
  step_value fun g σ f ac w hA hR => by
    subst ha hn
    have e1 := hR.ev x
    rw [ev_agree hA.left.left.left, hx] at e1
    have hob' : σ.obj id = .ob ob := by rw [agree_obj hA]; exact hob
    have hOb := hR.ob id ob hob'
    generalize hX : ac.eval x = X at e1
    have hsl := (ht T t h1).sl h2
    obtain ⟨ie, hie, hsz⟩ := Option.map_eq_some_iff.1 (ht e u h3).sz
    cases e1 with
    | @own _ _ _ cap b cs T1 fr hb hlc hH hcap =>
      have hmm : g.mm id = ob.m := by
        obtain ⟨⟨b', cs', T'', fr', k1, k2, _⟩, _⟩ := hOb
        rw [hb] at k1
        obtain rfl := Option.some.inj k1
        exact (k2.cells hH).1
      have hbd := run_bounds (P := P) (isS := true) (hh.val hA.left.right hR) (hl.val hA.left.left.right hR) (Nat.le_of_lt h4) (Nat.le_trans h5 hlc) w
      refine ⟨.slice (some ⟨b, g.o0 id + (lo0 + l) * g.mm id, none⟩) (h - l) (cap - l), ?_, ?_⟩
      · simp only [execOp, ho, hX]
        have hne : ¬ cap = l := by omega
        have hoff : g.o0 id + lo0 * g.mm id + l * ie.size = g.o0 id + (lo0 + l) * g.mm id := by rw [hsz, ← hm, ← hmm, Nat.add_mul]; omega
        simp [Instr.sliceAt, Instr.slice, run_underlying hsl, hbd, sizeOf, typeInfo, hie, hne, addr_add, hoff]
      · refine .own hb (by omega) hH ?_
        have : lo0 + l + (cap - l) = lo0 + cap := by omega
        rw [this]
        exact hcap
theorem w_cut_own_none (ht : Tab P tt) {T e : TypeId} {x : Operand} {lo hi : Option Operand} (ho : o.op = .slice T x lo hi none) {t : TI} (h1 : tt T = some t) (h2 : t.elem = some e) {u : TI} (h3 : tt e = some u) {id lo0 len : Nat} (hx : s.ev x = .own id lo0 len)
    (l : Nat) (hl : bndO s lo 0 l) (hh : bndO s hi len l) (h5 : l ≤ len) :
    Step P o (locO x ++ locB lo ++ locB hi) ⟨o.dst, .lst u.size [], []⟩ s :=
  step_value fun g σ f ac w hA hR => by
    have e1 := hR.ev x
    rw [ev_agree hA.left.left, hx] at e1
    generalize hX : ac.eval x = X at e1
    have hsl := (ht T t h1).sl h2
    obtain ⟨ie, hie, hsz⟩ := Option.map_eq_some_iff.1 (ht e u h3).sz
    cases e1 with
    | @own _ _ _ cap b cs T1 fr hb hlc hH hcap =>
      have hbd := run_bounds (P := P) (isS := true) (hh.val hA.right hR) (hl.val hA.left.right hR) (Nat.le_refl _) (Nat.le_trans h5 hlc) w
      refine ⟨.slice (if cap = l then some ⟨b, g.o0 id + lo0 * g.mm id, none⟩ else some ((⟨b, g.o0 id + lo0 * g.mm id, none⟩ : Addr).add (l * ie.size))) 0 (cap - l), ?_, .nil⟩
      simp only [execOp, ho, hX]
      simp [Instr.sliceAt, Instr.slice, run_underlying hsl, hbd, sizeOf, typeInfo, hie]
/-- A part of a row that is never written. -/
theorem w_cut_lst (ht : Tab P tt) {T e : TypeId} {x : Operand} {lo hi : Option Operand} (ho : o.op = .slice T x lo hi none) {t : TI} (h1 : tt T = some t) (h2 : t.elem = some e) {u : TI} (h3 : tt e = some u) {m : Nat} {rows : List (List SV)} (hx : s.ev x = .lst m rows) (hm : m = u.size)
    (l h : Nat) (hl : bndO s lo 0 l) (hh : bndO s hi rows.length h) (h4 : l ≤ h) (h5 : h ≤ rows.length) {r : List (List SV)} (hr : (rows.drop l).take (h - l) = r) :
    Step P o (locO x ++ locB lo ++ locB hi) ⟨o.dst, .lst m r, []⟩ s :=
  step_value fun g σ f ac w hA hR => by
    subst hr hm
    have e1 := hR.ev x
    rw [ev_agree hA.left.left, hx] at e1
    generalize hX : ac.eval x = X at e1
    have hsl := (ht T t h1).sl h2
    obtain ⟨ie, hie, hsz⟩ := Option.map_eq_some_iff.1 (ht e u h3).sz
    cases e1 with
    | @nil _ c A =>
      obtain rfl : h = 0 := by simpa using h5
      obtain rfl : l = 0 := by omega
      have hbd := run_bounds (P := P) (isS := true) (len := 0) (cap := c) (hh.val hA.right hR) (hl.val hA.left.right hR) (Nat.le_refl _) (Nat.zero_le _) w
      refine ⟨.slice (if c = 0 then A else A.map (·.add (0 * ie.size))) 0 c, ?_, .nil⟩
      simp only [execOp, ho, hX]
      simp [Instr.sliceAt, Instr.slice, run_underlying hsl, hbd, sizeOf, typeInfo, hie]
    | @lst _ b off n cap _ cs T1 fr hn hF hH hlc hcs hrep =>
      subst hn
      have hbd := run_bounds (P := P) (isS := true) (hh.val hA.right hR) (hl.val hA.left.right hR) h4 (Nat.le_trans h5 hlc) w
      refine ⟨.slice (if cap = l then some ⟨b, off, none⟩ else some ((⟨b, off, none⟩ : Addr).add (l * ie.size))) (h - l) (cap - l), ?_, ?_⟩
      · simp only [execOp, ho, hX]
        simp [Instr.sliceAt, Instr.slice, run_underlying hsl, hbd, sizeOf, typeInfo, hie]
      · rcases Nat.eq_zero_or_pos (h - l) with h0 | hpos
        · rw [h0, List.take_zero]
          exact .nil
        · rw [if_neg (by omega), addr_add, hsz]
          have hd := (hrep.drop l (by omega)).take (h - l)
          rw [List.drop_drop] at hd
          refine .lst (by rw [List.length_take, List.length_drop]; omega) hF hH (by omega) ?_ hd
          have : (cap - l) * u.size + l * u.size = cap * u.size := by rw [← Nat.add_mul]; congr 1; omega
          omega
/-- Bytes as a string, none of them too. -/
theorem w_str_any {T T2 e : TypeId} (hT : P.underlying T = some (.slice e)) (he : P.underlying e = some (.int .u8)) (h2 : P.underlying T2 = some .string) {x : Operand} (ho : o.op = .convert T T2 x) {id lo len : Nat} {ob : Ob} (hx : s.ev x = .own id lo len) (hob : s.obj id = .ob ob) (hm : ob.m = 1) (xs : List Int)
    (hr : (ob.rows.drop lo).take len = xs.map fun n => [SV.v (.int .u8 n)]) (hl : xs.length = len) {b : ByteArray} (hb : strOfNums xs = b) :
    Step P o (locO x ++ [.obj id]) ⟨o.dst, .v (.string b), []⟩ s :=
  step_value fun g σ f ac w hA hR => by
    subst hb
    have e1 := hR.ev x
    rw [ev_agree hA.left, hx] at e1
    have hob' : σ.obj id = .ob ob := by rw [agree_obj hA]; exact hob
    obtain ⟨b2, vs, hb2, hvl, hrep, hcell⟩ := (hR.ob id ob hob').cells lo len (rep_ownH e1) hr (by rw [List.length_map, hl])
    rw [hm] at hvl hrep
    obtain rfl := repR_bytes xs vs hrep (by rw [hvl, hl]; omega)
    generalize hX : ac.eval x = X at e1
    cases e1 with
    | @own _ _ _ cap b3 cs T1 fr hb hlc hH hcap =>
      rw [hb2] at hb
      obtain rfl := Option.some.inj hb
      refine ⟨.string (strOfNums xs), ?_, .v _⟩
      have := run_convert_bytes_arg (P := P) w T e hT he b2 (g.o0 id + lo * g.mm id) len cap xs hl (fun i hi => hcell i (.int .u8 (xs.getD i 0)) (by rw [List.getElem?_map, List.getD_eq_getElem?_getD, List.getElem?_eq_getElem (by omega)]; rfl)) T2 h2
      simp only [execOp, ho, hX]
      rw [Sem.run_bind, this]
      rfl
/-- Nothing appended to nothing. -/
theorem w_append_none (ht : Tab P tt) {x y : Operand} {T Ty e e2 : TypeId} (ho : o.op = .call { callee := .builtin .append, args := #[x, y], argTypes := #[T, Ty] }) {t : TI} (h1 : tt T = some t) (h2 : t.elem = some e) {u : TI} (h3 : tt e = some u) {t2 : TI} (h4 : tt Ty = some t2) (h5 : t2.elem = some e2)
    {L : List Loc} (hm0 : 0 < u.size) (hx : s.ev x = .v (.slice none 0 0)) (hy : LstOf s (s.ev y) u.size [] L) : Step P o (locO x ++ locO y ++ L) ⟨o.dst, .v (.slice none 0 0), []⟩ s := by
  have hsl2 := (ht Ty t2 h4).sl h5
  obtain ⟨d, i, z, g1, g2, g3, g4, g5, g6, g7, g8, _⟩ := ht e u h3
  exact step_append_nil_nil ho ((ht T t h1).sl h2) hsl2 g2 g5 hm0 hx hy
end
end Go.Proofs.YtmcflglkfgnbbaaDoor.Eng

/- Maps. -/
namespace Go.Proofs.YtmcflglkfgnbbaaDoor.Eng
open Go Go.RowKit
set_option linter.unusedVariables false
set_option linter.unusedSimpArgs false
/-- What a list of pairs has for a key. -/
def aget {A B : Type} (eq : A → A → Bool) : List (A × B) → A → Option B
  | [], _ => none
  | (a, b) :: l, k => cond (eq k a) (some b) (aget eq l k)
def aset {A B : Type} (eq : A → A → Bool) : List (A × B) → A → B → List (A × B)
  | [], k, b => [(k, b)]
  | (a, x) :: l, k, b => cond (eq k a) ((k, b) :: l) ((a, x) :: aset eq l k b)
def adel {A B : Type} (eq : A → A → Bool) : List (A × B) → A → List (A × B)
  | [], _ => []
  | (a, x) :: l, k => cond (eq k a) l ((a, x) :: adel eq l k)
section
variable {g : Gh} {H : Array Go.Obj} {A B : Type} {eq : A → A → Bool} {kv : A → Value} {bv : B → SV} {d : TypeDesc}
def prs (kv : A → Value) (bv : B → SV) (l : List (A × B)) : List (List SV) := l.map fun p => [.v (kv p.1), bv p.2]
/-- Entries, as pairs. -/
inductive RepM (g : Gh) (H : Array Go.Obj) (kv : A → Value) (bv : B → SV) : List MapEntry → List (A × B) → Prop where
  | nil : RepM g H kv bv [] []
  | cons {e : MapEntry} {p : A × B} {es : List MapEntry} {l : List (A × B)} (hk : e.key = kv p.1) (hv : Rep g H e.val (bv p.2)) (t : RepM g H kv bv es l) : RepM g H kv bv (e :: es) (p :: l)
theorem repM_of : ∀ {es : List MapEntry} {l : List (A × B)}, es.length = l.length → RepR g H (es.flatMap fun e => [e.key, e.val]) 2 (prs kv bv l) → RepM g H kv bv es l
  | [], [], _, _ => .nil
  | [], _ :: _, h, _ => by cases h
  | _ :: _, [], h, _ => by cases h
  | e :: es, p :: l, hl, h => by
    have h : RepR g H (e.key :: e.val :: es.flatMap fun e => [e.key, e.val]) 2 ([.v (kv p.1), bv p.2] :: prs kv bv l) := h
    generalize hX : e.key :: e.val :: (es.flatMap fun e => [e.key, e.val]) = X at h
    cases h with
    | @cons xs ys _ _ _ hm h t =>
      match xs, hm, hX, h with
      | [a, b], _, hX, h =>
        simp only [List.cons_append, List.nil_append, List.cons.injEq] at hX
        obtain ⟨rfl, rfl, rfl⟩ := hX
        cases h with
        | cons h1 h2 =>
          cases h2 with
          | cons h2 _ => exact .cons (rep_v h1) h2 (repM_of (by simpa using hl) t)
theorem RepM.rows : ∀ {es : List MapEntry} {l : List (A × B)}, RepM g H kv bv es l → es.length = l.length ∧ RepR g H (es.flatMap fun e => [e.key, e.val]) 2 (prs kv bv l)
  | _, _, .nil => ⟨rfl, .nil⟩
  | _, _, .cons (e := e) (p := p) (es := es) (l := l) hk hv t => by
    obtain ⟨h1, h2⟩ := t.rows
    refine ⟨by rw [List.length_cons, List.length_cons, h1], ?_⟩
    have := RepR.cons (xs := [e.key, e.val]) (m := 2) (r := [.v (kv p.1), bv p.2]) rfl (.cons (by rw [hk]; exact .v _) (.cons hv .nil)) h2
    exact this
theorem RepM.ext {g' : Gh} {H' : Array Go.Obj} (hg : GExt g g') (hH : Ext g.F H H') : ∀ {es : List MapEntry} {l : List (A × B)}, RepM g H kv bv es l → RepM g' H' kv bv es l
  | _, _, .nil => .nil
  | _, _, .cons hk hv t => .cons hk (hv.ext hg hH) (t.ext hg hH)
/-- What is found among entries. -/
noncomputable def fndV (k : Value) : List MapEntry → Nat → Option (Nat × Value)
  | [], _ => none
  | e :: es, i => @ite _ (e.key = k) (Classical.propDecidable _) (some (i, e.val)) (fndV k es (i + 1))
theorem fndV_hit {k : Value} {e : MapEntry} {es : List MapEntry} {i : Nat} (h : e.key = k) : fndV k (e :: es) i = some (i, e.val) := by
  unfold fndV
  rw [if_pos h]
theorem fndV_miss {k : Value} {e : MapEntry} {es : List MapEntry} {i : Nat} (h : e.key ≠ k) : fndV k (e :: es) i = fndV k es (i + 1) := by
  conv => lhs; unfold fndV
  rw [if_neg h]
/-- Values that may be keys of a type: how they are compared, found. -/
structure KeyOk (P : Program) (kt : TypeId) (kv : A → Value) (eq : A → A → Bool) : Prop where
  check : ∀ (a : A) (e : Bool) (w : World), (Instr.checkKey e 10000 kt (kv a)).run P w = .ok () w
  iff : ∀ a b, eq a b = true ↔ kv a = kv b
  find : ∀ (k : A) (es : List MapEntry) (w : World), (∀ e ∈ es, ∃ a, e.key = kv a) → (Instr.findKey kt (kv k) es).run P w = .ok (fndV (kv k) es 0) w
  stays : ∀ (a : A) (w : World), (Instr.keyThatStays (kv a) (kv a)).run P w = .ok (kv a) w
theorem KeyOk.plain {P : Program} {kt : TypeId} {d : TypeDesc} {kv : A → Value} {eq : A → A → Bool} (hd : P.underlying kt = some d) (key : ∀ a, MapKept.IsKey d (kv a)) (same : ∀ a b, Instr.sameNow d (kv a) (kv b) = some (eq a b)) : KeyOk P kt kv eq := by
  have iff : ∀ a b, eq a b = true ↔ kv a = kv b := fun a b => by
    obtain ⟨r, h1, h2⟩ := MapKept.sameNow_of_keys (key a) (key b)
    rw [same] at h1
    obtain rfl := Option.some.inj h1
    exact h2
  have now : ∀ (k : A) (es : List MapEntry) (i : Nat), (∀ e ∈ es, ∃ a, e.key = kv a) → Instr.findNow d (kv k) es i = some (fndV (kv k) es i) := by
    intro k es
    induction es with
    | nil => intro i _; rfl
    | cons e es ih =>
      intro i h
      obtain ⟨a, ha⟩ := h e List.mem_cons_self
      have hs := same k a
      rw [← ha] at hs
      have ih := ih (i + 1) fun x hx => h x (List.mem_cons_of_mem _ hx)
      cases he : eq k a with
      | true =>
        rw [he] at hs
        rw [fndV_hit (by rw [ha]; exact ((iff k a).1 he).symm)]
        simp [Instr.findNow, hs]
      | false =>
        rw [he] at hs
        rw [fndV_miss (by rw [ha]; intro q; have := (iff k a).2 q.symm; rw [he] at this; cases this)]
        simp [Instr.findNow, hs, ih]
  exact ⟨fun a e w => MapKept.run_checkKey hd (key a) e 9999, iff, fun k es w h => MapKept.run_findKey hd (now k es 0 h), fun a w => MapKept.run_keyThatStays (key a)⟩
theorem RepM.keys : ∀ {es : List MapEntry} {l : List (A × B)}, RepM g H kv bv es l → ∀ e ∈ es, ∃ a, e.key = kv a
  | _, _, .nil, e, h => by cases h
  | _, _, .cons (p := p) hk hv t, e, h => by
    rcases List.mem_cons.1 h with rfl | h
    · exact ⟨_, hk⟩
    · exact t.keys e h
theorem RepM.push : ∀ {es : List MapEntry} {l : List (A × B)}, RepM g H kv bv es l → ∀ {e : MapEntry} {p : A × B}, e.key = kv p.1 → Rep g H e.val (bv p.2) → RepM g H kv bv (es ++ [e]) (l ++ [p])
  | _, _, .nil, _, _, hk, hv => .cons hk hv .nil
  | _, _, .cons hk hv t, _, _, hk', hv' => .cons hk hv (t.push hk' hv')
/-- What is found in memory, and what is told. -/
theorem RepM.find {P : Program} {kt : TypeId} (hK : KeyOk P kt kv eq) {k : A} : ∀ {es : List MapEntry} {l : List (A × B)}, RepM g H kv bv es l → ∀ i,
    (aget eq l k = none ∧ fndV (kv k) es i = none ∧ ∀ b, aset eq l k b = l ++ [(k, b)]) ∨
    (∃ b j v, aget eq l k = some b ∧ fndV (kv k) es i = some (i + j, v) ∧ Rep g H v (bv b) ∧ (∃ e, es[j]? = some e ∧ e.key = kv k) ∧
      (∀ (b' : B) (v' : Value) (f : MapEntry → MapEntry), Rep g H v' (bv b') → (∀ e, (f e).key = kv k ∧ (f e).val = v') → RepM g H kv bv (es.modify j f) (aset eq l k b')))
  | _, _, .nil, i => .inl ⟨rfl, rfl, fun _ => rfl⟩
  | _, _, .cons (e := e) (p := p) (es := es) (l := l) hk hv t, i => by
    obtain ⟨a, x⟩ := p
    have hk' : e.key = kv a := hk
    cases he : eq k a with
    | true =>
      have hka : kv k = kv a := (hK.iff k a).1 he
      refine .inr ⟨x, 0, e.val, by rw [aget, he]; rfl, fndV_hit (hk'.trans hka.symm), hv, ⟨e, rfl, by rw [hk]; exact hka.symm⟩, fun b' v' f hv' hf => ?_⟩
      rw [aset, he]
      exact .cons (hf e).1 (by rw [(hf e).2]; exact hv') t
    | false =>
      have hne : e.key ≠ kv k := fun q => by have := (hK.iff k a).2 (q.symm.trans hk'); rw [he] at this; cases this
      rcases t.find hK (i + 1) with ⟨h1, h2, h3⟩ | ⟨b, j, v, h1, h2, h3, h4, h5⟩
      · exact .inl ⟨by rw [aget, he]; exact h1, by rw [fndV_miss hne]; exact h2, fun b => by rw [aset, he, cond_false, h3]; rfl⟩
      · refine .inr ⟨b, j + 1, v, by rw [aget, he]; exact h1, by rw [fndV_miss hne, h2, show i + 1 + j = i + (j + 1) by omega], h3, by simpa using h4, fun b' v' f hv' hf => ?_⟩
        rw [aset, he]
        exact .cons hk hv (h5 b' v' f hv' hf)
end
/-- Numbers, texts as keys. -/
def keI (a b : Int) : Bool := decide (a = b)
def keS (a b : ByteArray) : Bool := a.toList == b.toList
theorem keS_iff (a b : ByteArray) : keS a b = true ↔ a = b := by
  unfold keS
  rw [beq_iff_eq]
  constructor
  · intro h
    have h2 : a.data.toList = b.data.toList := by
      have e := fun x : ByteArray => (show x.toList = x.data.toList from ByteArray.toList_eq x)
      rw [← e, ← e, h]
    cases a; cases b
    congr
    exact Array.toList_inj.1 h2
  · rintro rfl
    rfl
theorem keyI {P : Program} {kt : TypeId} {q : IntKind} (hd : P.underlying kt = some (.int q)) : KeyOk P kt (fun k : Int => .int q k) keI := .plain hd (fun a => rfl) fun a b => by
  show (if q = q then some (a == b) else none) = some (keI a b)
  rw [if_pos rfl]
  unfold keI
  congr 1
theorem keyS {P : Program} {kt : TypeId} (hd : P.underlying kt = some .string) : KeyOk P kt (fun k : ByteArray => .string k) keS := .plain hd (fun a => trivial) fun a b => by
  show some (a == b) = some (keS a b)
  congr 1
  rw [Bool.eq_iff_iff, keS_iff, MapKept.bytes_beq]
theorem rep_mp {g : Gh} {H : Array Go.Obj} {x : Value} {id : Nat} (h : Rep g H x (.mp id)) : ∃ b, g.β id = some b ∧ g.mm id = 0 ∧ x = .map (some b) := by
  cases h with | mp hb hm => exact ⟨_, hb, hm, rfl⟩
/-- The block of a map. -/
theorem Rel.mapAt {f : Fr} {g : Gh} {s : St} {a : Act} {w : World} (h : Rel f g s a w) {id : Nat} {rows : List (List SV)} {fz : Bool} (ho : s.obj id = .ob ⟨2, rows, fz⟩) {b : Nat} (hb : g.β id = some b) (hm : g.mm id = 0) :
    ∃ es ck, w.heap[b]? = some (.map es ck) ∧ es.size = rows.length ∧ RepR g w.heap (es.toList.flatMap fun e => [e.key, e.val]) 2 rows := by
  obtain ⟨⟨b', cs, T, fr, k1, k2, k3, _⟩, _⟩ := h.ob id _ ho
  rw [hb] at k1
  obtain rfl := Option.some.inj k1
  obtain ⟨h0, _, es, ck, h1, rfl, h2⟩ := k2.map hm rfl
  rw [h0, List.drop_zero] at k3
  exact ⟨es, ck, h1, h2, by simpa [flatM] using k3⟩
/-- A map is written. -/
theorem Rel.turnM {f : Fr} {g : Gh} {s : St} {a : Act} {w w' : World} (h : Rel f g s a w) {id : Nat} {o : Ob} (ho : s.obj id = .ob o) (hz : o.fz = false) (hm2 : o.m = 2) {b : Nat} (hb : g.β id = some b) (hm : g.mm id = 0)
    {es es' : Array MapEntry} {ck ck' : Nat} (hH : w.heap[b]? = some (.map es ck)) (hw : w' = { w with heap := w.heap.setIfInBounds b (.map es' ck') }) (rows : List (List SV)) (hn : es'.size = rows.length)
    (hr : RepR g w.heap (es'.toList.flatMap fun e => [e.key, e.val]) 2 rows) : Rel f g (s.upd id (.ob ⟨2, rows, false⟩)) a w' := by
  obtain ⟨⟨b0, cs0, T0, fr0, k1, k2, k3, k4, k5, k6⟩, k7⟩ := h.ob id o ho
  rw [hb] at k1
  obtain rfl := Option.some.inj k1
  obtain ⟨h0, _⟩ := k2.map hm hm2
  obtain ⟨hset, hoth⟩ := MapKept.heap_set (o' := .map es' ck') hH
  have hheap : w'.heap = w.heap.setIfInBounds b (.map es' ck') := by rw [hw]
  rw [← hheap] at hset hoth
  have hs : w'.heap.size = w.heap.size := by rw [hheap, Array.size_setIfInBounds]
  have hext : Ext g.F w.heap w'.heap := ⟨fun k c U q hk => by
    have e : k ≠ b := by rintro rfl; rw [hH] at hk; cases hk
    exact ⟨c, q, by rw [hoth k e]; exact hk, rfl, fun _ => rfl⟩⟩
  have hobj : ∀ i p, (s.upd id (.ob ⟨2, rows, false⟩)).obj i = .ob p → (i = id ∧ p = ⟨2, rows, false⟩) ∨ (i ≠ id ∧ s.obj i = .ob p) := fun i p hp => by
    have hp : (if i = id then OS.ob ⟨2, rows, false⟩ else s.obj i) = .ob p := hp
    by_cases e : i = id
    · rw [if_pos e] at hp; exact .inl ⟨e, (OS.ob.inj hp).symm⟩
    · rw [if_neg e] at hp; exact .inr ⟨e, hp⟩
  have hold : ∀ i p, (s.upd id (.ob ⟨2, rows, false⟩)).obj i = .ob p → ∃ q, s.obj i = .ob q ∧ q.fz = p.fz := fun i p hp => by
    rcases hobj i p hp with ⟨rfl, rfl⟩ | ⟨e, hp⟩
    · exact ⟨o, ho, hz⟩
    · exact ⟨p, hp, rfl⟩
  refine { slot := fun t => (h.slot t).ext (GExt.refl g) hext, size := h.size, defers := h.defers, never := ?_, ob := ?_, inj := ?_, own := ?_, base := ?_, hsize := by rw [hs]; exact h.hsize, F0 := h.F0, Fold := h.Fold, Flt := by rw [hs]; exact h.Flt, os := by rw [hw]; exact h.os, tape := by rw [hw]; exact h.tape, output := by rw [hw]; exact h.output, gext := h.gext, kept := h.kx hext, tb := h.tb.ext (fun _ h => h) hext }
  · intro i hi
    have hi : (if i = id then OS.ob ⟨2, rows, false⟩ else s.obj i) = .never := hi
    by_cases e : i = id
    · rw [if_pos e] at hi; cases hi
    · rw [if_neg e] at hi; exact h.never i hi
  · intro i p hp
    rcases hobj i p hp with ⟨rfl, rfl⟩ | ⟨e, hp⟩
    · refine ⟨⟨b, flatM es', 0, (0, 0), hb, .inr ⟨rfl, hm, h0, rfl, es', ck', hset, rfl, hn⟩, ?_, fun i _ hi => by omega, fun e => (by cases e), fun _ => k6 hz⟩, trivial⟩
      rw [h0, List.drop_zero]
      have := hr.ext (GExt.refl g) hext
      simpa [flatM] using this
    · refine ObRep.ext (GExt.refl g) (fun b hb _ => .inl hb) hext (fun k _ _ c U q hk hq => ?_) (h.ob i p hp)
      have hkb : k ≠ b := by
        rintro rfl
        cases hpz : p.fz with
        | false => exact e (h.inj i id p o _ hp ho hpz hz hk hb)
        | true =>
          obtain ⟨⟨b1, _, _, _, q1, _, _, _, q5, _⟩, _⟩ := h.ob i p hp
          rw [hk] at q1
          obtain rfl := Option.some.inj q1
          exact k6 hz (q5 hpz)
      exact hq.of_eq (hoth k hkb)
  · intro i j p p' k hp hp' hz1 hz2 hk hk'
    obtain ⟨q, hq, e1⟩ := hold i p hp
    obtain ⟨q', hq', e2⟩ := hold j p' hp'
    exact h.inj i j q q' k hq hq' (by rw [e1, hz1]) (by rw [e2, hz2]) hk hk'
  · intro i p k hp hz1 hk
    obtain ⟨q, hq, e1⟩ := hold i p hp
    exact h.own i q k hq (by rw [e1, hz1]) hk
  · intro k hk hW
    have : k ≠ b := by
      rintro rfl
      rcases h.own id o _ ho hz hb with h | h
      · omega
      · exact hW h
    rw [hoth k this]
    exact h.base k hk hW
section
variable {P : Program} {o : Oper} {s : St} {A B : Type} {eq : A → A → Bool} {kv : A → Value} {bv : B → SV} {d : TypeDesc} {kt et : TypeId}
theorem step_makeMap {T : TypeId} (ho : o.op = .makeMap T none) {id : Nat} (hid : s.obj id = .never) : Step P o [.obj id] ⟨o.dst, .mp id, [(id, .ob ⟨2, [], false⟩)]⟩ s := by
  intro f σ a w K Q hA hd ⟨g, hR⟩ hK
  have hid' : σ.obj id = .never := by rw [hA.2 id (List.mem_singleton.2 rfl)]; exact hid
  have hrun : (execOp a.eval o).run P w = .ok (.value (.map (some w.heap.size))) (w.alloc (.map #[] 0)) := by
    simp [execOp, ho, run_makeMap_plain]
  unfold Oper.wp
  rw [hrun, Oper.upon_value]
  have hn := hR.newG id hid' (.map #[] 0) 0 (flatM #[]) 0 (0, 0) 2 [] (fun H hH => .inr ⟨rfl, rfl, rfl, rfl, #[], 0, hH, rfl, rfl⟩) .nil (fun i _ h => by omega)
  exact hK _ _ ⟨_, Rel.put hn o.dst hd (.mp (by show (if id = id then _ else _) = _; rw [if_pos rfl]) (by show (if id = id then _ else _) = _; rw [if_pos rfl]))⟩
theorem step_lookup {T : TypeId} {x y : Operand} {ok : Bool} (ho : o.op = .lookup T x y ok) (hu : P.underlying T = some (.map kt et)) (hK : KeyOk P kt kv eq) {id : Nat} {l : List (A × B)} {fz : Bool}
    (hx : s.ev x = .mp id) (hob : s.obj id = .ob ⟨2, prs kv bv l, fz⟩) {k : A} (hy : ∀ g H v, Rep g H v (s.ev y) → v = kv k) {z : B} {zi : TypeInfo} {zv : Value} (hz1 : P.info? et = some zi) (hz2 : zi.zero = some zv) (hz : ∀ g H, Rep g H zv (bv z)) :
    Step P o (locO x ++ locO y ++ [.obj id]) ⟨o.dst, cond ok (.tup [bv ((aget eq l k).getD z), .v (.bool (aget eq l k).isSome)]) (bv ((aget eq l k).getD z)), []⟩ s :=
  step_value fun g σ f a w hA hR => by
    have e1 := hR.ev x
    rw [ev_agree hA.left.left, hx] at e1
    have e2 : a.eval y = kv k := hy _ _ _ (by have := hR.ev y; rw [ev_agree hA.left.right] at this; exact this)
    obtain ⟨b, hb, hm, he⟩ := rep_mp e1
    obtain ⟨es, ck, hH, hn, hr⟩ := hR.mapAt (by rw [agree_obj hA]; exact hob) hb hm
    have hM := repM_of (by rw [Array.length_toList, hn]; exact List.length_map _) hr
    have hzr : (zeroValue et).run P w = .ok zv w := by simp [zeroValue, typeInfo, hz1, hz2]
    have hfk := hK.find k es.toList w hM.keys
    rcases hM.find hK (k := k) 0 with ⟨h1, h2, _⟩ | ⟨v, j, u, h1, h2, h3, _⟩ <;> rw [h2] at hfk
    · refine ⟨if ok then .tuple #[zv, .bool false] else zv, ?_, ?_⟩
      · simp [execOp, ho, e2, he, Instr.lookup, run_underlying hu, MapKept.run_getObj_map hH, hK.check k, hfk, hzr, Result.andThen]
      · rw [h1]
        cases ok
        · exact hz _ _
        · exact .tup (.cons (hz _ _) (.cons (.v _) .nil))
    · refine ⟨if ok then .tuple #[u, .bool true] else u, ?_, ?_⟩
      · simp [execOp, ho, e2, he, Instr.lookup, run_underlying hu, MapKept.run_getObj_map hH, hK.check k, hfk, Result.andThen]
      · rw [h1]
        cases ok
        · exact h3
        · exact .tup (.cons h3 (.cons (.v _) .nil))
theorem step_lookup_nil {T : TypeId} {x y : Operand} {ok : Bool} (ho : o.op = .lookup T x y ok) (hu : P.underlying T = some (.map kt et)) (hK : KeyOk P kt kv eq)
    (hx : s.ev x = .v (.map none)) {k : A} (hy : ∀ g H v, Rep g H v (s.ev y) → v = kv k) {z : B} {zi : TypeInfo} {zv : Value} (hz1 : P.info? et = some zi) (hz2 : zi.zero = some zv) (hz : ∀ g H, Rep g H zv (bv z)) :
    Step P o (locO x ++ locO y) ⟨o.dst, cond ok (.tup [bv z, .v (.bool false)]) (bv z), []⟩ s :=
  step_value fun g σ f a w hA hR => by
    have e1 := ev_v hR hA.left hx
    have e2 : a.eval y = kv k := hy _ _ _ (by have := hR.ev y; rw [ev_agree hA.right] at this; exact this)
    have hzr : (zeroValue et).run P w = .ok zv w := by simp [zeroValue, typeInfo, hz1, hz2]
    have hfk := hK.find k [] w (fun e h => by cases h)
    have h2 : fndV (kv k) [] 0 = none := rfl
    rw [h2] at hfk
    refine ⟨if ok then .tuple #[zv, .bool false] else zv, ?_, ?_⟩
    · simp [execOp, ho, e2, e1, Instr.lookup, run_underlying hu, hK.check k, hfk, hzr, Result.andThen]
    · cases ok
      · exact hz _ _
      · exact .tup (.cons (hz _ _) (.cons (.v _) .nil))
theorem step_mapUpdate {T : TypeId} {x y z : Operand} (ho : o.op = .mapUpdate T x y z) (hu : P.underlying T = some (.map kt et)) (hK : KeyOk P kt kv eq) {id : Nat} {l : List (A × B)}
    (hx : s.ev x = .mp id) (hob : s.obj id = .ob ⟨2, prs kv bv l, false⟩) {k : A} (hy : ∀ g H v, Rep g H v (s.ev y) → v = kv k) {b : B} {sv : SV} (hz : s.ev z = sv) (hzb : ∀ g H v, Rep g H v sv → Rep g H v (bv b)) :
    Step P o (locO x ++ locO y ++ locO z ++ [.obj id]) ⟨o.dst, .v undef, [(id, .ob ⟨2, prs kv bv (aset eq l k b), false⟩)]⟩ s := by
  intro f σ a w K Q hA hdd ⟨g, hR⟩ hKK
  have hob' : σ.obj id = .ob ⟨2, prs kv bv l, false⟩ := by rw [agree_obj hA]; exact hob
  have e1 := hR.ev x
  rw [ev_agree hA.left.left.left, hx] at e1
  have e2 : a.eval y = kv k := hy _ _ _ (by have := hR.ev y; rw [ev_agree hA.left.left.right] at this; exact this)
  have e3 := hR.ev z
  rw [ev_agree hA.left.right, hz] at e3
  have e3 := hzb _ _ _ e3
  obtain ⟨bb, hb, hm, he⟩ := rep_mp e1
  obtain ⟨es, ck, hH, hn, hr⟩ := hR.mapAt hob' hb hm
  have hM := repM_of (by rw [Array.length_toList, hn]; exact List.length_map _) hr
  have fin : ∀ (es' : Array MapEntry) (ck' : Nat), RepM g w.heap kv bv es'.toList (aset eq l k b) → R f (σ.app ⟨o.dst, .v undef, [(id, .ob ⟨2, prs kv bv (aset eq l k b), false⟩)]⟩) (a.put o.dst undef) { w with heap := w.heap.setIfInBounds bb (.map es' ck') } := fun es' ck' h => by
    obtain ⟨h1, h2⟩ := h.rows
    have := hR.turnM hob' rfl rfl hb hm hH (w' := { w with heap := w.heap.setIfInBounds bb (.map es' ck') }) rfl (prs kv bv (aset eq l k b)) (by rw [Array.length_toList] at h1; rw [h1]; exact (List.length_map _).symm) h2
    exact ⟨g, Rel.put this o.dst hdd (.v _)⟩
  unfold Oper.wp
  have hfk := hK.find k es.toList w hM.keys
  rcases hM.find hK (k := k) 0 with ⟨h1, h2, h3⟩ | ⟨v, j, u, h1, h2, h3, ⟨e, h4, h5⟩, h6⟩ <;> rw [h2] at hfk
  · have hex : (execOp a.eval o).run P w = .ok .skip { w with heap := w.heap.setIfInBounds bb (.map (es.push { key := kv k, val := a.eval z, born := ck }) (ck + 1)) } := by
      simp [execOp, ho, e2, he, Instr.mapUpdate, run_underlying hu, MapKept.run_getObj_map hH, MapKept.run_setObj_map _ hH, hK.check k, hfk, Result.andThen]
    rw [hex, Oper.upon_skip]
    refine hKK _ _ (fin _ _ ?_)
    rw [h3, Array.toList_push]
    exact hM.push rfl e3
  · rw [Nat.zero_add] at hfk
    have h4' : (Option.map (fun x : MapEntry => x.key) es[j]?).getD (kv k) = kv k := by
      have : es[j]? = some e := by rw [← Array.getElem?_toList]; exact h4
      rw [this]
      exact h5
    have hex : (execOp a.eval o).run P w = .ok .skip { w with heap := w.heap.setIfInBounds bb (.map (es.modify j fun e => { e with key := kv k, val := a.eval z }) ck) } := by
      simp [execOp, ho, e2, he, Instr.mapUpdate, run_underlying hu, MapKept.run_getObj_map hH, MapKept.run_setObj_map _ hH, hK.check k, hfk, Result.andThen, h4', hK.stays k]
    rw [hex, Oper.upon_skip]
    refine hKK _ _ (fin _ _ ?_)
    have := h6 b (a.eval z) (fun e => { e with key := kv k, val := a.eval z }) e3 fun e => ⟨rfl, rfl⟩
    rw [Array.toList_modify]
    exact this
end
theorem TIok.ikk {P : Program} {T : TypeId} {t : TI} (h : TIok P T t) {k : IntKind} (hk : t.ik = some k) : P.underlying T = some (.int k) := by
  obtain ⟨d, i, z, h1, h2, h3, h4, h5, h6, h7, h8, h9, h10, h11, h12, h13⟩ := h
  rw [h1, h13 k hk]
/-- Bytes as a text. -/
theorem step_str {P : Program} {o : Oper} {s : St} {T T2 e : TypeId} (hT : P.underlying T = some (.slice e)) (he : P.underlying e = some (.int .u8)) (h2 : P.underlying T2 = some .string) {x : Operand} (ho : o.op = .convert T T2 x) (xs : List Int) {L : List Loc}
    (hL : LstOf s (s.ev x) 1 (xs.map fun n => [SV.v (.int .u8 n)]) L) : Step P o (locO x ++ L) ⟨o.dst, .v (.string (strOfNums xs)), []⟩ s :=
  step_value fun g σ f ac w hA hR => by
    have e1 := hR.ev x
    rw [ev_agree hA.left] at e1
    obtain ⟨vs, hvs⟩ := LstOf.at hR (hL.agree hA.right) e1
    obtain ⟨A, c, hx, hc⟩ := hvs.ex
    have hlen := hvs.len
    rw [List.length_map, Nat.mul_one] at hlen
    have hvs2 := repR_bytes xs vs hvs.rep hlen
    rw [List.length_map] at hx
    refine ⟨.string (strOfNums xs), ?_, .v _⟩
    have hrun : (convert T T2 (.slice A xs.length c)).run P w = .ok (.string (strOfNums xs)) w := by
      cases xs with
      | nil =>
        rw [run_convert_bytes_string w T T2 e _ _ c hT he h2]
        cases A with
        | none => simp [Conv.bytesToString]; rfl
        | some a =>
          have hl : (loadCells a 0).run P w = .ok (([] : List Int).map (Value.int .u8)).toArray w := by simp [loadCells, loadCellsFrom]
          rw [List.length_nil, run_bytesToString w _ 0 c [] hl]
          rfl
      | cons y ys =>
        obtain ⟨b, off, hA2, _⟩ := hc 0 (.int .u8 y) (by rw [hvs2]; rfl)
        rw [hA2]
        refine run_convert_bytes_arg (P := P) w T e hT he b off _ c (y :: ys) rfl (fun i hi => ?_) T2 h2
        obtain ⟨b2, off2, hA3, hcl⟩ := hc i (.int .u8 ((y :: ys).getD i 0)) (by rw [hvs2, List.getElem?_map, List.getD_eq_getElem?_getD, List.getElem?_eq_getElem hi]; rfl)
        rw [hA2] at hA3
        cases hA3
        exact hcl
    rw [← hx] at hrun
    simp only [execOp, ho]
    rw [Sem.run_bind, hrun]
    rfl
end Go.Proofs.YtmcflglkfgnbbaaDoor.Eng

/- Values as lists and numbers of their own kinds, and what is told by them. -/
namespace Go.Proofs.YtmcflglkfgnbbaaDoor.Eng
open Go Go.RowKit
set_option linter.unusedVariables false
set_option linter.unusedSimpArgs false

/-- Kinds of elements: what they are, how many cells they have, which cells. -/
structure Univ where
  C : Type
  deq : DecidableEq C
  T : C → Type
  sz : C → Nat
  encS : (c : C) → T c → List SV
inductive TV (U : Univ) where
  | v (x : Value)
  | ref (id i j : Nat)
  | own (id lo len : Nat)
  | full (id : Nat)
  | lst (c : U.C) (xs : List (U.T c))
  | agg (l : List (TV U))
  | tup (l : List (TV U))
  | elt (c : U.C) (x : U.T c) (j : Nat)
  | mp (id : Nat)
  | fn (f : FuncId) (l : List (TV U))
  | junk
inductive TO (U : Univ) where
  | dead (n : Nat)
  | cells (l : List (TV U)) (fz : Bool)
  | row (c : U.C) (xs : List (U.T c)) (fz : Bool)
  | mp (c : U.C) (xs : List (U.T c)) (fz : Bool)
structure TS (U : Univ) where
  slots : List (TV U)
  objs : List (TO U)
  hin : Nat
section
variable {U : Univ}
mutual
def TV.itp (rl : Nat → Nat) : TV U → SV
  | .v x => .v x
  | .ref id i j => .ref id i j
  | .own id lo len => .own id lo len
  | .full id => .own id 0 (rl id)
  | .lst c xs => .lst (U.sz c) (xs.map (U.encS c))
  | .agg l => .agg (itpL rl l)
  | .tup l => .tup (itpL rl l)
  | .elt c x j => .elt (U.encS c x) j
  | .mp id => .mp id
  | .fn f l => .fn f (itpL rl l)
  | .junk => .v undef
def itpL (rl : Nat → Nat) : List (TV U) → List SV
  | [] => []
  | x :: l => x.itp rl :: itpL rl l
end
mutual
/-- Of such objects alone. -/
def TV.all (p : Nat → Bool) : TV U → Bool
  | .v _ => true
  | .ref id _ _ => p id
  | .own id _ _ => p id
  | .full id => p id
  | .lst _ _ => true
  | .agg l => allL p l
  | .tup l => allL p l
  | .elt _ _ _ => true
  | .mp id => p id
  | .fn _ l => allL p l
  | .junk => true
def allL (p : Nat → Bool) : List (TV U) → Bool
  | [] => true
  | x :: l => x.all p && allL p l
end
/-- Of objects below a number alone. -/
abbrev TV.bel (n : Nat) (x : TV U) : Bool := x.all fun i => decide (i < n)
abbrev belL (n : Nat) (l : List (TV U)) : Bool := allL (fun i => decide (i < n)) l
mutual
theorem all_mono {p q : Nat → Bool} (h : ∀ i, p i = true → q i = true) : ∀ {x : TV U}, x.all p = true → x.all q = true
  | .v _, _ => rfl
  | .ref .., hx => h _ hx
  | .own .., hx => h _ hx
  | .full id, hx => h _ hx
  | .lst .., _ => rfl
  | .agg l, hx => allL_mono h (l := l) hx
  | .tup l, hx => allL_mono h (l := l) hx
  | .elt .., _ => rfl
  | .mp id, hx => h _ hx
  | .fn _ l, hx => allL_mono h (l := l) hx
  | .junk, _ => rfl
theorem allL_mono {p q : Nat → Bool} (h : ∀ i, p i = true → q i = true) : ∀ {l : List (TV U)}, allL p l = true → allL q l = true
  | [], _ => rfl
  | x :: l, hx => by
    have hx : (x.all p && allL p l) = true := hx
    rw [Bool.and_eq_true] at hx
    show (x.all q && allL q l) = true
    rw [all_mono h hx.1, allL_mono h hx.2]
    rfl
end
def TO.bel (n : Nat) : TO U → Bool
  | .cells l _ => belL n l
  | _ => true
def TO.rlen : TO U → Nat
  | .dead n => n
  | .cells _ _ => 0
  | .row _ xs _ => xs.length
  | .mp .. => 0
def TO.itp (rl : Nat → Nat) : TO U → OS
  | .dead _ => .dead
  | .cells l fz => .ob ⟨l.length, [itpL rl l], fz⟩
  | .row c xs fz => .ob ⟨U.sz c, xs.map (U.encS c), fz⟩
  | .mp c xs fz => .ob ⟨U.sz c, xs.map (U.encS c), fz⟩
def nth {α : Type} : List α → Nat → Option α
  | [], _ => none
  | x :: _, 0 => some x
  | _ :: l, n + 1 => nth l n
def setN {α : Type} : List α → Nat → α → List α
  | [], _, _ => []
  | _ :: l, 0, y => y :: l
  | x :: l, n + 1, y => x :: setN l n y
/-- Written over, or put behind. -/
def setO {α : Type} : List α → Nat → α → List α
  | [], _, y => [y]
  | _ :: l, 0, y => y :: l
  | x :: l, n + 1, y => x :: setO l n y
def getN (l : List (TV U)) (n : Nat) : TV U := (nth l n).getD .junk
def rlen (l : List (TO U)) (n : Nat) : Nat := match nth l n with | some o => o.rlen | none => 0
theorem nth_eq {α : Type} : ∀ (l : List α) (n : Nat), nth l n = l[n]?
  | [], n => by simp [nth]
  | x :: l, 0 => rfl
  | x :: l, n + 1 => by rw [nth, nth_eq l n, List.getElem?_cons_succ]
theorem setN_eq {α : Type} : ∀ (l : List α) (n : Nat) (y : α), setN l n y = l.set n y
  | [], n, y => rfl
  | x :: l, 0, y => rfl
  | x :: l, n + 1, y => by rw [setN, setN_eq l n, List.set_cons_succ]
theorem nth_setO {α : Type} : ∀ (l : List α) (n : Nat) (y : α) (k : Nat), n ≤ l.length → nth (setO l n y) k = if k = n then some y else nth l k
  | [], 0, y, 0, _ => rfl
  | [], 0, y, k + 1, _ => by simp [setO, nth]
  | [], n + 1, y, k, h => by simp at h
  | x :: l, 0, y, 0, _ => rfl
  | x :: l, 0, y, k + 1, _ => by simp [setO, nth]
  | x :: l, n + 1, y, 0, _ => by simp [setO, nth]
  | x :: l, n + 1, y, k + 1, h => by
    rw [setO, nth, nth_setO l n y k (by simpa using h)]
    simp [nth]
theorem length_setO {α : Type} : ∀ (l : List α) (n : Nat) (y : α), (setO l n y).length = if n < l.length then l.length else l.length + 1
  | [], n, y => by simp [setO]
  | x :: l, 0, y => by simp [setO]
  | x :: l, n + 1, y => by
    rw [setO, List.length_cons, length_setO l n y, List.length_cons]
    by_cases h : n < l.length
    · rw [if_pos h, if_pos (by omega)]
    · rw [if_neg h, if_neg (by omega)]
theorem nth_lt {α : Type} {l : List α} {n : Nat} {x : α} (h : nth l n = some x) : n < l.length := by
  rw [nth_eq] at h
  exact (List.getElem?_eq_some_iff.1 h).1
theorem getN_set (l : List (TV U)) (n : Nat) (y : TV U) (k : Nat) : getN (setN l n y) k = if k = n ∧ n < l.length then y else getN l k := by
  unfold getN
  rw [nth_eq, nth_eq, setN_eq, List.getElem?_set]
  by_cases h : n = k
  · subst h
    by_cases h2 : n < l.length
    · simp [h2]
    · simp [h2]
  · rw [if_neg h, if_neg (fun h2 => h h2.1.symm)]
mutual
theorem itp_congr {rl rl' : Nat → Nat} {n : Nat} (h : ∀ i, i < n → rl i = rl' i) : ∀ {x : TV U}, x.bel n = true → x.itp rl = x.itp rl'
  | .v _, _ => rfl
  | .ref .., _ => rfl
  | .own .., _ => rfl
  | .full id, hx => by
    show SV.own id 0 (rl id) = _
    rw [h id (of_decide_eq_true hx)]
    rfl
  | .lst .., _ => rfl
  | .agg l, hx => congrArg SV.agg (itpL_congr h (l := l) hx)
  | .tup l, hx => congrArg SV.tup (itpL_congr h (l := l) hx)
  | .elt .., _ => rfl
  | .mp .., _ => rfl
  | .fn f l, hx => congrArg (SV.fn f) (itpL_congr h (l := l) hx)
  | .junk, _ => rfl
theorem itpL_congr {rl rl' : Nat → Nat} {n : Nat} (h : ∀ i, i < n → rl i = rl' i) : ∀ {l : List (TV U)}, belL n l = true → itpL rl l = itpL rl' l
  | [], _ => rfl
  | x :: l, hx => by
    have hx : (x.bel n && belL n l) = true := hx
    rw [Bool.and_eq_true] at hx
    show x.itp rl :: itpL rl l = x.itp rl' :: itpL rl' l
    rw [itp_congr h hx.1, itpL_congr h hx.2]
end
theorem bel_mono {n m : Nat} (h : n ≤ m) {x : TV U} (hx : x.bel n = true) : x.bel m = true := all_mono (fun i hi => decide_eq_true (by have := of_decide_eq_true hi; omega)) hx
theorem belL_mono {n m : Nat} (h : n ≤ m) {l : List (TV U)} (hx : belL n l = true) : belL m l = true := allL_mono (fun i hi => decide_eq_true (by have := of_decide_eq_true hi; omega)) hx
theorem allL_all (p : Nat → Bool) : ∀ l : List (TV U), allL p l = l.all (TV.all p)
  | [] => rfl
  | x :: l => by rw [allL, allL_all p l]; rfl
theorem itpL_eq (rl : Nat → Nat) : ∀ l : List (TV U), itpL rl l = l.map (TV.itp rl)
  | [] => rfl
  | x :: l => by rw [itpL, itpL_eq rl l]; rfl
theorem belL_all (n : Nat) (l : List (TV U)) : belL n l = l.all (TV.bel n) := allL_all _ l
theorem TO.itp_congr {rl rl' : Nat → Nat} {n : Nat} (h : ∀ i, i < n → rl i = rl' i) : ∀ {x : TO U}, x.bel n = true → x.itp rl = x.itp rl'
  | .dead _, _ => rfl
  | .cells l fz, hx => by
    show OS.ob _ = OS.ob _
    rw [itpL_congr h (l := l) hx]
  | .row .., _ => rfl
  | .mp .., _ => rfl

/-- A told state tells this of slots and objects. -/
structure M (s : TS U) (σ : St) : Prop where
  slot : ∀ t, getN s.slots t ≠ .junk → σ.slot t = (getN s.slots t).itp (rlen s.objs)
  ob : ∀ id o, nth s.objs id = some o → σ.obj id = o.itp (rlen s.objs)
  fresh : ∀ id, s.objs.length ≤ id → σ.obj id = .never
  sb : ∀ t, (getN s.slots t).bel s.objs.length = true
  obb : ∀ id o, nth s.objs id = some o → o.bel s.objs.length = true
def evO (s : TS U) : Operand → TV U
  | .tmp t => getN s.slots t
  | .const x => .v x
  | .global g => .v (.pointer (some ⟨g, 0, none⟩))
  | .func f => .v (.func (.func f) #[] #[])
theorem M.ev {s : TS U} {σ : St} (h : M s σ) {x : Operand} {tv : TV U} (hx : evO s x = tv) (hj : tv ≠ .junk) : σ.ev x = tv.itp (rlen s.objs) := by
  subst hx
  cases x with
  | tmp t => exact h.slot t hj
  | const v => rfl
  | global g => rfl
  | func f => rfl
theorem M.evb {s : TS U} {σ : St} (h : M s σ) {x : Operand} {tv : TV U} (hx : evO s x = tv) : tv.bel s.objs.length = true := by
  subst hx
  cases x with
  | tmp t => exact h.sb t
  | const v => rfl
  | global g => rfl
  | func f => rfl
structure TEff (U : Univ) where
  v : TV U
  ob : List (Nat × TO U)
def updO : List (TO U) → List (Nat × TO U) → List (TO U)
  | l, [] => l
  | l, (i, x) :: r => updO (setO l i x) r
def setD (l : List (TV U)) (d : Option Nat) (x : TV U) : List (TV U) := match d with | some d => setN l d x | none => l
def TS.app (s : TS U) (d : Option Nat) (e : TEff U) : TS U := ⟨setD s.slots d e.v, updO s.objs e.ob, s.hin⟩
/-- Objects that may be written over thus. -/
def ObsOk : List (TO U) → List (Nat × TO U) → Prop
  | _, [] => True
  | l, (i, x) :: r => ((∃ o, nth l i = some o ∧ o.rlen = x.rlen) ∨ i = l.length) ∧ ObsOk (setO l i x) r
def obsBelow (n : Nat) (l : List (Nat × TO U)) : Bool := l.all fun p => p.2.bel n
def TEff.itp (rl : Nat → Nat) (d : Option Nat) (e : TEff U) : Eff := ⟨d, e.v.itp rl, e.ob.map fun p => (p.1, p.2.itp rl)⟩
theorem updO_len : ∀ (r : List (Nat × TO U)) (l : List (TO U)), l.length ≤ (updO l r).length
  | [], l => Nat.le_refl _
  | (i, x) :: r, l => by
    have h1 := updO_len r (setO l i x)
    have h2 := length_setO l i x
    show _ ≤ (updO (setO l i x) r).length
    split at h2 <;> omega
theorem updO_rlen : ∀ (r : List (Nat × TO U)) (l : List (TO U)), ObsOk l r → ∀ id, id < l.length → rlen (updO l r) id = rlen l id
  | [], l, _, id, _ => rfl
  | (i, x) :: r, l, h, id, hid => by
    obtain ⟨h1, h2⟩ := h
    have hl := length_setO l i x
    have hle : i ≤ l.length := by
      rcases h1 with ⟨o, ho, _⟩ | h1
      · exact Nat.le_of_lt (nth_lt ho)
      · omega
    show rlen (updO (setO l i x) r) id = _
    rw [updO_rlen r _ h2 id (by split at hl <;> omega)]
    unfold rlen
    rw [nth_setO l i x id hle]
    by_cases e : id = i
    · subst e
      rw [if_pos rfl]
      rcases h1 with ⟨o, ho, hr⟩ | h1
      · rw [ho]; exact hr.symm
      · omega
    · rw [if_neg e]
theorem updO_ob : ∀ (r : List (Nat × TO U)) (l : List (TO U)), ObsOk l r → ∀ (rl : Nat → Nat) (σ : St) (id : Nat), (∀ o, nth l id = some o → σ.obj id = o.itp rl) → (nth l id = none → σ.obj id = .never) →
    (∀ o, nth (updO l r) id = some o → (σ.upds (r.map fun p => (p.1, p.2.itp rl))).obj id = o.itp rl) ∧ (nth (updO l r) id = none → (σ.upds (r.map fun p => (p.1, p.2.itp rl))).obj id = .never)
  | [], l, _, rl, σ, id, h1, h2 => ⟨h1, h2⟩
  | (i, x) :: r, l, h, rl, σ, id, h1, h2 => by
    obtain ⟨k1, k2⟩ := h
    have hle : i ≤ l.length := by
      rcases k1 with ⟨o, ho, _⟩ | k1
      · exact Nat.le_of_lt (nth_lt ho)
      · omega
    have hs := nth_setO l i x id hle
    refine updO_ob r (setO l i x) k2 rl (σ.upd i (x.itp rl)) id (fun o ho => ?_) (fun ho => ?_)
    · rw [hs] at ho
      show (if id = i then _ else σ.obj id) = _
      by_cases e : id = i
      · rw [if_pos e] at ho ⊢
        cases ho
        rfl
      · rw [if_neg e] at ho ⊢
        exact h1 o ho
    · rw [hs] at ho
      show (if id = i then _ else σ.obj id) = _
      by_cases e : id = i
      · rw [if_pos e] at ho
        cases ho
      · rw [if_neg e] at ho ⊢
        exact h2 ho
theorem updO_below : ∀ (r : List (Nat × TO U)) (l : List (TO U)) (n : Nat), ObsOk l r → (∀ id o, nth l id = some o → o.bel n = true) → obsBelow n r = true → ∀ id o, nth (updO l r) id = some o → o.bel n = true
  | [], l, n, _, h, _, id, o, ho => h id o ho
  | (i, x) :: r, l, n, h, hb, hr, id, o, ho => by
    obtain ⟨k1, k2⟩ := h
    have hle : i ≤ l.length := by
      rcases k1 with ⟨o, ho, _⟩ | k1
      · exact Nat.le_of_lt (nth_lt ho)
      · omega
    have hr : (x.bel n && obsBelow n r) = true := hr
    rw [Bool.and_eq_true] at hr
    refine updO_below r (setO l i x) n k2 (fun id o ho => ?_) hr.2 id o ho
    rw [nth_setO l i x id hle] at ho
    by_cases e : id = i
    · rw [if_pos e] at ho
      cases ho
      exact hr.1
    · rw [if_neg e] at ho
      exact hb id o ho
theorem TO.bel_mono {n m : Nat} (h : n ≤ m) : ∀ {x : TO U}, x.bel n = true → x.bel m = true
  | .cells l _, hx => belL_mono h (l := l) hx
  | .dead _, _ => rfl
  | .row .., _ => rfl
  | .mp .., _ => rfl
theorem M.app {s : TS U} {σ : St} (h : M s σ) (d : Option Nat) (e : TEff U) (hok : ObsOk s.objs e.ob) (hv : e.v.bel (updO s.objs e.ob).length = true) (ho : obsBelow (updO s.objs e.ob).length e.ob = true) :
    M (s.app d e) (σ.app (e.itp (rlen (updO s.objs e.ob)) d)) := by
  have hlen := updO_len e.ob s.objs
  have hrl := updO_rlen e.ob s.objs hok
  have hold : ∀ id o, nth s.objs id = some o → σ.obj id = o.itp (rlen (updO s.objs e.ob)) := fun id o ho => by
    rw [h.ob id o ho]
    exact TO.itp_congr (fun i hi => (hrl i hi).symm) (h.obb id o ho)
  have hnone : ∀ id, nth s.objs id = none → σ.obj id = .never := fun id hn => by
    rw [nth_eq] at hn
    exact h.fresh id (List.getElem?_eq_none_iff.1 hn)
  have hu := fun id => updO_ob e.ob s.objs hok (rlen (updO s.objs e.ob)) σ id (hold id) (hnone id)
  have hslot : ∀ t, getN (setD s.slots d e.v) t = if d = some t ∧ t < s.slots.length then e.v else getN s.slots t := fun t => by
    cases d with
    | none => simp [setD]
    | some d =>
      show getN (setN s.slots d e.v) t = _
      rw [getN_set]
      by_cases e1 : t = d
      · subst e1; simp
      · rw [if_neg (fun h => e1 h.1), if_neg (fun h => e1 (Option.some.inj h.1).symm)]
  refine ⟨fun t ht => ?_, fun id o ho => ?_, fun id hid => ?_, fun t => ?_, fun id o ho' => ?_⟩
  · show (if d = some t then e.v.itp _ else (σ.upds _).slot t) = _
    have ht : getN (setD s.slots d e.v) t ≠ .junk := ht
    show _ = (getN (setD s.slots d e.v) t).itp _
    rw [hslot] at ht ⊢
    rw [upds_slot]
    by_cases e1 : d = some t
    · by_cases e2 : t < s.slots.length
      · rw [if_pos e1, if_pos ⟨e1, e2⟩]; rfl
      · rw [if_neg (fun h => e2 h.2)] at ht
        exact absurd (by unfold getN; rw [nth_eq, List.getElem?_eq_none (by omega)]; rfl) ht
    · have hn : ¬ (d = some t ∧ t < s.slots.length) := fun h => e1 h.1
      rw [if_neg hn] at ht
      rw [if_neg e1, if_neg hn, h.slot t ht]
      exact itp_congr (fun i hi => (hrl i hi).symm) (h.sb t)
  · exact (hu id).1 o ho
  · refine (hu id).2 ?_
    rw [nth_eq]
    exact List.getElem?_eq_none hid
  · show (getN (setD s.slots d e.v) t).bel (updO s.objs e.ob).length = true
    rw [hslot]
    split
    · exact hv
    · exact bel_mono hlen (h.sb t)
  · exact updO_below e.ob s.objs _ hok (fun id o ho => TO.bel_mono hlen (h.obb id o ho)) ho id o ho'
end
theorem Rel.recell {f : Fr} {g : Gh} {σ σ' : St} {a : Act} {w : World} (h : Rel f g σ a w) (hs : ∀ t, Rep g w.heap (a.tmps.getD t undef) (σ'.slot t))
    (ho : ∀ id, σ'.obj id = σ.obj id ∨ ∃ o o', σ.obj id = .ob o ∧ σ'.obj id = .ob o' ∧ o'.m = o.m ∧ o'.fz = o.fz ∧ o'.rows.length = o.rows.length ∧ ∀ xs, RepR g w.heap xs o.m o.rows → RepR g w.heap xs o.m o'.rows) : Rel f g σ' a w := by
  have hb : ∀ id o', σ'.obj id = .ob o' → ∃ o, σ.obj id = .ob o ∧ o'.m = o.m ∧ o'.fz = o.fz ∧ o'.rows.length = o.rows.length ∧ ∀ xs, RepR g w.heap xs o.m o.rows → RepR g w.heap xs o.m o'.rows := fun id o' h' => by
    rcases ho id with e | ⟨o, o'', h1, h2, h3, h4, h5, h6⟩
    · rw [e] at h'
      exact ⟨o', h', rfl, rfl, rfl, fun _ h => h⟩
    · rw [h2] at h'
      obtain rfl := OS.ob.inj h'
      exact ⟨o, h1, h3, h4, h5, h6⟩
  exact { h with
    slot := hs
    never := fun id hid => by
      rcases ho id with e | ⟨o, o'', h1, h2, _⟩
      · rw [e] at hid; exact h.never id hid
      · rw [h2] at hid; cases hid
    ob := fun id o' h' => by
      obtain ⟨o, h1, h2, h3, hl, h4⟩ := hb id o' h'
      obtain ⟨⟨b, cs, T, fr, k1, k2, k3, k4, k5, k6⟩, k7⟩ := h.ob id o h1
      exact ⟨⟨b, cs, T, fr, k1, by rw [h2, hl]; exact k2, by rw [h2]; exact h4 _ k3, k4, by rw [h3]; exact k5, by rw [h3]; exact k6⟩, trivial⟩
    inj := fun i j o o' b h1 h2 z1 z2 => by
      obtain ⟨p, q1, q2, q3, _⟩ := hb i o h1
      obtain ⟨p', q1', q2', q3', _⟩ := hb j o' h2
      exact h.inj i j p p' b q1 q1' (by rw [← q3]; exact z1) (by rw [← q3']; exact z2)
    own := fun i o b h1 z1 => by
      obtain ⟨p, q1, q2, q3, _⟩ := hb i o h1
      exact h.own i p b q1 (by rw [← q3]; exact z1) }
/-- Told with less. -/
def LeOS : OS → OS → Prop
  | .never, .never => True
  | .dead, .dead => True
  | .ob o, .ob o' => o'.m = o.m ∧ o'.fz = o.fz ∧ o'.rows.length = o.rows.length ∧ ∀ (g : Gh) (H : Array Go.Obj) (xs : List Value), RepR g H xs o.m o.rows → RepR g H xs o.m o'.rows
  | _, _ => False
theorem LeOS.refl : ∀ x : OS, LeOS x x
  | .never => trivial
  | .dead => trivial
  | .ob o => ⟨rfl, rfl, rfl, fun _ _ _ h => h⟩
inductive LeObs : List (Nat × OS) → List (Nat × OS) → Prop where
  | nil : LeObs [] []
  | cons {i : Nat} {x y : OS} {l m : List (Nat × OS)} (h : LeOS x y) (t : LeObs l m) : LeObs ((i, x) :: l) ((i, y) :: m)
theorem LeObs.wrO : ∀ {l m : List (Nat × OS)}, LeObs l m → ∀ i, (Eng.wrO l i = none ∧ Eng.wrO m i = none) ∨ ∃ x y, Eng.wrO l i = some x ∧ Eng.wrO m i = some y ∧ LeOS x y
  | _, _, .nil, i => .inl ⟨rfl, rfl⟩
  | _, _, .cons (i := j) (x := x) (y := y) (l := l) (m := m) h t, i => by
    rcases t.wrO i with ⟨h1, h2⟩ | ⟨a, b, h1, h2, h3⟩
    · by_cases e : i = j
      · exact .inr ⟨x, y, by rw [Eng.wrO, h1, if_pos e]; rfl, by rw [Eng.wrO, h2, if_pos e]; rfl, h⟩
      · exact .inl ⟨by rw [Eng.wrO, h1, if_neg e]; rfl, by rw [Eng.wrO, h2, if_neg e]; rfl⟩
    · exact .inr ⟨a, b, by rw [Eng.wrO, h1]; rfl, by rw [Eng.wrO, h2]; rfl, h3⟩
theorem step_weak {P : Program} {o : Oper} {L : List Loc} {d : Option Nat} {v v' : SV} {ob ob' : List (Nat × OS)} {s : St} (h : Step P o L ⟨d, v, ob⟩ s) (hv : ∀ (g : Gh) (H : Array Go.Obj) (x : Value), Rep g H x v → Rep g H x v') (ho : LeObs ob ob') : Step P o L ⟨d, v', ob'⟩ s := by
  intro f σ a w K Q hA hd hR hK
  refine h f σ a w K Q hA hd hR fun a' w' ⟨g, hR'⟩ => hK a' w' ⟨g, hR'.recell (fun t => ?_) fun id => ?_⟩
  · have h1 := hR'.slot t
    show Rep _ _ _ (if d = some t then v' else (σ.upds ob').slot t)
    have h1 : Rep g w'.heap (a'.tmps.getD t undef) (if d = some t then v else (σ.upds ob).slot t) := h1
    rw [upds_slot] at h1 ⊢
    by_cases e : d = some t
    · rw [if_pos e] at h1 ⊢; exact hv _ _ _ h1
    · rw [if_neg e] at h1 ⊢; exact h1
  · show (σ.upds ob').obj id = (σ.upds ob).obj id ∨ ∃ o o', (σ.upds ob).obj id = .ob o ∧ (σ.upds ob').obj id = .ob o' ∧ _
    rw [upds_obj, upds_obj]
    rcases ho.wrO id with ⟨h1, h2⟩ | ⟨x, y, h1, h2, h3⟩
    · left; rw [h1, h2]
    · rw [h1, h2]
      cases x with
      | never => cases y with | never => exact .inl rfl | _ => exact h3.elim
      | dead => cases y with | dead => exact .inl rfl | _ => exact h3.elim
      | ob p => cases y with
        | ob q => exact .inr ⟨p, q, rfl, rfl, h3.1, h3.2.1, h3.2.2.1, fun xs hx => h3.2.2.2 _ _ _ hx⟩
        | _ => exact h3.elim
/-- A row in which each is told with less. -/
theorem repR_weak {g : Gh} {H : Array Go.Obj} : ∀ {rows rows' : List (List SV)} {xs : List Value} {m : Nat}, rows.length = rows'.length → (∀ (i : Nat) (r r' : List SV), rows[i]? = some r → rows'[i]? = some r' → ∀ vs, RepL g H vs r → RepL g H vs r') → RepR g H xs m rows → RepR g H xs m rows'
  | [], [], _, _, _, _, h => h
  | r :: rows, r' :: rows', _, _, hl, hw, h => by
    cases h with
    | cons hm h t => exact .cons hm (hw 0 r r' rfl rfl _ h) (repR_weak (by simpa using hl) (fun i r r' h1 h2 => hw (i + 1) r r' (by simpa using h1) (by simpa using h2)) t)
  | [], _ :: _, _, _, hl, _, _ => by cases hl
  | _ :: _, [], _, _, hl, _, _ => by cases hl
end Go.Proofs.YtmcflglkfgnbbaaDoor.Eng

/- What operations make of told states. -/
namespace Go.Proofs.YtmcflglkfgnbbaaDoor.Eng
open Go Go.RowKit
set_option linter.unusedVariables false
set_option linter.unusedSimpArgs false

/-- What the parts of a struct are, of which two are compared. -/
inductive EK where
  | b
  | i
  | s
/-- A type of maps: the kind of its pairs, what keys and values are, how they are told. -/
structure MK (U : Univ) where
  c : U.C
  A : Type
  B : Type
  eq : A → A → Bool
  fr : List (U.T c) → List (A × B)
  to : List (A × B) → List (U.T c)
  dk : TV U → Option A
  dv : TV U → Option B
  ev : B → TV U
  zero : B
structure MKok (P : Program) {U : Univ} (T : Nat) (m : MK U) : Prop where
  ex : ∃ (kt et : TypeId) (zi : TypeInfo) (zv : Value) (kv : m.A → Value) (bv : m.B → SV), P.underlying T = some (.map kt et) ∧ KeyOk P kt kv m.eq ∧ P.info? et = some zi ∧ zi.zero = some zv ∧ (∀ g H, Rep g H zv (bv m.zero)) ∧
    U.sz m.c = 2 ∧ (∀ l, l.map (U.encS m.c) = prs kv bv (m.fr l)) ∧ (∀ l, m.fr (m.to l) = l) ∧ (∀ tv k, m.dk tv = some k → tv ≠ .junk ∧ ∀ rl g H v, Rep g H v (tv.itp rl) → v = kv k) ∧
    (∀ tv b, m.dv tv = some b → tv ≠ .junk ∧ ∀ rl g H v, Rep g H v (tv.itp rl) → Rep g H v (bv b)) ∧ (∀ b rl, (m.ev b).itp rl = bv b) ∧ (∀ b n, (m.ev b).bel n = true)
/-- The kind of bytes. -/
structure U8 (U : Univ) where
  c : U.C
  f : List (U.T c) → List Int
structure Cx where
  U : Univ
  tt : Nat → Option TI
  sty : Nat → Bool
  enc : (c : U.C) → U.T c → List (TV U)
  dec : (c : U.C) → List (TV U) → Option (U.T c)
  elc : Nat → Option U.C
  eqt : Nat → Option (List EK)
  mt : Nat → Option (MK U)
  u8k : Option (U8 U)
  rowk : U.C → Bool
/-- A row that is none, told as a list of nothing. -/
def nilTo {U : Univ} (c : U.C) : TV U → TV U
  | .v (.slice none 0 0) => .lst c []
  | x => x
def prepL {U : Univ} : List (Option U.C) → List (TV U) → List (TV U)
  | some c :: cs, x :: l => nilTo c x :: prepL cs l
  | none :: cs, x :: l => x :: prepL cs l
  | _, l => l
theorem repL_prep {U : Univ} {g : Gh} {H : Array Go.Obj} {rl : Nat → Nat} : ∀ (cs : List (Option U.C)) (l : List (TV U)) {vs : List Value}, RepL g H vs (itpL rl l) → RepL g H vs (itpL rl (prepL cs l))
  | some c :: cs, x :: l, _, h => by
    have h : RepL g H _ (x.itp rl :: itpL rl l) := h
    cases h with
    | cons h t =>
      refine .cons ?_ (repL_prep cs l t)
      unfold nilTo
      split
      · obtain rfl := rep_v h
        exact .nil
      · exact h
  | none :: cs, x :: l, _, h => by
    have h : RepL g H _ (x.itp rl :: itpL rl l) := h
    cases h with
    | cons h t => exact .cons h (repL_prep cs l t)
  | [], l, _, h => by
    show RepL g H _ (itpL rl (prepL [] l))
    unfold prepL
    exact h
  | some _ :: _, [], _, h => h
  | none :: _, [], _, h => h
def EK.fits : EK → Option TypeDesc → Bool
  | .b, some .bool => true
  | .i, some (.int _) => true
  | .s, some .string => true
  | _, _ => false
theorem EK.fits_b {u : Option TypeDesc} (h : EK.fits .b u = true) : u = some .bool := by
  cases u with
  | none => cases h
  | some d => cases d <;> first | rfl | cases h
theorem EK.fits_i {u : Option TypeDesc} (h : EK.fits .i u = true) : ∃ q, u = some (.int q) := by
  cases u with
  | none => cases h
  | some d => cases d <;> first | exact ⟨_, rfl⟩ | cases h
theorem EK.fits_s {u : Option TypeDesc} (h : EK.fits .s u = true) : u = some .string := by
  cases u with
  | none => cases h
  | some d => cases d <;> first | rfl | cases h
/-- Parts that are compared cell by cell. -/
def eqFs (P : Program) : List Field → Nat → List EK → Bool
  | [], _, [] => true
  | f :: fs, i, k :: ks => f.name != "_" && (f.offset == i && (P.plainKey f.type && (k.fits (P.underlying f.type) && eqFs P fs (i + 1) ks)))
  | _, _, _ => false
def eqTb (P : Program) (T : Nat) (ks : List EK) : Bool := match P.underlying T with
  | some (.struct fs) => eqFs P fs.toList 0 ks && (!P.stoodInHeld T && !P.eqGuardType P.depth T)
  | _ => false
/-- Two rows of values, compared. -/
def eqVs : List EK → List Value → List Value → Option Bool
  | [], [], [] => some true
  | .b :: ks, .bool a :: l, .bool b :: m => (eqVs ks l m).map fun r => (a == b) && r
  | .i :: ks, .int i a :: l, .int j b :: m => if i = j then (eqVs ks l m).map fun r => decide (a = b) && r else none
  | .s :: ks, .string a :: l, .string b :: m => (eqVs ks l m).map fun r => (a.toList == b.toList) && r
  | _, _, _ => none
theorem drop_cons_get {α : Type} {l : List α} {i : Nat} {x : α} {r : List α} (h : l.drop i = x :: r) : l[i]? = some x ∧ l.drop (i + 1) = r := by
  constructor
  · have := congrArg (fun z => z[0]?) h
    simpa [List.getElem?_drop] using this
  · have := congrArg List.tail h
    rw [List.tail_drop] at this
    exact this
theorem run_fields {P : Program} {d : Nat} {xs ys : Array Value} {w : World} : ∀ (fs : List Field) (i : Nat) (ks : List EK) (b : Bool), eqFs P fs i ks = true → eqVs ks (xs.toList.drop i) (ys.toList.drop i) = some b → (Op.eqFields (d + 1) xs ys fs).run P w = .ok b w
  | [], i, ks, b, h, hv => by
    cases ks with
    | cons k ks => cases h
    | nil =>
      have : b = true := by
        unfold eqVs at hv
        split at hv <;> first | (cases hv; rfl) | (rename_i h _ _; cases h) | (rename_i h _; cases h) | (cases hv; done)
      subst this
      rfl
  | f :: fs, i, ks, b, h, hv => by
    cases ks with
    | nil => cases h
    | cons k ks =>
      unfold eqFs at h
      simp only [Bool.and_eq_true, bne_iff_ne, ne_eq, beq_iff_eq] at h
      obtain ⟨hn, ho, hp, hk, hfs⟩ := h
      subst ho
      have core : ∀ (a c : Value) (l m : List Value) (q r : Bool), xs.toList.drop f.offset = a :: l → ys.toList.drop f.offset = c :: m → eqVs ks l m = some r → b = (q && r) → (∀ w : World, (Op.equalIn (d + 1) f.type a c).run P w = .ok q w) → (Op.eqFields (d + 1) xs ys (f :: fs)).run P w = .ok b w := by
        intro a c l m q r e1 e2 e3 e4 e5
        obtain ⟨g1, t1⟩ := drop_cons_get e1
        obtain ⟨g2, t2⟩ := drop_cons_get e2
        have ih := run_fields (P := P) (d := d) (xs := xs) (ys := ys) (w := w) fs (f.offset + 1) ks r hfs (by rw [t1, t2]; exact e3)
        rw [Array.getElem?_toList] at g1 g2
        simp only [Op.eqFields, hn, ne_eq, not_false_eq_true, if_true, Sem.run_bind, run_part_plain w hp g1, run_part_plain w hp g2, Result.andThen_ok, e5 w]
        subst e4
        cases q
        · simp
        · simpa using ih
      cases hxs : xs.toList.drop f.offset with
      | nil => rw [hxs] at hv; cases k <;> cases hv
      | cons a l =>
        cases hys : ys.toList.drop f.offset with
        | nil => rw [hxs, hys] at hv; cases k <;> cases a <;> cases hv
        | cons c m =>
          rw [hxs, hys] at hv
          cases k with
          | b =>
            cases a <;> cases c <;> try (cases hv; done)
            rename_i p q
            obtain ⟨r, hr, rfl⟩ := Option.map_eq_some_iff.1 hv
            refine core _ _ _ _ (p == q) r hxs hys hr rfl fun w => run_equalIn_bool' w d f.type p q (EK.fits_b hk)
          | i =>
            cases a <;> cases c <;> try (cases hv; done)
            rename_i i p j q
            unfold eqVs at hv
            split at hv <;> try (cases hv; done)
            rename_i hij
            subst hij
            obtain ⟨r, hr, rfl⟩ := Option.map_eq_some_iff.1 hv
            obtain ⟨k', hu⟩ := EK.fits_i hk
            refine core _ _ _ _ (decide (p = q)) r hxs hys hr rfl fun w => ?_
            rw [run_equalIn_int w d f.type i k' p q hu]
            rfl
          | s =>
            cases a <;> cases c <;> try (cases hv; done)
            rename_i p q
            obtain ⟨r, hr, rfl⟩ := Option.map_eq_some_iff.1 hv
            refine core _ _ _ _ (p.toList == q.toList) r hxs hys hr rfl fun w => run_equalIn_string w d f.type p q (EK.fits_s hk)
theorem EK.key {P : Program} {w : World} {kt : TypeId} {k : EK} {v : Value} (h : k.fits (P.underlying kt) = true) (hv : eqVs [k] [v] [v] ≠ none) (e : Bool) (n : Nat) : (Instr.checkKey e (n + 1) kt v).run P w = .ok () w := by
  cases k with
  | b =>
    have hd := EK.fits_b h
    unfold Instr.checkKey
    simp [Sem.run_bind, run_underlying hd, Result.andThen]
  | i =>
    obtain ⟨q, hd⟩ := EK.fits_i h
    unfold Instr.checkKey
    simp [Sem.run_bind, run_underlying hd, Result.andThen]
  | s =>
    have hd := EK.fits_s h
    unfold Instr.checkKey
    simp [Sem.run_bind, run_underlying hd, Result.andThen]
theorem eqVs_head {k : EK} {ks : List EK} {v : Value} {l : List Value} (h : eqVs (k :: ks) (v :: l) (v :: l) ≠ none) : eqVs [k] [v] [v] ≠ none ∧ eqVs ks l l ≠ none := by
  cases k <;> cases v <;> simp [eqVs] at h ⊢ <;> first | exact h | (refine ⟨?_, ?_⟩ <;> first | exact h | simp)
/-- Structs of bools, numbers, texts as keys. -/
theorem keyT {P : Program} {T : TypeId} {ks : List EK} (hT : eqTb P T ks = true) {A : Type} {kv : A → List Value} {eq : A → A → Bool} (hv : ∀ a b, eqVs ks (kv a) (kv b) = some (eq a b)) (iff : ∀ a b, eq a b = true ↔ kv a = kv b) (hsb : ∀ a, Instr.sameBits 10000 (.agg (kv a).toArray) (.agg (kv a).toArray) = true) : KeyOk P T (fun a => .agg (kv a).toArray) eq := by
  unfold eqTb at hT
  split at hT <;> try (cases hT; done)
  rename_i fs hu
  simp only [Bool.and_eq_true, Bool.not_eq_true'] at hT
  obtain ⟨h1, h2, h3⟩ := hT
  have hf : P.fieldsOf T = fs := by unfold Program.fieldsOf; rw [hu]
  have iff' : ∀ a b, eq a b = true ↔ (Value.agg (kv a).toArray : Value) = .agg (kv b).toArray := fun a b => (iff a b).trans ⟨fun h => by rw [h], fun h => by
    have := Value.agg.inj h
    have := congrArg Array.toList this
    simpa using this⟩
  have heq : ∀ (a b : A) (w : World), (Op.equal T (.agg (kv a).toArray) (.agg (kv b).toArray)).run P w = .ok (eq a b) w := fun a b w => by
    have hr : (Op.equalIn 10000 T (.agg (kv a).toArray) (.agg (kv b).toArray)).run P w = .ok (eq a b) w := by
      rw [run_equalIn_struct w 9999 T _ _ (by rw [hf]; exact hu) h2, hf]
      exact run_fields fs.toList 0 ks _ h1 (by rw [List.drop_zero, List.drop_zero]; exact hv a b)
    exact hr
  refine ⟨fun a e w => ?_, iff', fun k es w h => ?_, fun a w => ?_⟩
  · rw [show (10000 : Nat) = 9998 + 1 + 1 from rfl, Instr.checkKey]
    simp only [Sem.run_bind, run_underlying hu, Result.andThen_ok]
    rw [← Array.forIn_toList]
    have key : ∀ (L : List Field) (i : Nat) (ks : List EK), eqFs P L i ks = true → eqVs ks ((kv a).drop i) ((kv a).drop i) ≠ none → (forIn L PUnit.unit fun (f : Field) (_ : PUnit) => (if f.name ≠ "_" then (do
        let x ← part f.type (kv a).toArray f.offset
        Instr.checkKey e (9998 + 1) f.type x
        pure (ForInStep.yield PUnit.unit)) else pure (ForInStep.yield PUnit.unit) : Sem (ForInStep PUnit)) : Sem PUnit).run P w = .ok PUnit.unit w := by
      intro L
      induction L with
      | nil => intro i ks _ _; simp
      | cons f L ih =>
        intro i ks hL hne
        cases ks with
        | nil => cases hL
        | cons k ks =>
          unfold eqFs at hL
          simp only [Bool.and_eq_true, bne_iff_ne, ne_eq, beq_iff_eq] at hL
          obtain ⟨hn, ho, hp, hk, hfs⟩ := hL
          subst ho
          cases hd : (kv a).drop f.offset with
          | nil => rw [hd] at hne; exact absurd (by cases k <;> rfl) hne
          | cons v l =>
            rw [hd] at hne
            obtain ⟨g1, t1⟩ := drop_cons_get hd
            obtain ⟨q1, q2⟩ := eqVs_head hne
            have p1 : (part f.type (kv a).toArray f.offset).run P w = .ok v w := run_part_plain w hp (by simpa using g1)
            have p2 := EK.key (w := w) hk q1 e 9998
            simp only [List.forIn_cons, Sem.run_bind, hn, ne_eq, not_false_eq_true, if_true, Result.andThen_ok, p1, p2, Sem.run_pure]
            exact ih (f.offset + 1) ks hfs (by rw [t1]; exact q2)
    rw [key fs.toList 0 ks h1 (by rw [List.drop_zero, hv a a]; simp)]
    rfl
  · have now : ∀ (es : List MapEntry) (i : Nat), (∀ e ∈ es, ∃ a, e.key = .agg (kv a).toArray) → (Instr.findAsking T (.agg (kv k).toArray) es i).run P w = .ok (fndV (.agg (kv k).toArray) es i) w := by
      intro es
      induction es with
      | nil => intro i _; simp [Instr.findAsking, fndV]
      | cons e es ih =>
        intro i h
        obtain ⟨a, ha⟩ := h e List.mem_cons_self
        have ih := ih (i + 1) fun x hx => h x (List.mem_cons_of_mem _ hx)
        have he := heq k a w
        rw [← ha] at he
        cases hq : eq k a with
        | true =>
          rw [hq] at he
          rw [fndV_hit (by rw [ha]; exact ((iff' k a).1 hq).symm)]
          simp [Instr.findAsking, Sem.run_bind, he]
        | false =>
          rw [hq] at he
          rw [fndV_miss (by rw [ha]; intro q; have := (iff' k a).2 q.symm; rw [hq] at this; cases this)]
          simp [Instr.findAsking, Sem.run_bind, he, ih]
    have := now es 0 h
    cases es with
    | nil => simp [Instr.findKey, run_underlying hu, Instr.findNow, fndV]
    | cons e es =>
      have hn : Instr.findNow (.struct fs) (.agg (kv k).toArray) (e :: es) 0 = none := by simp [Instr.findNow, Instr.sameNow]
      simp only [Instr.findKey, Sem.run_bind, run_underlying hu, Result.andThen_ok, hn]
      exact this
  · simp [Instr.keyThatStays, hsb a]
structure CxOk (P : Program) (X : Cx) : Prop where
  eqt : ∀ T ks, X.eqt T = some ks → eqTb P T ks = true
  tab : Tab P X.tt
  str : ∀ T, X.sty T = true → P.underlying T = some .string
  enc : ∀ c x rl, itpL rl (X.enc c x) = X.U.encS c x
  encb : ∀ c x, belL 0 (X.enc c x) = true
  dec : ∀ c l x rl, X.dec c l = some x → ∀ g H vs, RepL g H vs (itpL rl l) → RepL g H vs (X.U.encS c x)
  len : ∀ c x, (X.U.encS c x).length = X.U.sz c
  pos : ∀ c, 0 < X.U.sz c
  one : ∀ c x, X.rowk c = true → (X.U.encS c x).all SV.one = true
  closed : ∀ c x, closedL (X.U.encS c x) = true
  mt : ∀ T m, X.mt T = some m → MKok P T m
  u8k : ∀ q, X.u8k = some q → X.U.sz q.c = 1 ∧ ∀ l, l.map (X.U.encS q.c) = (q.f l).map fun n => [SV.v (.int .u8 n)]
/-- What an operation leaves fits what it does. -/
structure Fit (P : Program) {U : Univ} (s : TS U) (o : Oper) (σ : St) (L : List Loc) (e : TEff U) : Prop where
  step : Step P o L (e.itp (rlen (updO s.objs e.ob)) o.dst) σ
  obs : ObsOk s.objs e.ob
  vb : e.v.bel (updO s.objs e.ob).length = true
  obb : obsBelow (updO s.objs e.ob).length e.ob = true
section
variable {P : Program} {X : Cx} {s : TS X.U} {o : Oper} {σ : St} {R : Type} {r : R} {k : List Loc → TEff X.U → Option R}
theorem Fit.pure {L : List Loc} {tv : TV X.U} (h : Step P o L ⟨o.dst, tv.itp (rlen s.objs), []⟩ σ) (hb : tv.bel s.objs.length = true) : Fit P s o σ L ⟨tv, []⟩ := ⟨h, trivial, hb, rfl⟩
/-! ### Moves -/
def TV.isJunk {U : Univ} : TV U → Bool
  | .junk => true
  | _ => false
theorem not_junk {U : Univ} {x : TV U} (h : x.isJunk = false) : x ≠ .junk := by rintro rfl; cases h
def evMv (X : Cx) (s : TS X.U) (x : Operand) (k : List Loc → TEff X.U → Option R) : Option R := match (evO s x).isJunk with | true => none | false => k (locO x) ⟨evO s x, []⟩
theorem evMv_ok {x : Operand} (h : evMv X s x k = some r) (hM : M s σ) (ho : o.op = .move x ∨ o.op = .assign x) : ∃ L e, k L e = some r ∧ Fit P s o σ L e := by
  unfold evMv at h
  split at h
  · cases h
  · rename_i hj
    refine ⟨_, _, h, .pure ?_ (hM.evb rfl)⟩
    rw [← hM.ev rfl (not_junk hj)]
    rcases ho with ho | ho
    · exact step_move ho
    · exact step_assign ho
def evPick (X : Cx) (s : TS X.U) (c x y : Operand) (k : List Loc → TEff X.U → Option R) : Option R :=
  match evO s c with
  | .v (.bool b) => cond b (match (evO s x).isJunk with | true => none | false => k (locO c ++ locO x ++ locO y) ⟨evO s x, []⟩) (match (evO s y).isJunk with | true => none | false => k (locO c ++ locO x ++ locO y) ⟨evO s y, []⟩)
  | _ => none
theorem evPick_ok {c x y : Operand} (h : evPick X s c x y k = some r) (hM : M s σ) (ho : o.op = .pick c x y) : ∃ L e, k L e = some r ∧ Fit P s o σ L e := by
  unfold evPick at h
  split at h
  · rename_i b hc
    have hs := step_pick (P := P) ho (b := b) (by rw [hM.ev hc (by simp)]; rfl)
    cases b with
    | true =>
      simp only [cond_true] at h
      split at h
      · cases h
      · rename_i hj
        refine ⟨_, _, h, .pure ?_ (hM.evb rfl)⟩
        rw [← hM.ev rfl (not_junk hj)]
        exact hs
    | false =>
      simp only [cond_false] at h
      split at h
      · cases h
      · rename_i hj
        refine ⟨_, _, h, .pure ?_ (hM.evb rfl)⟩
        rw [← hM.ev rfl (not_junk hj)]
        exact hs
  · cases h
/-! ### Numbers and texts -/
def tbin (op : BinOp) (x y : Value) (k : Value → Option R) : Option R := match x, y with
  | .int i a, .int j b => match op with
    | .shl => if b < 0 then none else k (.int i (i.wrap (a * 2 ^ (min b.toNat i.bits))))
    | .shr => if b < 0 then none else k (.int i (a.fdiv (2 ^ (min b.toNat i.bits))))
    | .add => if i = j then k (.int i (i.wrap (a + b))) else none
    | .sub => if i = j then k (.int i (i.wrap (a - b))) else none
    | .mul => if i = j then k (.int i (i.wrap (a * b))) else none
    | .quo => if i = j then (if b = 0 then none else k (.int i (i.wrap (a.tdiv b)))) else none
    | .rem => if i = j then (if b = 0 then none else k (.int i (a.tmod b))) else none
    | .eql => if i = j then k (.bool (decide (a = b))) else none
    | .neq => if i = j then k (.bool (!decide (a = b))) else none
    | .lss => if i = j then k (.bool (decide (a < b))) else none
    | .leq => if i = j then k (.bool (decide (a ≤ b))) else none
    | .gtr => if i = j then k (.bool (decide (b < a))) else none
    | .geq => if i = j then k (.bool (decide (b ≤ a))) else none
    | .and => if i = j then k (.int i (i.wrap ((BitVec.ofInt i.bits a &&& BitVec.ofInt i.bits b).toNat : Nat))) else none
    | .or => if i = j then k (.int i (i.wrap ((BitVec.ofInt i.bits a ||| BitVec.ofInt i.bits b).toNat : Nat))) else none
    | .xor => if i = j then k (.int i (i.wrap ((BitVec.ofInt i.bits a ^^^ BitVec.ofInt i.bits b).toNat : Nat))) else none
    | .andNot => if i = j then k (.int i (i.wrap ((BitVec.ofInt i.bits a &&& ~~~BitVec.ofInt i.bits b).toNat : Nat))) else none
  | .string a, .string b => match op with
    | .add => if a.size + b.size ≤ 9223372036854775807 then k (.string (a ++ b)) else none
    | .eql => k (.bool (a.toList == b.toList))
    | .neq => k (.bool (!(a.toList == b.toList)))
    | .lss => k (.bool (Op.bytesLess a.toList b.toList))
    | .leq => k (.bool (Op.bytesLess a.toList b.toList || a.toList == b.toList))
    | .gtr => k (.bool (!(Op.bytesLess a.toList b.toList || a.toList == b.toList)))
    | .geq => k (.bool (!Op.bytesLess a.toList b.toList))
    | _ => none
  | _, _ => none
theorem tbin_ok {op : BinOp} {x y : Value} {k : Value → Option R} (h : tbin op x y k = some r) : ∃ v, abin op x y = some v ∧ k v = some r := by
  unfold tbin at h
  split at h
  · cases op <;> simp only at h <;> (repeat' split at h) <;> first | (cases h; done) | (refine ⟨_, ?_, h⟩; subst_vars; simp_all [abin]; done) | (refine ⟨_, ?_, h⟩; subst_vars; simp_all [abin]; rfl) | (refine ⟨_, ?_, h⟩; subst_vars; unfold abin; rw [if_pos rfl]; simp [BEq.beq]; rfl)
  · cases op <;> simp only at h <;> (repeat' split at h) <;> first | (cases h; done) | (refine ⟨_, ?_, h⟩; simp_all [abin]; done) | (refine ⟨_, ?_, h⟩; simp only [abin]; rw [if_neg (by omega)])
  · cases h
/-- Two rows of what is told, compared. -/
def tvEq {U : Univ} : List EK → List (TV U) → List (TV U) → (Bool → Option R) → Option R
  | [], [], [], k => k true
  | .b :: ks, .v (.bool a) :: l, .v (.bool b) :: m, k => tvEq ks l m fun r => k ((a == b) && r)
  | .i :: ks, .v (.int i a) :: l, .v (.int j b) :: m, k => if i = j then tvEq ks l m fun r => k (decide (a = b) && r) else none
  | .s :: ks, .v (.string a) :: l, .v (.string b) :: m, k => tvEq ks l m fun r => k ((a.toList == b.toList) && r)
  | _, _, _, _ => none
theorem tvEq_path {U : Univ} : ∀ (ks : List EK) (l m : List (TV U)) {k : Bool → Option R} {r : R}, tvEq ks l m k = some r → ∃ b, k b = some r ∧ (∀ {R' : Type} (k' : Bool → Option R'), tvEq ks l m k' = k' b) ∧ ∃ a c, l = a.map TV.v ∧ m = c.map TV.v ∧ eqVs ks a c = some b
  | ks, l, m, k, r, h => by
    unfold tvEq at h
    split at h
    · exact ⟨true, h, fun k' => rfl, [], [], rfl, rfl, rfl⟩
    · obtain ⟨q, h1, h2, c, d, rfl, rfl, h5⟩ := tvEq_path _ _ _ h
      exact ⟨_, h1, fun k' => h2 _, .bool _ :: c, .bool _ :: d, rfl, rfl, by simp [eqVs, h5]⟩
    · split at h
      · rename_i e
        obtain ⟨q, h1, h2, c, d, rfl, rfl, h5⟩ := tvEq_path _ _ _ h
        exact ⟨_, h1, fun k' => by unfold tvEq; rw [if_pos e]; exact h2 _, .int _ _ :: c, .int _ _ :: d, rfl, rfl, by simp [eqVs, h5, e]⟩
      · cases h
    · obtain ⟨q, h1, h2, c, d, rfl, rfl, h5⟩ := tvEq_path _ _ _ h
      exact ⟨_, h1, fun k' => h2 _, .string _ :: c, .string _ :: d, rfl, rfl, by simp [eqVs, h5]⟩
    · cases h
theorem itpL_vals {U : Univ} (rl : Nat → Nat) : ∀ l : List Value, itpL rl (l.map (TV.v (U := U))) = l.map SV.v
  | [] => rfl
  | x :: l => congrArg (SV.v x :: ·) (itpL_vals rl l)
theorem repL_vals {g : Gh} {H : Array Go.Obj} : ∀ {l : List Value} {vs : List Value}, RepL g H vs (l.map SV.v) → vs = l
  | [], _, h => by cases h; rfl
  | x :: l, _, h => by
    cases h with
    | cons h t => rw [rep_v h, repL_vals t]
theorem rep_agg' {g : Gh} {H : Array Go.Obj} {x : Value} {l : List SV} (h : Rep g H x (.agg l)) : ∃ vs, x = .agg vs ∧ RepL g H vs.toList l := by
  cases h with
  | agg h => exact ⟨_, rfl, h⟩
/-- Two structs, compared. -/
theorem w_eqs {T T2 : TypeId} {ks : List EK} (hT : eqTb P T ks = true) {b : Bool} {x y : Operand} (ho : o.op = .binOp (if b then .eql else .neq) T x y T2) {l m : List Value} (hx : σ.ev x = .agg (l.map SV.v)) (hy : σ.ev y = .agg (m.map SV.v)) {q : Bool} (hq : eqVs ks l m = some q) : Step P o (locO x ++ locO y) ⟨o.dst, .v (.bool (if b then q else !q)), []⟩ σ :=
  step_value fun g σ' f ac w hA hR => by
    have e1 := hR.ev x
    rw [ev_agree hA.left, hx] at e1
    have e2 := hR.ev y
    rw [ev_agree hA.right, hy] at e2
    unfold eqTb at hT
    split at hT <;> try (cases hT; done)
    rename_i fs hu
    simp only [Bool.and_eq_true, Bool.not_eq_true'] at hT
    obtain ⟨h1, h2, h3⟩ := hT
    have hf : P.fieldsOf T = fs := by unfold Program.fieldsOf; rw [hu]
    obtain ⟨xs, ex, hxs⟩ := rep_agg' e1
    obtain ⟨ys, ey, hys⟩ := rep_agg' e2
    have hxs := repL_vals hxs
    have hys := repL_vals hys
    refine ⟨_, ?_, .v _⟩
    have hr : ∀ w : World, (Op.equalIn 10000 T (.agg xs) (.agg ys)).run P w = .ok q w := fun w => by
      rw [run_equalIn_struct w 9999 T xs ys (by rw [hf]; exact hu) h2, hf]
      exact run_fields fs.toList 0 ks q h1 (by rw [List.drop_zero, List.drop_zero, hxs, hys]; exact hq)
    have hg := fun op => run_eqGuard_agg (P := P) w op T x y xs ys h3
    cases b
    · simp [execOp, ho, ex, ey, Sem.run_bind, hg, run_neq_struct, hr]
    · simp [execOp, ho, ex, ey, Sem.run_bind, hg, run_eql_struct, hr]
/-- Two bools, or a pointer and none. -/
def evBin0 (X : Cx) (s : TS X.U) (op : BinOp) (T : TypeId) (x y : Operand) (k : List Loc → TEff X.U → Option R) : Option R :=
  match evO s x, evO s y with
  | .v (.bool p), .v (.bool q) => match X.tt T with
    | some t => match t.bool with
      | true => match op with
        | .eql => k (locO x ++ locO y) ⟨.v (.bool (p == q)), []⟩
        | .neq => k (locO x ++ locO y) ⟨.v (.bool !(p == q)), []⟩
        | _ => none
      | false => none
    | none => none
  | .v (.pointer none), .v (.pointer none) => match X.tt T with
    | some t => match t.ptr with
      | true => match op with
        | .eql => k (locO x ++ locO y) ⟨.v (.bool true), []⟩
        | .neq => k (locO x ++ locO y) ⟨.v (.bool false), []⟩
        | _ => none
      | false => none
    | none => none
  | .ref _ _ _, .v (.pointer none) => match X.tt T with
    | some t => match t.ptr with
      | true => match op with
        | .eql => k (locO x ++ locO y) ⟨.v (.bool false), []⟩
        | .neq => k (locO x ++ locO y) ⟨.v (.bool true), []⟩
        | _ => none
      | false => none
    | none => none
  | .elt _ _ _, .v (.pointer none) => match X.tt T with
    | some t => match t.ptr with
      | true => match op with
        | .eql => k (locO x ++ locO y) ⟨.v (.bool false), []⟩
        | .neq => k (locO x ++ locO y) ⟨.v (.bool true), []⟩
        | _ => none
      | false => none
    | none => none
  | .v a, .v b => tbin op a b fun v => k (locO x ++ locO y) ⟨.v v, []⟩
  | .agg l, .agg m => match X.eqt T with
    | some ks => match op with
      | .eql => tvEq ks l m fun r => k (locO x ++ locO y) ⟨.v (.bool r), []⟩
      | .neq => tvEq ks l m fun r => k (locO x ++ locO y) ⟨.v (.bool !r), []⟩
      | _ => none
    | none => none
  | _, _ => none
theorem w_elt_nil {tt : Nat → Option TI} {s : St} (ht : Tab P tt) {b : Bool} {T T2 : TypeId} {x y : Operand} (ho : o.op = .binOp (if b then .eql else .neq) T x y T2) {t : TI} (h1 : tt T = some t) (h2 : t.ptr = true) {cells : List SV} {j : Nat} (hx : s.ev x = .elt cells j) (hy : s.ev y = .v (.pointer none)) : Step P o (locO x ++ locO y) ⟨o.dst, .v (.bool !b), []⟩ s :=
  step_value fun g σ f ac w hA hR => by
    have e1 := hR.ev x
    rw [ev_agree hA.left, hx] at e1
    have e2 := ev_v hR hA.right hy
    obtain ⟨bb, off, he, _⟩ := rep_elt e1
    refine ⟨.bool !b, ?_, .v _⟩
    have hp := run_equal_pointer_nil (P := P) (w := w) T (some ⟨bb, off + j, none⟩) ((ht T t h1).pt h2)
    cases b <;> simp [execOp, ho, e2, he, Sem.run_bind, eqGuard_ptr, binOp, hp]
theorem evBin0_ok (hX : CxOk P X) {op : BinOp} {T T2 : TypeId} {x y : Operand} (h : evBin0 X s op T x y k = some r) (hM : M s σ) (ho : o.op = .binOp op T x y T2) : ∃ L e, k L e = some r ∧ Fit P s o σ L e := by
  unfold evBin0 at h
  split at h
  · rename_i p q hx hy
    have ex := hM.ev hx (by simp)
    have ey := hM.ev hy (by simp)
    split at h <;> try (cases h; done)
    rename_i t ht
    split at h <;> try (cases h; done)
    rename_i hb
    split at h
    · exact ⟨_, _, h, .pure (w_bool hX.tab (b := true) ho ht hb ex ey) rfl⟩
    · exact ⟨_, _, h, .pure (w_bool hX.tab (b := false) ho ht hb ex ey) rfl⟩
    · cases h
  · rename_i hx hy
    have ex := hM.ev hx (by simp)
    have ey := hM.ev hy (by simp)
    split at h <;> try (cases h; done)
    rename_i t ht
    split at h <;> try (cases h; done)
    rename_i hb
    split at h
    · exact ⟨_, _, h, .pure (w_nil_nil hX.tab (b := true) ho ht hb ex ey) rfl⟩
    · exact ⟨_, _, h, .pure (w_nil_nil hX.tab (b := false) ho ht hb ex ey) rfl⟩
    · cases h
  · rename_i hx hy
    have ex := hM.ev hx (by simp)
    have ey := hM.ev hy (by simp)
    split at h <;> try (cases h; done)
    rename_i t ht
    split at h <;> try (cases h; done)
    rename_i hb
    split at h
    · exact ⟨_, _, h, .pure (w_ptr_nil hX.tab (b := true) ho ht hb ex ey) rfl⟩
    · exact ⟨_, _, h, .pure (w_ptr_nil hX.tab (b := false) ho ht hb ex ey) rfl⟩
    · cases h
  · rename_i hx hy
    have ex := hM.ev hx (by simp)
    have ey := hM.ev hy (by simp)
    split at h <;> try (cases h; done)
    rename_i t ht
    split at h <;> try (cases h; done)
    rename_i hb
    split at h
    · exact ⟨_, _, h, .pure (w_elt_nil hX.tab (b := true) ho ht hb ex ey) rfl⟩
    · exact ⟨_, _, h, .pure (w_elt_nil hX.tab (b := false) ho ht hb ex ey) rfl⟩
    · cases h
  · rename_i hx hy
    obtain ⟨v, hv, hk⟩ := tbin_ok h
    exact ⟨_, _, hk, .pure (w_bin ho (hM.ev hx (by simp)) (hM.ev hy (by simp)) hv) rfl⟩
  · rename_i hx hy
    have ex := hM.ev hx (by simp)
    have ey := hM.ev hy (by simp)
    split at h <;> try (cases h; done)
    rename_i ks hks
    split at h
    · obtain ⟨q, h1, _, c, d, rfl, rfl, h5⟩ := tvEq_path _ _ _ h
      exact ⟨_, _, h1, .pure (w_eqs (hX.eqt _ _ hks) (b := true) ho (ex.trans (congrArg SV.agg (itpL_vals _ _))) (ey.trans (congrArg SV.agg (itpL_vals _ _))) h5) rfl⟩
    · obtain ⟨q, h1, _, c, d, rfl, rfl, h5⟩ := tvEq_path _ _ _ h
      exact ⟨_, _, h1, .pure (w_eqs (hX.eqt _ _ hks) (b := false) ho (ex.trans (congrArg SV.agg (itpL_vals _ _))) (ey.trans (congrArg SV.agg (itpL_vals _ _))) h5) rfl⟩
    · cases h
  · cases h
/-- A row compared with none. -/
theorem w_slice_nil {tt : Nat → Option TI} {s : St} (ht : Tab P tt) {b : Bool} {T T2 : TypeId} {x y : Operand} (ho : o.op = .binOp (if b then .eql else .neq) T x y T2) {t : TI} (h1 : tt T = some t) {e : TypeId} (h2 : t.elem = some e) {q : Bool} (hx : ∀ g H X, Rep g H X (s.ev x) → ∃ a l c, X = .slice a l c ∧ a.isNone = q) (hy : s.ev y = .v (.slice none 0 0)) : Step P o (locO x ++ locO y) ⟨o.dst, .v (.bool (if b then q else !q)), []⟩ s :=
  step_value fun g σ f ac w hA hR => by
    have e1 := hR.ev x
    rw [ev_agree hA.left] at e1
    obtain ⟨a, l, c, he, hq⟩ := hx _ _ _ e1
    have e2 := ev_v hR hA.right hy
    refine ⟨.bool (if b then q else !q), ?_, .v _⟩
    have hp := run_equal_slice_nil (P := P) w T e a l c ((ht T t h1).sl h2)
    have hg : ∀ op w, (eqGuard op T x y (.slice a l c) (.slice none 0 0)).run P w = .ok () w := fun op w => by unfold eqGuard; cases op <;> simp
    cases b <;> simp [execOp, ho, e2, he, Sem.run_bind, hg, binOp, hp, hq]
def isNilK {U : Univ} : TV U → Bool
  | .v (.slice none 0 0) => true
  | _ => false
/-- Whether a row is none, if that is told. -/
def isNilT {U : Univ} : TV U → Option Bool
  | .v (.slice a _ _) => some a.isNone
  | .lst _ (_ :: _) => some false
  | .full _ => some false
  | .own _ _ _ => some false
  | _ => none
theorem isNilT_ok {U : Univ} {x : TV U} {q : Bool} (h : isNilT x = some q) {rl : Nat → Nat} : ∀ g H X, Rep g H X (x.itp rl) → ∃ a l c, X = .slice a l c ∧ a.isNone = q := fun g H X hr => by
  unfold isNilT at h
  split at h <;> try (cases h; done)
  · cases h
    obtain rfl := rep_v hr
    exact ⟨_, _, _, rfl, rfl⟩
  · cases h
    cases hr with
    | lst => exact ⟨_, _, _, rfl, rfl⟩
  · cases h
    cases hr with
    | own => exact ⟨_, _, _, rfl, rfl⟩
  · cases h
    cases hr with
    | own => exact ⟨_, _, _, rfl, rfl⟩
def evBin (X : Cx) (s : TS X.U) (op : BinOp) (T : TypeId) (x y : Operand) (k : List Loc → TEff X.U → Option R) : Option R :=
  match isNilK (evO s y) with
  | false => evBin0 X s op T x y k
  | true => match X.tt T with
    | none => none
    | some t => match t.elem, isNilT (evO s x) with
      | some _, some q => match op with
        | .eql => k (locO x ++ locO y) ⟨.v (.bool q), []⟩
        | .neq => k (locO x ++ locO y) ⟨.v (.bool !q), []⟩
        | _ => none
      | _, _ => none
theorem evBin_ok (hX : CxOk P X) {op : BinOp} {T T2 : TypeId} {x y : Operand} (h : evBin X s op T x y k = some r) (hM : M s σ) (ho : o.op = .binOp op T x y T2) : ∃ L e, k L e = some r ∧ Fit P s o σ L e := by
  unfold evBin at h
  split at h
  · exact evBin0_ok hX h hM ho
  · rename_i hy
    have hy : evO s y = .v (.slice none 0 0) := by
      unfold isNilK at hy
      split at hy
      · assumption
      · cases hy
    have ey := hM.ev hy (by simp)
    split at h <;> try (cases h; done)
    rename_i t ht
    split at h <;> try (cases h; done)
    rename_i e q he hq
    have hj : (evO s x) ≠ .junk := fun e => by rw [e] at hq; cases hq
    have hx : ∀ g H Y, Rep g H Y (σ.ev x) → ∃ a l c, Y = .slice a l c ∧ a.isNone = q := by
      rw [hM.ev rfl hj]
      exact isNilT_ok hq
    split at h
    · exact ⟨_, _, h, .pure (w_slice_nil hX.tab (b := true) ho ht he hx ey) rfl⟩
    · exact ⟨_, _, h, .pure (w_slice_nil hX.tab (b := false) ho ht he hx ey) rfl⟩
    · cases h
def evUn (X : Cx) (s : TS X.U) (op : UnOp) (x : Operand) (k : List Loc → TEff X.U → Option R) : Option R :=
  match evO s x with
  | .v (.bool b) => match op with
    | .not => k (locO x) ⟨.v (.bool !b), []⟩
    | _ => none
  | .v (.int i n) => match op with
    | .neg => tbin .sub (.int i 0) (.int i n) fun v => k (locO x) ⟨.v v, []⟩
    | .xor => tbin .xor (.int i (if i.signed then -1 else i.max)) (.int i n) fun v => k (locO x) ⟨.v v, []⟩
    | _ => none
  | _ => none
theorem evUn_ok {op : UnOp} {T : TypeId} {x : Operand} (h : evUn X s op x k = some r) (hM : M s σ) (ho : o.op = .unOp op T x) : ∃ L e, k L e = some r ∧ Fit P s o σ L e := by
  unfold evUn at h
  split at h
  · rename_i b hx
    split at h
    · exact ⟨_, _, h, .pure (w_un ho (hM.ev hx (by simp)) rfl) rfl⟩
    · cases h
  · rename_i i n hx
    split at h
    · obtain ⟨v, hv, hk⟩ := tbin_ok h
      exact ⟨_, _, hk, .pure (w_un ho (hM.ev hx (by simp)) hv) rfl⟩
    · obtain ⟨v, hv, hk⟩ := tbin_ok h
      exact ⟨_, _, hk, .pure (w_un ho (hM.ev hx (by simp)) hv) rfl⟩
    · cases h
  · cases h
def evConv (X : Cx) (s : TS X.U) (T1 T2 : TypeId) (x : Operand) (k : List Loc → TEff X.U → Option R) : Option R :=
  match evO s x with
  | .v (.int i n) => match X.tt T1, X.tt T2 with
    | some t1, some t2 => match t2.ik with
      | some j => k (locO x) ⟨.v (.int j (j.wrap n)), []⟩
      | none => none
    | _, _ => none
  | _ => none
theorem evConv_ok (hX : CxOk P X) {T1 T2 : TypeId} {x : Operand} (h : evConv X s T1 T2 x k = some r) (hM : M s σ) (ho : o.op = .convert T1 T2 x) : ∃ L e, k L e = some r ∧ Fit P s o σ L e := by
  unfold evConv at h
  split at h <;> try (cases h; done)
  rename_i i n hx
  split at h <;> try (cases h; done)
  rename_i t1 t2 h1 h2
  split at h <;> try (cases h; done)
  rename_i j hj
  exact ⟨_, _, h, .pure (w_conv hX.tab ho h1 h2 hj (hM.ev hx (by simp)) rfl) rfl⟩
/-! ### Cells -/
/-- One cell, or as many as a struct has. -/
def cellsAt {U : Univ} (t : TI) (l : List (TV U)) (j : Nat) (k : TV U → Option R) : Option R := match t.row with
  | false => match nth l j with
    | some x => k x
    | none => none
  | true => if ((l.drop j).take t.size).length = t.size then k (.agg ((l.drop j).take t.size)) else none
theorem itpL_get {U : Univ} (rl : Nat → Nat) (l : List (TV U)) (j : Nat) : (itpL rl l)[j]? = (nth l j).map (TV.itp rl) := by rw [itpL_eq, List.getElem?_map, nth_eq]
theorem itpL_len {U : Univ} (rl : Nat → Nat) (l : List (TV U)) : (itpL rl l).length = l.length := by rw [itpL_eq, List.length_map]
theorem itpL_cut {U : Univ} (rl : Nat → Nat) (l : List (TV U)) (j n : Nat) : ((itpL rl l).drop j).take n = itpL rl ((l.drop j).take n) := by rw [itpL_eq, itpL_eq, ← List.map_drop, ← List.map_take]
theorem belL_nth {U : Univ} {n : Nat} {l : List (TV U)} {j : Nat} {x : TV U} (h : belL n l = true) (hx : nth l j = some x) : x.bel n = true := by
  rw [belL_all] at h
  rw [nth_eq] at hx
  exact List.all_eq_true.1 h x (List.mem_of_getElem? hx)
theorem belL_cut {U : Univ} {n : Nat} {l : List (TV U)} (h : belL n l = true) (j m : Nat) : belL n ((l.drop j).take m) = true := by
  rw [belL_all] at h ⊢
  exact List.all_eq_true.2 fun x hx => List.all_eq_true.1 h x (List.mem_of_mem_drop (List.mem_of_mem_take hx))
theorem cellsAt_ok {U : Univ} {t : TI} {l : List (TV U)} {j : Nat} {k : TV U → Option R} (h : cellsAt t l j k = some r) {n : Nat} (hb : belL n l = true) :
    ∃ tv, k tv = some r ∧ tv.bel n = true ∧ ((t.row = false ∧ ∀ rl, (itpL rl l)[j]? = some (tv.itp rl)) ∨ (t.row = true ∧ ∀ rl, ∃ cs, tv.itp rl = .agg cs ∧ ((itpL rl l).drop j).take t.size = cs ∧ cs.length = t.size)) := by
  unfold cellsAt at h
  split at h
  · rename_i hr
    split at h
    · rename_i x hx
      exact ⟨x, h, belL_nth hb hx, .inl ⟨hr, fun rl => by rw [itpL_get, hx]; rfl⟩⟩
    · cases h
  · rename_i hr
    split at h
    · rename_i hl
      refine ⟨_, h, belL_cut hb j t.size, .inr ⟨hr, fun rl => ⟨itpL rl ((l.drop j).take t.size), rfl, itpL_cut .., by rw [itpL_len, hl]⟩⟩⟩
    · cases h
theorem M.obj_cells {id : Nat} {l : List (TV X.U)} {fz : Bool} (hM : M s σ) (h : nth s.objs id = some (.cells l fz)) : σ.obj id = .ob ⟨l.length, [itpL (rlen s.objs) l], fz⟩ := hM.ob id _ h
theorem M.obj_row {id : Nat} {c : X.U.C} {xs : List (X.U.T c)} {fz : Bool} (hM : M s σ) (h : nth s.objs id = some (.row c xs fz)) : σ.obj id = .ob ⟨X.U.sz c, xs.map (X.U.encS c), fz⟩ := hM.ob id _ h
theorem encb_bel (hX : CxOk P X) (c : X.U.C) (x : X.U.T c) (n : Nat) : belL n (X.enc c x) = true := belL_mono (Nat.zero_le n) (hX.encb c x)
def evLoad (X : Cx) (s : TS X.U) (T : TypeId) (x : Operand) (k : List Loc → TEff X.U → Option R) : Option R :=
  match X.tt T with
  | none => none
  | some t => match evO s x with
    | .ref id i j => match nth s.objs id with
      | some (.cells l fz) => match i with
        | 0 => cellsAt t l j fun tv => k (locO x ++ [.obj id]) ⟨tv, []⟩
        | _ + 1 => none
      | some (.row c xs fz) => (xs[i]?).bind fun y => cellsAt t (X.enc c y) j fun tv => k (locO x ++ [.obj id]) ⟨tv, []⟩
      | _ => none
    | .elt c y j => cellsAt t (X.enc c y) j fun tv => k (locO x) ⟨tv, []⟩
    | _ => none
theorem evLoad_ok (hX : CxOk P X) {T : TypeId} {x : Operand} (h : evLoad X s T x k = some r) (hM : M s σ) (ho : o.op = .load T x) : ∃ L e, k L e = some r ∧ Fit P s o σ L e := by
  unfold evLoad at h
  split at h <;> try (cases h; done)
  rename_i t ht
  split at h <;> try (cases h; done)
  · rename_i id i j hx
    have ex := hM.ev hx (by simp)
    split at h <;> try (cases h; done)
    · rename_i l fz hob
      split at h <;> try (cases h; done)
      have eo := hM.obj_cells hob
      obtain ⟨tv, hk, hb, hc⟩ := cellsAt_ok h (hM.obb id _ hob)
      refine ⟨_, _, hk, .pure ?_ hb⟩
      rcases hc with ⟨hr, hc⟩ | ⟨hr, hc⟩
      · exact w_load hX.tab ho ht hr ex eo (by rfl) (hc _)
      · obtain ⟨cs, e1, e2, e3⟩ := hc (rlen s.objs)
        rw [e1]
        exact w_loads hX.tab ho ht hr ex eo (by rfl) e2 e3
    · rename_i c xs fz hob
      have eo := hM.obj_row hob
      obtain ⟨y, hy, h⟩ := Option.bind_eq_some_iff.1 h
      obtain ⟨tv, hk, hb, hc⟩ := cellsAt_ok h (encb_bel hX c y s.objs.length)
      have hrow : (xs.map (X.U.encS c))[i]? = some (X.U.encS c y) := by rw [List.getElem?_map, hy]; rfl
      refine ⟨_, _, hk, .pure ?_ hb⟩
      rcases hc with ⟨hr, hc⟩ | ⟨hr, hc⟩
      · exact w_load hX.tab ho ht hr ex eo hrow (by rw [← hX.enc c y (rlen s.objs)]; exact hc _)
      · obtain ⟨cs, e1, e2, e3⟩ := hc (rlen s.objs)
        rw [e1]
        rw [hX.enc] at e2
        exact w_loads hX.tab ho ht hr ex eo hrow e2 e3
  · rename_i c y j hx
    have ex := hM.ev hx (by simp)
    obtain ⟨tv, hk, hb, hc⟩ := cellsAt_ok h (encb_bel hX c y s.objs.length)
    refine ⟨_, _, hk, .pure ?_ hb⟩
    rcases hc with ⟨hr, hc⟩ | ⟨hr, hc⟩
    · exact w_load_elt hX.tab ho ht hr ex (by rw [← hX.enc c y (rlen s.objs)]; exact hc _)
    · obtain ⟨cs, e1, e2, e3⟩ := hc (rlen s.objs)
      rw [e1]
      rw [hX.enc] at e2
      exact w_loads_elt hX.tab ho ht hr ex e2 e3
/-- A value's cells. -/
def tcells {U : Univ} : TV U → Option (List (TV U))
  | .v x => some (x.cells.toList.map .v)
  | .agg l => some l
  | .junk => none
  | x => some [x]
def TV.one {U : Univ} : TV U → Bool
  | .v x => x.oneCell'
  | .agg _ => false
  | .tup _ => false
  | .junk => false
  | _ => true
theorem itpL_v {U : Univ} (rl : Nat → Nat) (l : List Value) : itpL (U := U) rl (l.map .v) = l.map SV.v := by rw [itpL_eq, List.map_map]; rfl
theorem tcells_ok {U : Univ} {x : TV U} {cs : List (TV U)} (h : tcells x = some cs) (rl : Nat → Nat) {n : Nat} (hb : x.bel n = true) : (x.itp rl).cells = itpL rl cs ∧ belL n cs = true ∧ x ≠ .junk := by
  cases x <;> first | (cases h; done) | (cases h; refine ⟨?_, ?_, by simp⟩)
  · exact (itpL_v rl _).symm
  · rw [belL_all]; simp [TV.bel, TV.all]
  all_goals first | rfl | exact hb | (show (_ && true) = true; rw [Bool.and_true]; exact hb)
theorem one_ok {U : Univ} (rl : Nat → Nat) {l : List (TV U)} (h : l.all TV.one = true) : (itpL rl l).all SV.one = true := by
  rw [itpL_eq, List.all_map]
  refine List.all_eq_true.2 fun x hx => ?_
  have := List.all_eq_true.1 h x hx
  cases x <;> first | (cases this; done) | exact this | rfl
def owrT {α : Type} : List α → Nat → List α → List α
  | l, _, [] => l
  | l, o, c :: cs => owrT (setN l o c) (o + 1) cs
theorem owrT_eq {α : Type} : ∀ (cs l : List α) (o : Nat), owrT l o cs = owr l o cs
  | [], l, o => rfl
  | c :: cs, l, o => by rw [owrT, owrT_eq cs, setN_eq]; rfl
theorem owr_map {α β : Type} (f : α → β) : ∀ (cs l : List α) (o : Nat), (owr l o cs).map f = owr (l.map f) o (cs.map f)
  | [], l, o => rfl
  | c :: cs, l, o => by rw [owr, owr_map f cs, List.map_set]; rfl
theorem itpL_owr {U : Univ} (rl : Nat → Nat) (l cs : List (TV U)) (o : Nat) : itpL rl (owrT l o cs) = owr (itpL rl l) o (itpL rl cs) := by rw [owrT_eq, itpL_eq, itpL_eq, itpL_eq, owr_map]
theorem belL_set {U : Univ} {n : Nat} : ∀ {l : List (TV U)}, belL n l = true → ∀ (o : Nat) {x : TV U}, x.bel n = true → belL n (l.set o x) = true
  | [], h, o, x, hx => h
  | y :: l, h, 0, x, hx => by
    have h : (y.bel n && belL n l) = true := h
    rw [Bool.and_eq_true] at h
    show (x.bel n && belL n l) = true
    rw [hx, h.2]
    rfl
  | y :: l, h, o + 1, x, hx => by
    have h : (y.bel n && belL n l) = true := h
    rw [Bool.and_eq_true] at h
    show (y.bel n && belL n (l.set o x)) = true
    rw [h.1, belL_set h.2 o hx]
    rfl
theorem belL_owr {U : Univ} {n : Nat} : ∀ {cs l : List (TV U)}, belL n l = true → belL n cs = true → ∀ o, belL n (owr l o cs) = true
  | [], l, h, _, o => h
  | c :: cs, l, h, hc, o => by
    have hc : (c.bel n && belL n cs) = true := hc
    rw [Bool.and_eq_true] at hc
    exact belL_owr (belL_set h o hc.1) hc.2 (o + 1)
theorem ObsOk.one {l : List (TO X.U)} {id : Nat} {o x : TO X.U} (h : nth l id = some o) (hr : o.rlen = x.rlen) : ObsOk l [(id, x)] := ⟨.inl ⟨o, h, hr⟩, trivial⟩
theorem setO_rlen {l : List (TO X.U)} {id : Nat} {o x : TO X.U} (h : nth l id = some o) (hr : o.rlen = x.rlen) : rlen (updO l [(id, x)]) = rlen l := by
  funext i
  show rlen (setO l id x) i = _
  unfold rlen
  rw [nth_setO l id x i (Nat.le_of_lt (nth_lt h))]
  by_cases e : i = id
  · subst e; rw [if_pos rfl, h]; exact hr.symm
  · rw [if_neg e]
theorem setO_length {l : List (TO X.U)} {id : Nat} {o x : TO X.U} (h : nth l id = some o) : (updO l [(id, x)]).length = l.length := by
  show (setO l id x).length = _
  rw [length_setO, if_pos (nth_lt h)]
/-- One object is written over by one as long. -/
theorem Fit.set {L : List Loc} {id : Nat} {ob x : TO X.U} {tv : TV X.U} (h : nth s.objs id = some ob) (hr : ob.rlen = x.rlen) (hst : Step P o L ⟨o.dst, tv.itp (rlen s.objs), [(id, x.itp (rlen s.objs))]⟩ σ) (hb : tv.bel s.objs.length = true) (hx : x.bel s.objs.length = true) : Fit P s o σ L ⟨tv, [(id, x)]⟩ := by
  refine ⟨?_, .one h hr, ?_, ?_⟩
  · show Step P o L ⟨_, tv.itp (rlen (updO s.objs [(id, x)])), [(id, x.itp (rlen (updO s.objs [(id, x)])))]⟩ σ
    rw [setO_rlen h hr]
    exact hst
  · show tv.bel (updO s.objs [(id, x)]).length = true
    rw [setO_length h]
    exact hb
  · show (x.bel (updO s.objs [(id, x)]).length && true) = true
    rw [setO_length h, hx]
    rfl
def evStore (X : Cx) (s : TS X.U) (T : TypeId) (x y : Operand) (k : List Loc → TEff X.U → Option R) : Option R :=
  match X.tt T, tcells (evO s y) with
  | some t, some cs => match cs.all TV.one with
    | false => none
    | true => if cs.length = t.size then match evO s x with
      | .ref id i j => match nth s.objs id with
        | some (.cells l false) => match i with
          | 0 => if j + t.size ≤ l.length then k (locO x ++ locO y ++ [.obj id]) ⟨.v undef, [(id, .cells (owrT l j cs) false)]⟩ else none
          | _ + 1 => none
        | some (.row c xs false) => if j + t.size ≤ X.U.sz c then (xs[i]?).bind fun z => match X.dec c (owrT (X.enc c z) j cs) with
          | some z' => k (locO x ++ locO y ++ [.obj id]) ⟨.v undef, [(id, .row c (xs.set i z') false)]⟩
          | none => none else none
        | _ => none
      | _ => none
      else none
  | _, _ => none
theorem evStore_ok (hX : CxOk P X) {T : TypeId} {x y : Operand} (h : evStore X s T x y k = some r) (hM : M s σ) (ho : o.op = .store T x y) : ∃ L e, k L e = some r ∧ Fit P s o σ L e := by
  unfold evStore at h
  split at h <;> try (cases h; done)
  rename_i t cs ht hcs
  split at h <;> try (cases h; done)
  rename_i hone
  split at h <;> try (cases h; done)
  rename_i hlen
  obtain ⟨q1, q2, q3⟩ := tcells_ok hcs (rlen s.objs) (hM.evb (x := y) rfl)
  have ey := hM.ev (x := y) rfl q3
  split at h <;> try (cases h; done)
  rename_i id i j hx
  have ex := hM.ev hx (by simp)
  split at h <;> try (cases h; done)
  · rename_i l hob
    split at h <;> try (cases h; done)
    split at h <;> try (cases h; done)
    rename_i hle
    have eo := hM.obj_cells hob
    refine ⟨_, _, h, .set hob rfl ?_ rfl (by show belL _ _ = true; rw [owrT_eq]; exact belL_owr (hM.obb id _ hob) q2 j)⟩
    have := w_store (P := P) hX.tab ho ht ex eo rfl (by rfl) (by rw [ey]; exact q1) (one_ok _ hone) (by rw [itpL_len]; exact hlen) (by rw [itpL_len]; exact hle) rfl rfl
    show Step P o _ ⟨_, _, [(id, .ob ⟨(owrT l j cs).length, [itpL (rlen s.objs) (owrT l j cs)], false⟩)]⟩ σ
    rw [itpL_owr, owrT_eq, length_owr]
    exact this
  · rename_i c xs hob
    split at h <;> try (cases h; done)
    rename_i hle
    obtain ⟨z, hz, h⟩ := Option.bind_eq_some_iff.1 h
    split at h <;> try (cases h; done)
    rename_i z' hz'
    have eo := hM.obj_row hob
    refine ⟨_, _, h, .set hob (by show xs.length = (xs.set i z').length; rw [List.length_set]) ?_ rfl rfl⟩
    have hrow : (xs.map (X.U.encS c))[i]? = some (X.U.encS c z) := by rw [List.getElem?_map, hz]; rfl
    have hd := hX.dec c _ _ (rlen s.objs) hz'
    rw [itpL_owr, hX.enc] at hd
    have := w_store (P := P) hX.tab ho ht ex eo rfl hrow (by rw [ey]; exact q1) (one_ok _ hone) (by rw [itpL_len]; exact hlen) (by rw [hX.len]; exact hle) rfl rfl
    refine step_weak this (fun _ _ _ h => h) (.cons ⟨rfl, rfl, by show ((xs.set i z').map _).length = ((xs.map _).set _ _).length; rw [List.length_map, List.length_set, List.length_set, List.length_map], fun g H vs hvs => ?_⟩ .nil)
    show RepR g H vs _ ((xs.set i z').map (X.U.encS c))
    rw [List.map_set]
    refine repR_weak (by rw [List.length_set, List.length_set]) (fun k r r' h1 h2 ws hws => ?_) hvs
    rw [List.getElem?_set] at h1 h2
    by_cases e : i = k
    · subst e
      rw [if_pos rfl] at h1 h2
      split at h1
      · rename_i hlt
        rw [if_pos hlt] at h2
        cases h1
        cases h2
        exact hd _ _ _ hws
      · cases h1
    · rw [if_neg e] at h1 h2
      rw [h1] at h2
      cases h2
      exact hws
end
end Go.Proofs.YtmcflglkfgnbbaaDoor.Eng

/- Addresses, parts, new memory. -/
namespace Go.Proofs.YtmcflglkfgnbbaaDoor.Eng
open Go Go.RowKit
set_option linter.unusedVariables false
set_option linter.unusedSimpArgs false
section
variable {P : Program} {X : Cx} {s : TS X.U} {o : Oper} {σ : St} {R : Type} {r : R} {k : List Loc → TEff X.U → Option R}
def evFieldAddr (X : Cx) (s : TS X.U) (T : TypeId) (x : Operand) (f : Nat) (k : List Loc → TEff X.U → Option R) : Option R :=
  match X.tt T with
  | none => none
  | some t => match nth t.flds f with
    | none => none
    | some (off, ft) => match X.tt ft with
      | none => none
      | some u => match u.size with
        | 0 => none
        | _ + 1 => match evO s x with
          | .ref id i j => k (locO x) ⟨.ref id i (j + off), []⟩
          | .elt c y j => k (locO x) ⟨.elt c y (j + off), []⟩
          | _ => none
theorem evFieldAddr_ok (hX : CxOk P X) {T : TypeId} {x : Operand} {f : Nat} (h : evFieldAddr X s T x f k = some r) (hM : M s σ) (ho : o.op = .fieldAddr T x f) : ∃ L e, k L e = some r ∧ Fit P s o σ L e := by
  unfold evFieldAddr at h
  split at h <;> try (cases h; done)
  rename_i t ht
  split at h <;> try (cases h; done)
  rename_i off ft hf
  rw [nth_eq] at hf
  split at h <;> try (cases h; done)
  rename_i u hu
  split at h <;> try (cases h; done)
  rename_i m hm
  split at h <;> try (cases h; done)
  · rename_i id i j hx
    exact ⟨_, _, h, .pure (w_fieldAddr hX.tab ho ht hf hu (by omega) (hM.ev hx (by simp)) rfl) (by have := hM.evb hx; exact this)⟩
  · rename_i c y j hx
    exact ⟨_, _, h, .pure (w_fieldAddr_elt hX.tab ho ht hf hu (by omega) (hM.ev hx (by simp)) rfl) rfl⟩
def evField (X : Cx) (s : TS X.U) (T : TypeId) (x : Operand) (f : Nat) (k : List Loc → TEff X.U → Option R) : Option R :=
  match X.tt T with
  | none => none
  | some t => match nth t.flds f with
    | none => none
    | some (off, ft) => match X.tt ft with
      | none => none
      | some u => match evO s x with
        | .agg l => cellsAt u l off fun tv => k (locO x) ⟨tv, []⟩
        | _ => none
theorem evField_ok (hX : CxOk P X) {T : TypeId} {x : Operand} {f : Nat} (h : evField X s T x f k = some r) (hM : M s σ) (ho : o.op = .field T x f) : ∃ L e, k L e = some r ∧ Fit P s o σ L e := by
  unfold evField at h
  split at h <;> try (cases h; done)
  rename_i t ht
  split at h <;> try (cases h; done)
  rename_i off ft hf
  rw [nth_eq] at hf
  split at h <;> try (cases h; done)
  rename_i u hu
  split at h <;> try (cases h; done)
  rename_i l hx
  have ex := hM.ev hx (by simp)
  obtain ⟨tv, hk, hb, hc⟩ := cellsAt_ok h (n := s.objs.length) (hM.evb hx)
  refine ⟨_, _, hk, .pure ?_ hb⟩
  rcases hc with ⟨hr, hc⟩ | ⟨hr, hc⟩
  · exact w_field hX.tab ho ht hf hu hr ex (hc _)
  · obtain ⟨cs, e1, e2, e3⟩ := hc (rlen s.objs)
    rw [e1]
    exact w_fields hX.tab ho ht hf hu hr ex e2
def evNil (X : Cx) (s : TS X.U) (x : Operand) (k : List Loc → TEff X.U → Option R) : Option R :=
  match evO s x with
  | .ref id i j => k (locO x) ⟨.ref id i j, []⟩
  | .elt c y j => k (locO x) ⟨.elt c y j, []⟩
  | _ => none
theorem evNil_ok {x : Operand} (h : evNil X s x k = some r) (hM : M s σ) (ho : o.op = .nilCheck x) : ∃ L e, k L e = some r ∧ Fit P s o σ L e := by
  unfold evNil at h
  split at h <;> try (cases h; done)
  · rename_i hx
    exact ⟨_, _, h, .pure (step_nilCheck ho (hM.ev hx (by simp))) (hM.evb hx)⟩
  · rename_i hx
    exact ⟨_, _, h, .pure (step_nilCheck_elt ho (hM.ev hx (by simp))) rfl⟩
def evExtract (X : Cx) (s : TS X.U) (x : Operand) (n : Nat) (k : List Loc → TEff X.U → Option R) : Option R :=
  match evO s x with
  | .tup l => match nth l n with
    | some y => k (locO x) ⟨y, []⟩
    | none => none
  | _ => none
theorem evExtract_ok {x : Operand} {n : Nat} (h : evExtract X s x n k = some r) (hM : M s σ) (ho : o.op = .extract x n) : ∃ L e, k L e = some r ∧ Fit P s o σ L e := by
  unfold evExtract at h
  split at h <;> try (cases h; done)
  rename_i l hx
  split at h <;> try (cases h; done)
  rename_i y hy
  refine ⟨_, _, h, .pure (step_extract ho (hM.ev hx (by simp)) ?_) (belL_nth (l := l) (hM.evb hx) hy)⟩
  rw [itpL_get, hy]
  rfl
/-! ### Elements -/
def getI {α : Type} (xs : List α) (i : Int) : Option α := if 0 ≤ i then xs[i.toNat]? else none
theorem getI_some {α : Type} {xs : List α} {i : Int} {x : α} (h : getI xs i = some x) : 0 ≤ i ∧ xs[i.toNat]? = some x := by
  unfold getI at h
  split at h
  · exact ⟨by assumption, h⟩
  · cases h
def evIndexAddr (X : Cx) (s : TS X.U) (T : TypeId) (x y : Operand) (k : List Loc → TEff X.U → Option R) : Option R :=
  match X.tt T with
  | none => none
  | some t => match t.elem with
    | none => none
    | some e => match X.tt e with
      | none => none
      | some u => match evO s y with
        | .v (.int _ i) => match evO s x with
          | .own id lo len => match nth s.objs id with
            | some (.row c _ _) => if X.U.sz c = u.size then (if 0 ≤ i ∧ i < (len : Int) then k (locO x ++ locO y ++ [.obj id]) ⟨.ref id (lo + i.toNat) 0, []⟩ else none) else none
            | _ => none
          | .full id => match nth s.objs id with
            | some (.row c xs _) => if X.U.sz c = u.size then (if 0 ≤ i ∧ i < (xs.length : Int) then k (locO x ++ locO y ++ [.obj id]) ⟨.ref id i.toNat 0, []⟩ else none) else none
            | _ => none
          | .lst c xs => if X.U.sz c = u.size then (getI xs i).bind fun z => k (locO x ++ locO y) ⟨.elt c z 0, []⟩ else none
          | _ => none
        | _ => none
theorem evIndexAddr_ok (hX : CxOk P X) {T : TypeId} {x y : Operand} (h : evIndexAddr X s T x y k = some r) (hM : M s σ) (ho : o.op = .indexAddr T x y) : ∃ L e, k L e = some r ∧ Fit P s o σ L e := by
  unfold evIndexAddr at h
  split at h <;> try (cases h; done)
  rename_i t ht
  split at h <;> try (cases h; done)
  rename_i e he
  split at h <;> try (cases h; done)
  rename_i u hu
  split at h <;> try (cases h; done)
  rename_i kk i hy
  have ey := hM.ev hy (by simp)
  split at h <;> try (cases h; done)
  · rename_i id lo len hx
    have ex := hM.ev hx (by simp)
    split at h <;> try (cases h; done)
    rename_i c xs fz hob
    split at h <;> try (cases h; done)
    rename_i hsz
    split at h <;> try (cases h; done)
    rename_i hi
    exact ⟨_, _, h, .pure (w_index_own hX.tab ho ht he hu ex (hM.obj_row hob) hsz ey hi.1 hi.2 rfl) (by have := hM.evb hx; exact this)⟩
  · rename_i id hx
    have ex := hM.ev hx (by simp)
    split at h <;> try (cases h; done)
    rename_i c xs fz hob
    split at h <;> try (cases h; done)
    rename_i hsz
    split at h <;> try (cases h; done)
    rename_i hi
    have hrl : rlen s.objs id = xs.length := by unfold rlen; rw [hob]; rfl
    exact ⟨_, _, h, .pure (w_index_own hX.tab ho ht he hu ex (hM.obj_row hob) hsz ey hi.1 (by rw [hrl]; exact hi.2) (by omega)) (by have := hM.evb hx; exact this)⟩
  · rename_i c xs hx
    have ex := hM.ev hx (by simp)
    split at h <;> try (cases h; done)
    rename_i hsz
    obtain ⟨z, hz, h⟩ := Option.bind_eq_some_iff.1 h
    obtain ⟨h0, hz⟩ := getI_some hz
    exact ⟨_, _, h, .pure (w_index_lst hX.tab ho ht he hu ex hsz ey h0 (by rw [List.getElem?_map, hz]; rfl)) rfl⟩
/-- A byte of a text. -/
def getB (b : ByteArray) (i : Int) : Option Int := if 0 ≤ i then (b.data[i.toNat]?).map fun c => (c.toNat : Int) else none
def evIndex (X : Cx) (s : TS X.U) (T : TypeId) (x y : Operand) (k : List Loc → TEff X.U → Option R) : Option R :=
  match X.sty T with
  | false => none
  | true => match evO s x with
    | .v (.string b) => match evO s y with
      | .v (.int _ i) => (getB b i).bind fun n => k (locO x ++ locO y) ⟨.v (.int .u8 n), []⟩
      | _ => none
    | _ => none
theorem evIndex_ok (hX : CxOk P X) {T : TypeId} {x y : Operand} (h : evIndex X s T x y k = some r) (hM : M s σ) (ho : o.op = .index T x y) : ∃ L e, k L e = some r ∧ Fit P s o σ L e := by
  unfold evIndex at h
  split at h <;> try (cases h; done)
  rename_i hT
  split at h <;> try (cases h; done)
  rename_i b hx
  split at h <;> try (cases h; done)
  rename_i kk i hy
  obtain ⟨n, hn, h⟩ := Option.bind_eq_some_iff.1 h
  unfold getB at hn
  split at hn <;> try (cases hn; done)
  rename_i h0
  obtain ⟨c, hc, rfl⟩ := Option.map_eq_some_iff.1 hn
  exact ⟨_, _, h, .pure (w_index_str (hX.str T hT) ho (hM.ev hx (by simp)) (hM.ev hy (by simp)) h0 hc rfl) rfl⟩
/-! ### How many -/
theorem w_len_own {tt : Nat → Option TI} {s : St} (ht : Tab P tt) {x : Operand} {T e : TypeId} (ho : o.op = .call { callee := .builtin .len, args := #[x], argTypes := #[T] }) {t : TI} (h1 : tt T = some t) (h2 : t.elem = some e) {id lo len : Nat} (hx : s.ev x = .own id lo len) :
    Step P o (locO x) ⟨o.dst, .v (.int .i64 (len : Int)), []⟩ s :=
  step_value fun g σ f a w hA hR => by
    have e1 := hR.ev x
    rw [ev_agree hA, hx] at e1
    refine ⟨_, ?_, .v _⟩
    rw [execOp_builtin ho]
    generalize hX : a.eval x = X at e1
    cases e1 with
    | own hb hl hH hc => simp [builtin, Builtin.len_, hX, run_underlying ((ht T t h1).sl h2), goInt]
def evLen (X : Cx) (s : TS X.U) (T : TypeId) (x : Operand) (k : List Loc → TEff X.U → Option R) : Option R :=
  match evO s x with
  | .v (.string b) => match X.sty T with
    | true => k (locO x) ⟨.v (.int .i64 (b.size : Int)), []⟩
    | false => none
  | tv => match X.tt T with
    | none => none
    | some t => match t.elem with
      | none => none
      | some e => match tv with
        | .own id lo len => k (locO x) ⟨.v (.int .i64 (len : Int)), []⟩
        | .full id => match nth s.objs id with
          | some (.row c xs _) => k (locO x) ⟨.v (.int .i64 (xs.length : Int)), []⟩
          | _ => none
        | .lst c xs => k (locO x ++ []) ⟨.v (.int .i64 (xs.length : Int)), []⟩
        | .v (.slice none 0 0) => k (locO x ++ []) ⟨.v (.int .i64 0), []⟩
        | _ => none
theorem evLen_ok (hX : CxOk P X) {T : TypeId} {x : Operand} (h : evLen X s T x k = some r) (hM : M s σ) (ho : o.op = .call { callee := .builtin .len, args := #[x], argTypes := #[T] }) : ∃ L e, k L e = some r ∧ Fit P s o σ L e := by
  unfold evLen at h
  split at h
  · rename_i b hx
    split at h <;> try (cases h; done)
    rename_i hT
    exact ⟨_, _, h, .pure (w_len_str (hX.str T hT) ho (hM.ev hx (by simp)) rfl) rfl⟩
  · split at h <;> try (cases h; done)
    rename_i t ht
    split at h <;> try (cases h; done)
    rename_i e he
    split at h <;> try (cases h; done)
    · rename_i hx
      exact ⟨_, _, h, .pure (w_len_own hX.tab ho ht he (hM.ev hx (by simp))) rfl⟩
    · rename_i id hx
      split at h <;> try (cases h; done)
      rename_i c xs fz hob
      have hrl : rlen s.objs id = xs.length := by unfold rlen; rw [hob]; rfl
      have := w_len_own (P := P) hX.tab ho ht he (hM.ev hx (by simp))
      rw [hrl] at this
      exact ⟨_, _, h, .pure this rfl⟩
    · rename_i c xs hx
      exact ⟨_, _, h, .pure (w_len hX.tab ho ht he (by rw [hM.ev hx (by simp)]; exact .lst) (by rw [List.length_map])) rfl⟩
    · rename_i hx
      exact ⟨_, _, h, .pure (w_len hX.tab ho ht he (by rw [hM.ev hx (by simp)]; exact .nil (m := 0)) rfl) rfl⟩
def evMM (X : Cx) (s : TS X.U) (mx : Bool) (x y : Operand) (k : List Loc → TEff X.U → Option R) : Option R :=
  match evO s x, evO s y with
  | .v (.int i a), .v (.int j b) => if i = j then k (locO x ++ locO y) ⟨.v (.int i (match mx with | true => if a < b then b else a | false => if b < a then b else a)), []⟩ else none
  | _, _ => none
theorem evMax_ok {x y : Operand} {ts : Array TypeId} (h : evMM X s true x y k = some r) (hM : M s σ) (ho : o.op = .call { callee := .builtin .max, args := #[x, y], argTypes := ts }) : ∃ L e, k L e = some r ∧ Fit P s o σ L e := by
  unfold evMM at h
  split at h <;> try (cases h; done)
  rename_i i a j b hx hy
  split at h <;> try (cases h; done)
  rename_i hij
  subst hij
  exact ⟨_, _, h, .pure (w_max ho (hM.ev hx (by simp)) (hM.ev hy (by simp)) rfl) rfl⟩
theorem evMin_ok {x y : Operand} {ts : Array TypeId} (h : evMM X s false x y k = some r) (hM : M s σ) (ho : o.op = .call { callee := .builtin .min, args := #[x, y], argTypes := ts }) : ∃ L e, k L e = some r ∧ Fit P s o σ L e := by
  unfold evMM at h
  split at h <;> try (cases h; done)
  rename_i i a j b hx hy
  split at h <;> try (cases h; done)
  rename_i hij
  subst hij
  exact ⟨_, _, h, .pure (w_min ho (hM.ev hx (by simp)) (hM.ev hy (by simp)) rfl) rfl⟩
/-! ### Structs, and new variables -/
def svT {U : Univ} : SV → TV U
  | .v x => .v x
  | _ => .junk
def SV.isV : SV → Bool
  | .v _ => true
  | _ => false
def tz {U : Univ} (t : TI) : List (TV U) := t.zero.map svT
theorem tz_ok {U : Univ} {t : TI} (h : t.zero.all SV.isV = true) (rl : Nat → Nat) : itpL (U := U) rl (tz t) = t.zero := by
  unfold tz
  rw [itpL_eq, List.map_map]
  refine (List.map_congr_left fun x hx => ?_).trans (List.map_id _)
  have := List.all_eq_true.1 h x hx
  cases x <;> first | (cases this; done) | rfl
theorem tz_bel {U : Univ} {t : TI} (n : Nat) : belL (U := U) n (tz t) = true := by
  rw [belL_all]
  unfold tz
  rw [List.all_map]
  refine List.all_eq_true.2 fun x hx => ?_
  cases x <;> rfl
/-- A new object. -/
theorem Fit.new {L : List Loc} {x : TO X.U} {tv : TV X.U} (hst : ∀ rl, (∀ i, i < s.objs.length → rl i = rlen s.objs i) → rl s.objs.length = x.rlen → Step P o L ⟨o.dst, tv.itp rl, [(s.objs.length, x.itp rl)]⟩ σ) (hb : tv.bel (s.objs.length + 1) = true) (hx : x.bel (s.objs.length + 1) = true) : Fit P s o σ L ⟨tv, [(s.objs.length, x)]⟩ := by
  have hl : (updO s.objs [(s.objs.length, x)]).length = s.objs.length + 1 := by
    show (setO s.objs s.objs.length x).length = _
    rw [length_setO, if_neg (by omega)]
  have hok : ObsOk s.objs [(s.objs.length, x)] := ⟨.inr rfl, trivial⟩
  refine ⟨hst _ (updO_rlen _ _ hok) ?_, hok, by rw [hl]; exact hb, ?_⟩
  · show rlen (setO s.objs s.objs.length x) s.objs.length = _
    unfold rlen
    rw [nth_setO _ _ _ _ (Nat.le_refl _), if_pos rfl]
  · show (x.bel (updO s.objs [(s.objs.length, x)]).length && true) = true
    rw [hl, hx]
    rfl
theorem M.new {σ : St} (hM : M s σ) : σ.obj s.objs.length = .never := hM.fresh _ (Nat.le_refl _)
def evAlloc (X : Cx) (s : TS X.U) (T : TypeId) (k : List Loc → TEff X.U → Option R) : Option R :=
  match X.tt T with
  | none => none
  | some t => match t.zero.all SV.isV with
    | false => none
    | true => if t.zero.length = t.size then k [.obj s.objs.length] ⟨.ref s.objs.length 0 0, [(s.objs.length, .cells (tz t) false)]⟩ else none
theorem evAlloc_ok (hX : CxOk P X) {T : TypeId} (h : evAlloc X s T k = some r) (hM : M s σ) (ho : o.op = .alloc T) : ∃ L e, k L e = some r ∧ Fit P s o σ L e := by
  unfold evAlloc at h
  split at h <;> try (cases h; done)
  rename_i t ht
  split at h <;> try (cases h; done)
  rename_i hz
  split at h <;> try (cases h; done)
  rename_i hl
  refine ⟨_, _, h, .new (fun rl _ _ => ?_) (by show decide _ = true; simp) (tz_bel _)⟩
  have := w_alloc (P := P) hX.tab ho ht s.objs.length hM.new
  show Step P o _ ⟨_, _, [(_, .ob ⟨(tz t).length, [itpL rl (tz t)], false⟩)]⟩ σ
  rw [tz_ok hz]
  have e : (tz (U := X.U) t).length = t.size := by unfold tz; rw [List.length_map]; exact hl
  rw [e]
  exact this
theorem M.evc {σ : St} (hM : M s σ) {y : Operand} {cs : List (TV X.U)} (h : tcells (evO s y) = some cs) (rl : Nat → Nat) (hrl : ∀ i, i < s.objs.length → rl i = rlen s.objs i) : (σ.ev y).cells = itpL rl cs ∧ belL s.objs.length cs = true := by
  obtain ⟨q1, q2, q3⟩ := tcells_ok h (rlen s.objs) (hM.evb (x := y) rfl)
  refine ⟨?_, q2⟩
  rw [hM.ev (x := y) rfl q3, q1]
  exact itpL_congr (fun i hi => (hrl i hi).symm) q2
def evBox (X : Cx) (s : TS X.U) (x : Operand) (k : List Loc → TEff X.U → Option R) : Option R :=
  match tcells (evO s x) with
  | none => none
  | some cs => k (locO x ++ [.obj s.objs.length]) ⟨.ref s.objs.length 0 0, [(s.objs.length, .cells cs false)]⟩
theorem evBox_ok {T : TypeId} {x : Operand} (h : evBox X s x k = some r) (hM : M s σ) (ho : o.op = .box T x) : ∃ L e, k L e = some r ∧ Fit P s o σ L e := by
  unfold evBox at h
  split at h <;> try (cases h; done)
  rename_i cs hcs
  refine ⟨_, _, h, .new (fun rl hrl _ => ?_) (by show decide _ = true; simp) (belL_mono (Nat.le_succ _) (hM.evc hcs (rlen s.objs) fun _ _ => rfl).2)⟩
  exact w_box ho s.objs.length hM.new (hM.evc hcs rl hrl).1 (itpL_len _ _)
def afillT {α : Type} (places : List (Nat × Nat)) (cells : List α) : List (Nat × List α) → Option (List α)
  | [] => some cells
  | (i, cs) :: rest => match nth places i with
    | none => none
    | some (off, size) => if cs.length = size ∧ off + cs.length ≤ cells.length then afillT places (owrT cells off cs) rest else none
theorem afillT_ok {U : Univ} (rl : Nat → Nat) (places : List (Nat × Nat)) : ∀ (ps : List (Nat × List (TV U))) (cells out : List (TV U)), afillT places cells ps = some out →
    afill places (itpL rl cells) (ps.map fun p => (p.1, itpL rl p.2)) = some (itpL rl out)
  | [], cells, out, h => by cases h; rfl
  | (i, cs) :: ps, cells, out, h => by
    unfold afillT at h
    rw [nth_eq] at h
    show afill places (itpL rl cells) ((i, itpL rl cs) :: ps.map fun p => (p.1, itpL rl p.2)) = _
    unfold afill
    cases hq : places[i]? with
    | none => rw [hq] at h; cases h
    | some p =>
      obtain ⟨off, size⟩ := p
      rw [hq] at h
      dsimp only at h ⊢
      split at h <;> try (cases h; done)
      rename_i hc
      rw [if_pos (by rw [itpL_len, itpL_len]; exact hc)]
      have := afillT_ok rl places ps _ out h
      rw [itpL_owr] at this
      exact this
def evPartsT {U : Univ} (s : TS U) : List (Nat × Operand) → Option (List (Nat × List (TV U)))
  | [] => some []
  | (i, x) :: l => match tcells (evO s x), evPartsT s l with
    | some cs, some r => some ((i, cs) :: r)
    | _, _ => none
theorem evPartsT_ok {σ : St} (hM : M s σ) : ∀ {l : List (Nat × Operand)} {ps : List (Nat × List (TV X.U))}, evPartsT s l = some ps → (l.map fun p => (p.1, (σ.ev p.2).cells)) = (ps.map fun p => (p.1, itpL (rlen s.objs) p.2)) ∧ ∀ p ∈ ps, belL s.objs.length p.2 = true
  | [], ps, h => by cases h; exact ⟨rfl, fun p hp => by cases hp⟩
  | (i, x) :: l, ps, h => by
    unfold evPartsT at h
    split at h <;> try (cases h; done)
    rename_i cs r' hcs hr
    cases h
    obtain ⟨h1, h2⟩ := evPartsT_ok hM hr
    obtain ⟨k1, k2⟩ := hM.evc hcs (rlen s.objs) fun _ _ => rfl
    refine ⟨by rw [List.map_cons, List.map_cons, h1, k1], fun p hp => ?_⟩
    rcases List.mem_cons.1 hp with rfl | hp
    · exact k2
    · exact h2 p hp
theorem afillT_bel {U : Univ} {n : Nat} (places : List (Nat × Nat)) : ∀ (ps : List (Nat × List (TV U))) (cells out : List (TV U)), afillT places cells ps = some out → belL n cells = true → (∀ p ∈ ps, belL n p.2 = true) → belL n out = true
  | [], cells, out, h, hc, _ => by cases h; exact hc
  | (i, cs) :: ps, cells, out, h, hc, hp => by
    unfold afillT at h
    split at h <;> try (cases h; done)
    split at h <;> try (cases h; done)
    exact afillT_bel places ps _ out h (by rw [owrT_eq]; exact belL_owr hc (hp _ List.mem_cons_self) _) fun p hm => hp p (List.mem_cons_of_mem _ hm)
def evBuild (X : Cx) (s : TS X.U) (T : TypeId) (parts : List (Nat × Operand)) (k : List Loc → TEff X.U → Option R) : Option R :=
  match X.tt T with
  | none => none
  | some t => match t.zero.all SV.isV with
    | false => none
    | true => match t.flds with
      | [] => none
      | _ :: _ => match places X.tt t with
        | none => none
        | some pl => match evPartsT s parts with
          | none => none
          | some ps => match afillT pl (tz t) ps with
            | none => none
            | some out => k (locs (parts.map (·.2))) ⟨.agg out, []⟩
theorem evBuild_ok (hX : CxOk P X) {T : TypeId} {parts : Array (Nat × Operand)} (h : evBuild X s T parts.toList k = some r) (hM : M s σ) (ho : o.op = .build T parts) : ∃ L e, k L e = some r ∧ Fit P s o σ L e := by
  unfold evBuild at h
  split at h <;> try (cases h; done)
  rename_i t ht
  split at h <;> try (cases h; done)
  rename_i hz
  split at h <;> try (cases h; done)
  rename_i f fs hf
  split at h <;> try (cases h; done)
  rename_i pl hpl
  split at h <;> try (cases h; done)
  rename_i ps hps
  split at h <;> try (cases h; done)
  rename_i out hout
  obtain ⟨h1, h2⟩ := evPartsT_ok hM hps
  have ha := afillT_ok (rlen s.objs) pl ps _ out hout
  rw [tz_ok hz] at ha
  refine ⟨_, _, h, .pure (w_build hX.tab ho ht (by rw [hf]; simp) hpl ?_) (afillT_bel pl ps _ out hout (tz_bel _) h2)⟩
  show afill pl t.zero (parts.toList.map fun p => (p.1, (σ.ev p.2).cells)) = _
  rw [h1]
  exact ha
end
end Go.Proofs.YtmcflglkfgnbbaaDoor.Eng


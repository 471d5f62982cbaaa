/- What operations make of told states. -/
import Derived.Test.YtcbbpidnocgoiaaDoorEvA
namespace Go.Proofs.YtcbbpidnocgoiaaDoor.Eng
open Go Go.RowKit
set_option linter.unusedVariables false
set_option linter.unusedSimpArgs false

structure Cx where
  U : Univ
  tt : Nat → Option TI
  sty : Nat → Bool
  enc : (c : U.C) → U.T c → List (TV U)
  dec : (c : U.C) → List (TV U) → Option (U.T c)
  elc : Nat → Option U.C
/-- A row that is none, told as a list of nothing. -/
def nilTo {U : Univ} (c : U.C) : TV U → TV U
  | .v (.slice none 0 0) => .lst c []
  | x => x
def prepL {U : Univ} : List (Option U.C) → List (TV U) → List (TV U)
  | some c :: cs, x :: l => nilTo c x :: prepL cs l
  | none :: cs, x :: l => x :: prepL cs l
  | _, l => l
theorem repL_prep {U : Univ} {g : Gh} {H : Array Go.Obj} {rl : Nat → Nat} : ∀ (cs : List (Option U.C)) (l : List (TV U)) {vs : List Value}, RepL g H vs (itpL rl l) → RepL g H vs (itpL rl (prepL cs l))
  | some c :: cs, x :: l, _, h => by
    have h : RepL g H _ (x.itp rl :: itpL rl l) := h
    cases h with
    | cons h t =>
      refine .cons ?_ (repL_prep cs l t)
      unfold nilTo
      split
      · obtain rfl := rep_v h
        exact .nil
      · exact h
  | none :: cs, x :: l, _, h => by
    have h : RepL g H _ (x.itp rl :: itpL rl l) := h
    cases h with
    | cons h t => exact .cons h (repL_prep cs l t)
  | [], l, _, h => by
    show RepL g H _ (itpL rl (prepL [] l))
    unfold prepL
    exact h
  | some _ :: _, [], _, h => h
  | none :: _, [], _, h => h
structure CxOk (P : Program) (X : Cx) : Prop where
  tab : Tab P X.tt
  str : ∀ T, X.sty T = true → P.underlying T = some .string
  enc : ∀ c x rl, itpL rl (X.enc c x) = X.U.encS c x
  encb : ∀ c x, belL 0 (X.enc c x) = true
  dec : ∀ c l x rl, X.dec c l = some x → ∀ g H vs, RepL g H vs (itpL rl l) → RepL g H vs (X.U.encS c x)
  len : ∀ c x, (X.U.encS c x).length = X.U.sz c
  pos : ∀ c, 0 < X.U.sz c
  one : ∀ c x, (X.U.encS c x).all SV.one = true
  closed : ∀ c x, closedL (X.U.encS c x) = true
/-- What an operation leaves fits what it does. -/
structure Fit (P : Program) {U : Univ} (s : TS U) (o : Oper) (σ : St) (L : List Loc) (e : TEff U) : Prop where
  step : Step P o L (e.itp (rlen (updO s.objs e.ob)) o.dst) σ
  obs : ObsOk s.objs e.ob
  vb : e.v.bel (updO s.objs e.ob).length = true
  obb : obsBelow (updO s.objs e.ob).length e.ob = true
section
variable {P : Program} {X : Cx} {s : TS X.U} {o : Oper} {σ : St} {R : Type} {r : R} {k : List Loc → TEff X.U → Option R}
theorem Fit.pure {L : List Loc} {tv : TV X.U} (h : Step P o L ⟨o.dst, tv.itp (rlen s.objs), []⟩ σ) (hb : tv.bel s.objs.length = true) : Fit P s o σ L ⟨tv, []⟩ := ⟨h, trivial, hb, rfl⟩
/-! ### Moves -/
def TV.isJunk {U : Univ} : TV U → Bool
  | .junk => true
  | _ => false
theorem not_junk {U : Univ} {x : TV U} (h : x.isJunk = false) : x ≠ .junk := by rintro rfl; cases h
def evMv (X : Cx) (s : TS X.U) (x : Operand) (k : List Loc → TEff X.U → Option R) : Option R := match (evO s x).isJunk with | true => none | false => k (locO x) ⟨evO s x, []⟩
theorem evMv_ok {x : Operand} (h : evMv X s x k = some r) (hM : M s σ) (ho : o.op = .move x ∨ o.op = .assign x) : ∃ L e, k L e = some r ∧ Fit P s o σ L e := by
  unfold evMv at h
  split at h
  · cases h
  · rename_i hj
    refine ⟨_, _, h, .pure ?_ (hM.evb rfl)⟩
    rw [← hM.ev rfl (not_junk hj)]
    rcases ho with ho | ho
    · exact step_move ho
    · exact step_assign ho
def evPick (X : Cx) (s : TS X.U) (c x y : Operand) (k : List Loc → TEff X.U → Option R) : Option R :=
  match evO s c with
  | .v (.bool b) => cond b (match (evO s x).isJunk with | true => none | false => k (locO c ++ locO x ++ locO y) ⟨evO s x, []⟩) (match (evO s y).isJunk with | true => none | false => k (locO c ++ locO x ++ locO y) ⟨evO s y, []⟩)
  | _ => none
theorem evPick_ok {c x y : Operand} (h : evPick X s c x y k = some r) (hM : M s σ) (ho : o.op = .pick c x y) : ∃ L e, k L e = some r ∧ Fit P s o σ L e := by
  unfold evPick at h
  split at h
  · rename_i b hc
    have hs := step_pick (P := P) ho (b := b) (by rw [hM.ev hc (by simp)]; rfl)
    cases b with
    | true =>
      simp only [cond_true] at h
      split at h
      · cases h
      · rename_i hj
        refine ⟨_, _, h, .pure ?_ (hM.evb rfl)⟩
        rw [← hM.ev rfl (not_junk hj)]
        exact hs
    | false =>
      simp only [cond_false] at h
      split at h
      · cases h
      · rename_i hj
        refine ⟨_, _, h, .pure ?_ (hM.evb rfl)⟩
        rw [← hM.ev rfl (not_junk hj)]
        exact hs
  · cases h
/-! ### Numbers and texts -/
def tbin (op : BinOp) (x y : Value) (k : Value → Option R) : Option R := match x, y with
  | .int i a, .int j b => match op with
    | .shl => if b < 0 then none else k (.int i (i.wrap (a * 2 ^ (min b.toNat i.bits))))
    | .shr => if b < 0 then none else k (.int i (a.fdiv (2 ^ (min b.toNat i.bits))))
    | .add => if i = j then k (.int i (i.wrap (a + b))) else none
    | .sub => if i = j then k (.int i (i.wrap (a - b))) else none
    | .mul => if i = j then k (.int i (i.wrap (a * b))) else none
    | .quo => if i = j then (if b = 0 then none else k (.int i (i.wrap (a.tdiv b)))) else none
    | .rem => if i = j then (if b = 0 then none else k (.int i (a.tmod b))) else none
    | .eql => if i = j then k (.bool (decide (a = b))) else none
    | .neq => if i = j then k (.bool (!decide (a = b))) else none
    | .lss => if i = j then k (.bool (decide (a < b))) else none
    | .leq => if i = j then k (.bool (decide (a ≤ b))) else none
    | .gtr => if i = j then k (.bool (decide (b < a))) else none
    | .geq => if i = j then k (.bool (decide (b ≤ a))) else none
    | .and => if i = j then k (.int i (i.wrap ((BitVec.ofInt i.bits a &&& BitVec.ofInt i.bits b).toNat : Nat))) else none
    | .or => if i = j then k (.int i (i.wrap ((BitVec.ofInt i.bits a ||| BitVec.ofInt i.bits b).toNat : Nat))) else none
    | .xor => if i = j then k (.int i (i.wrap ((BitVec.ofInt i.bits a ^^^ BitVec.ofInt i.bits b).toNat : Nat))) else none
    | .andNot => if i = j then k (.int i (i.wrap ((BitVec.ofInt i.bits a &&& ~~~BitVec.ofInt i.bits b).toNat : Nat))) else none
  | .string a, .string b => match op with
    | .add => if a.size + b.size ≤ 9223372036854775807 then k (.string (a ++ b)) else none
    | .eql => k (.bool (a.toList == b.toList))
    | .neq => k (.bool (!(a.toList == b.toList)))
    | .lss => k (.bool (Op.bytesLess a.toList b.toList))
    | .leq => k (.bool (Op.bytesLess a.toList b.toList || a.toList == b.toList))
    | .gtr => k (.bool (!(Op.bytesLess a.toList b.toList || a.toList == b.toList)))
    | .geq => k (.bool (!Op.bytesLess a.toList b.toList))
    | _ => none
  | _, _ => none
theorem tbin_ok {op : BinOp} {x y : Value} {k : Value → Option R} (h : tbin op x y k = some r) : ∃ v, abin op x y = some v ∧ k v = some r := by
  unfold tbin at h
  split at h
  · cases op <;> simp only at h <;> (repeat' split at h) <;> first | (cases h; done) | (refine ⟨_, ?_, h⟩; subst_vars; simp_all [abin]; done) | (refine ⟨_, ?_, h⟩; subst_vars; simp_all [abin]; rfl) | (refine ⟨_, ?_, h⟩; subst_vars; unfold abin; rw [if_pos rfl]; simp [BEq.beq]; rfl)
  · cases op <;> simp only at h <;> (repeat' split at h) <;> first | (cases h; done) | (refine ⟨_, ?_, h⟩; simp_all [abin]; done) | (refine ⟨_, ?_, h⟩; simp only [abin]; rw [if_neg (by omega)])
  · cases h
/-- Two bools, or a pointer and none. -/
def evBin (X : Cx) (s : TS X.U) (op : BinOp) (T : TypeId) (x y : Operand) (k : List Loc → TEff X.U → Option R) : Option R :=
  match evO s x, evO s y with
  | .v (.bool p), .v (.bool q) => match X.tt T with
    | some t => match t.bool with
      | true => match op with
        | .eql => k (locO x ++ locO y) ⟨.v (.bool (p == q)), []⟩
        | .neq => k (locO x ++ locO y) ⟨.v (.bool !(p == q)), []⟩
        | _ => none
      | false => none
    | none => none
  | .v (.pointer none), .v (.pointer none) => match X.tt T with
    | some t => match t.ptr with
      | true => match op with
        | .eql => k (locO x ++ locO y) ⟨.v (.bool true), []⟩
        | .neq => k (locO x ++ locO y) ⟨.v (.bool false), []⟩
        | _ => none
      | false => none
    | none => none
  | .ref _ _ _, .v (.pointer none) => match X.tt T with
    | some t => match t.ptr with
      | true => match op with
        | .eql => k (locO x ++ locO y) ⟨.v (.bool false), []⟩
        | .neq => k (locO x ++ locO y) ⟨.v (.bool true), []⟩
        | _ => none
      | false => none
    | none => none
  | .elt _ _ _, .v (.pointer none) => match X.tt T with
    | some t => match t.ptr with
      | true => match op with
        | .eql => k (locO x ++ locO y) ⟨.v (.bool false), []⟩
        | .neq => k (locO x ++ locO y) ⟨.v (.bool true), []⟩
        | _ => none
      | false => none
    | none => none
  | .v a, .v b => tbin op a b fun v => k (locO x ++ locO y) ⟨.v v, []⟩
  | _, _ => none
theorem w_elt_nil {tt : Nat → Option TI} {s : St} (ht : Tab P tt) {b : Bool} {T T2 : TypeId} {x y : Operand} (ho : o.op = .binOp (if b then .eql else .neq) T x y T2) {t : TI} (h1 : tt T = some t) (h2 : t.ptr = true) {cells : List SV} {j : Nat} (hx : s.ev x = .elt cells j) (hy : s.ev y = .v (.pointer none)) : Step P o (locO x ++ locO y) ⟨o.dst, .v (.bool !b), []⟩ s :=
  step_value fun g σ f ac w hA hR => by
    have e1 := hR.ev x
    rw [ev_agree hA.left, hx] at e1
    have e2 := ev_v hR hA.right hy
    obtain ⟨bb, off, he, _⟩ := rep_elt e1
    refine ⟨.bool !b, ?_, .v _⟩
    have hp := run_equal_pointer_nil (P := P) (w := w) T (some ⟨bb, off + j, none⟩) ((ht T t h1).pt h2)
    cases b <;> simp [execOp, ho, e2, he, Sem.run_bind, eqGuard_ptr, binOp, hp]
theorem evBin_ok (hX : CxOk P X) {op : BinOp} {T T2 : TypeId} {x y : Operand} (h : evBin X s op T x y k = some r) (hM : M s σ) (ho : o.op = .binOp op T x y T2) : ∃ L e, k L e = some r ∧ Fit P s o σ L e := by
  unfold evBin at h
  split at h
  · rename_i p q hx hy
    have ex := hM.ev hx (by simp)
    have ey := hM.ev hy (by simp)
    split at h <;> try (cases h; done)
    rename_i t ht
    split at h <;> try (cases h; done)
    rename_i hb
    split at h
    · exact ⟨_, _, h, .pure (w_bool hX.tab (b := true) ho ht hb ex ey) rfl⟩
    · exact ⟨_, _, h, .pure (w_bool hX.tab (b := false) ho ht hb ex ey) rfl⟩
    · cases h
  · rename_i hx hy
    have ex := hM.ev hx (by simp)
    have ey := hM.ev hy (by simp)
    split at h <;> try (cases h; done)
    rename_i t ht
    split at h <;> try (cases h; done)
    rename_i hb
    split at h
    · exact ⟨_, _, h, .pure (w_nil_nil hX.tab (b := true) ho ht hb ex ey) rfl⟩
    · exact ⟨_, _, h, .pure (w_nil_nil hX.tab (b := false) ho ht hb ex ey) rfl⟩
    · cases h
  · rename_i hx hy
    have ex := hM.ev hx (by simp)
    have ey := hM.ev hy (by simp)
    split at h <;> try (cases h; done)
    rename_i t ht
    split at h <;> try (cases h; done)
    rename_i hb
    split at h
    · exact ⟨_, _, h, .pure (w_ptr_nil hX.tab (b := true) ho ht hb ex ey) rfl⟩
    · exact ⟨_, _, h, .pure (w_ptr_nil hX.tab (b := false) ho ht hb ex ey) rfl⟩
    · cases h
  · rename_i hx hy
    have ex := hM.ev hx (by simp)
    have ey := hM.ev hy (by simp)
    split at h <;> try (cases h; done)
    rename_i t ht
    split at h <;> try (cases h; done)
    rename_i hb
    split at h
    · exact ⟨_, _, h, .pure (w_elt_nil hX.tab (b := true) ho ht hb ex ey) rfl⟩
    · exact ⟨_, _, h, .pure (w_elt_nil hX.tab (b := false) ho ht hb ex ey) rfl⟩
    · cases h
  · rename_i hx hy
    obtain ⟨v, hv, hk⟩ := tbin_ok h
    exact ⟨_, _, hk, .pure (w_bin ho (hM.ev hx (by simp)) (hM.ev hy (by simp)) hv) rfl⟩
  · cases h
def evUn (X : Cx) (s : TS X.U) (op : UnOp) (x : Operand) (k : List Loc → TEff X.U → Option R) : Option R :=
  match evO s x with
  | .v (.bool b) => match op with
    | .not => k (locO x) ⟨.v (.bool !b), []⟩
    | _ => none
  | .v (.int i n) => match op with
    | .neg => tbin .sub (.int i 0) (.int i n) fun v => k (locO x) ⟨.v v, []⟩
    | .xor => tbin .xor (.int i (if i.signed then -1 else i.max)) (.int i n) fun v => k (locO x) ⟨.v v, []⟩
    | _ => none
  | _ => none
theorem evUn_ok {op : UnOp} {T : TypeId} {x : Operand} (h : evUn X s op x k = some r) (hM : M s σ) (ho : o.op = .unOp op T x) : ∃ L e, k L e = some r ∧ Fit P s o σ L e := by
  unfold evUn at h
  split at h
  · rename_i b hx
    split at h
    · exact ⟨_, _, h, .pure (w_un ho (hM.ev hx (by simp)) rfl) rfl⟩
    · cases h
  · rename_i i n hx
    split at h
    · obtain ⟨v, hv, hk⟩ := tbin_ok h
      exact ⟨_, _, hk, .pure (w_un ho (hM.ev hx (by simp)) hv) rfl⟩
    · obtain ⟨v, hv, hk⟩ := tbin_ok h
      exact ⟨_, _, hk, .pure (w_un ho (hM.ev hx (by simp)) hv) rfl⟩
    · cases h
  · cases h
def evConv (X : Cx) (s : TS X.U) (T1 T2 : TypeId) (x : Operand) (k : List Loc → TEff X.U → Option R) : Option R :=
  match evO s x with
  | .v (.int i n) => match X.tt T1, X.tt T2 with
    | some t1, some t2 => match t2.ik with
      | some j => k (locO x) ⟨.v (.int j (j.wrap n)), []⟩
      | none => none
    | _, _ => none
  | _ => none
theorem evConv_ok (hX : CxOk P X) {T1 T2 : TypeId} {x : Operand} (h : evConv X s T1 T2 x k = some r) (hM : M s σ) (ho : o.op = .convert T1 T2 x) : ∃ L e, k L e = some r ∧ Fit P s o σ L e := by
  unfold evConv at h
  split at h <;> try (cases h; done)
  rename_i i n hx
  split at h <;> try (cases h; done)
  rename_i t1 t2 h1 h2
  split at h <;> try (cases h; done)
  rename_i j hj
  exact ⟨_, _, h, .pure (w_conv hX.tab ho h1 h2 hj (hM.ev hx (by simp)) rfl) rfl⟩
/-! ### Cells -/
/-- One cell, or as many as a struct has. -/
def cellsAt {U : Univ} (t : TI) (l : List (TV U)) (j : Nat) (k : TV U → Option R) : Option R := match t.row with
  | false => match nth l j with
    | some x => k x
    | none => none
  | true => if ((l.drop j).take t.size).length = t.size then k (.agg ((l.drop j).take t.size)) else none
theorem itpL_get {U : Univ} (rl : Nat → Nat) (l : List (TV U)) (j : Nat) : (itpL rl l)[j]? = (nth l j).map (TV.itp rl) := by rw [itpL_eq, List.getElem?_map, nth_eq]
theorem itpL_len {U : Univ} (rl : Nat → Nat) (l : List (TV U)) : (itpL rl l).length = l.length := by rw [itpL_eq, List.length_map]
theorem itpL_cut {U : Univ} (rl : Nat → Nat) (l : List (TV U)) (j n : Nat) : ((itpL rl l).drop j).take n = itpL rl ((l.drop j).take n) := by rw [itpL_eq, itpL_eq, ← List.map_drop, ← List.map_take]
theorem belL_nth {U : Univ} {n : Nat} {l : List (TV U)} {j : Nat} {x : TV U} (h : belL n l = true) (hx : nth l j = some x) : x.bel n = true := by
  rw [belL_all] at h
  rw [nth_eq] at hx
  exact List.all_eq_true.1 h x (List.mem_of_getElem? hx)
theorem belL_cut {U : Univ} {n : Nat} {l : List (TV U)} (h : belL n l = true) (j m : Nat) : belL n ((l.drop j).take m) = true := by
  rw [belL_all] at h ⊢
  exact List.all_eq_true.2 fun x hx => List.all_eq_true.1 h x (List.mem_of_mem_drop (List.mem_of_mem_take hx))
theorem cellsAt_ok {U : Univ} {t : TI} {l : List (TV U)} {j : Nat} {k : TV U → Option R} (h : cellsAt t l j k = some r) {n : Nat} (hb : belL n l = true) :
    ∃ tv, k tv = some r ∧ tv.bel n = true ∧ ((t.row = false ∧ ∀ rl, (itpL rl l)[j]? = some (tv.itp rl)) ∨ (t.row = true ∧ ∀ rl, ∃ cs, tv.itp rl = .agg cs ∧ ((itpL rl l).drop j).take t.size = cs ∧ cs.length = t.size)) := by
  unfold cellsAt at h
  split at h
  · rename_i hr
    split at h
    · rename_i x hx
      exact ⟨x, h, belL_nth hb hx, .inl ⟨hr, fun rl => by rw [itpL_get, hx]; rfl⟩⟩
    · cases h
  · rename_i hr
    split at h
    · rename_i hl
      refine ⟨_, h, belL_cut hb j t.size, .inr ⟨hr, fun rl => ⟨itpL rl ((l.drop j).take t.size), rfl, itpL_cut .., by rw [itpL_len, hl]⟩⟩⟩
    · cases h
theorem M.obj_cells {id : Nat} {l : List (TV X.U)} {fz : Bool} (hM : M s σ) (h : nth s.objs id = some (.cells l fz)) : σ.obj id = .ob ⟨l.length, [itpL (rlen s.objs) l], fz⟩ := hM.ob id _ h
theorem M.obj_row {id : Nat} {c : X.U.C} {xs : List (X.U.T c)} {fz : Bool} (hM : M s σ) (h : nth s.objs id = some (.row c xs fz)) : σ.obj id = .ob ⟨X.U.sz c, xs.map (X.U.encS c), fz⟩ := hM.ob id _ h
theorem encb_bel (hX : CxOk P X) (c : X.U.C) (x : X.U.T c) (n : Nat) : belL n (X.enc c x) = true := belL_mono (Nat.zero_le n) (hX.encb c x)
def evLoad (X : Cx) (s : TS X.U) (T : TypeId) (x : Operand) (k : List Loc → TEff X.U → Option R) : Option R :=
  match X.tt T with
  | none => none
  | some t => match evO s x with
    | .ref id i j => match nth s.objs id with
      | some (.cells l fz) => match i with
        | 0 => cellsAt t l j fun tv => k (locO x ++ [.obj id]) ⟨tv, []⟩
        | _ + 1 => none
      | some (.row c xs fz) => (xs[i]?).bind fun y => cellsAt t (X.enc c y) j fun tv => k (locO x ++ [.obj id]) ⟨tv, []⟩
      | _ => none
    | .elt c y j => cellsAt t (X.enc c y) j fun tv => k (locO x) ⟨tv, []⟩
    | _ => none
theorem evLoad_ok (hX : CxOk P X) {T : TypeId} {x : Operand} (h : evLoad X s T x k = some r) (hM : M s σ) (ho : o.op = .load T x) : ∃ L e, k L e = some r ∧ Fit P s o σ L e := by
  unfold evLoad at h
  split at h <;> try (cases h; done)
  rename_i t ht
  split at h <;> try (cases h; done)
  · rename_i id i j hx
    have ex := hM.ev hx (by simp)
    split at h <;> try (cases h; done)
    · rename_i l fz hob
      split at h <;> try (cases h; done)
      have eo := hM.obj_cells hob
      obtain ⟨tv, hk, hb, hc⟩ := cellsAt_ok h (hM.obb id _ hob)
      refine ⟨_, _, hk, .pure ?_ hb⟩
      rcases hc with ⟨hr, hc⟩ | ⟨hr, hc⟩
      · exact w_load hX.tab ho ht hr ex eo (by rfl) (hc _)
      · obtain ⟨cs, e1, e2, e3⟩ := hc (rlen s.objs)
        rw [e1]
        exact w_loads hX.tab ho ht hr ex eo (by rfl) e2 e3
    · rename_i c xs fz hob
      have eo := hM.obj_row hob
      obtain ⟨y, hy, h⟩ := Option.bind_eq_some_iff.1 h
      obtain ⟨tv, hk, hb, hc⟩ := cellsAt_ok h (encb_bel hX c y s.objs.length)
      have hrow : (xs.map (X.U.encS c))[i]? = some (X.U.encS c y) := by rw [List.getElem?_map, hy]; rfl
      refine ⟨_, _, hk, .pure ?_ hb⟩
      rcases hc with ⟨hr, hc⟩ | ⟨hr, hc⟩
      · exact w_load hX.tab ho ht hr ex eo hrow (by rw [← hX.enc c y (rlen s.objs)]; exact hc _)
      · obtain ⟨cs, e1, e2, e3⟩ := hc (rlen s.objs)
        rw [e1]
        rw [hX.enc] at e2
        exact w_loads hX.tab ho ht hr ex eo hrow e2 e3
  · rename_i c y j hx
    have ex := hM.ev hx (by simp)
    obtain ⟨tv, hk, hb, hc⟩ := cellsAt_ok h (encb_bel hX c y s.objs.length)
    refine ⟨_, _, hk, .pure ?_ hb⟩
    rcases hc with ⟨hr, hc⟩ | ⟨hr, hc⟩
    · exact w_load_elt hX.tab ho ht hr ex (by rw [← hX.enc c y (rlen s.objs)]; exact hc _)
    · obtain ⟨cs, e1, e2, e3⟩ := hc (rlen s.objs)
      rw [e1]
      rw [hX.enc] at e2
      exact w_loads_elt hX.tab ho ht hr ex e2 e3
/-- A value's cells. -/
def tcells {U : Univ} : TV U → Option (List (TV U))
  | .v x => some (x.cells.toList.map .v)
  | .agg l => some l
  | .junk => none
  | x => some [x]
def TV.one {U : Univ} : TV U → Bool
  | .v x => x.oneCell'
  | .agg _ => false
  | .tup _ => false
  | .junk => false
  | _ => true
theorem itpL_v {U : Univ} (rl : Nat → Nat) (l : List Value) : itpL (U := U) rl (l.map .v) = l.map SV.v := by rw [itpL_eq, List.map_map]; rfl
theorem tcells_ok {U : Univ} {x : TV U} {cs : List (TV U)} (h : tcells x = some cs) (rl : Nat → Nat) {n : Nat} (hb : x.bel n = true) : (x.itp rl).cells = itpL rl cs ∧ belL n cs = true ∧ x ≠ .junk := by
  cases x <;> first | (cases h; done) | (cases h; refine ⟨?_, ?_, by simp⟩)
  · exact (itpL_v rl _).symm
  · rw [belL_all]; simp [TV.bel, TV.all]
  all_goals first | rfl | exact hb | (show (_ && true) = true; rw [Bool.and_true]; exact hb)
theorem one_ok {U : Univ} (rl : Nat → Nat) {l : List (TV U)} (h : l.all TV.one = true) : (itpL rl l).all SV.one = true := by
  rw [itpL_eq, List.all_map]
  refine List.all_eq_true.2 fun x hx => ?_
  have := List.all_eq_true.1 h x hx
  cases x <;> first | (cases this; done) | exact this | rfl
def owrT {α : Type} : List α → Nat → List α → List α
  | l, _, [] => l
  | l, o, c :: cs => owrT (setN l o c) (o + 1) cs
theorem owrT_eq {α : Type} : ∀ (cs l : List α) (o : Nat), owrT l o cs = owr l o cs
  | [], l, o => rfl
  | c :: cs, l, o => by rw [owrT, owrT_eq cs, setN_eq]; rfl
theorem owr_map {α β : Type} (f : α → β) : ∀ (cs l : List α) (o : Nat), (owr l o cs).map f = owr (l.map f) o (cs.map f)
  | [], l, o => rfl
  | c :: cs, l, o => by rw [owr, owr_map f cs, List.map_set]; rfl
theorem itpL_owr {U : Univ} (rl : Nat → Nat) (l cs : List (TV U)) (o : Nat) : itpL rl (owrT l o cs) = owr (itpL rl l) o (itpL rl cs) := by rw [owrT_eq, itpL_eq, itpL_eq, itpL_eq, owr_map]
theorem belL_set {U : Univ} {n : Nat} : ∀ {l : List (TV U)}, belL n l = true → ∀ (o : Nat) {x : TV U}, x.bel n = true → belL n (l.set o x) = true
  | [], h, o, x, hx => h
  | y :: l, h, 0, x, hx => by
    have h : (y.bel n && belL n l) = true := h
    rw [Bool.and_eq_true] at h
    show (x.bel n && belL n l) = true
    rw [hx, h.2]
    rfl
  | y :: l, h, o + 1, x, hx => by
    have h : (y.bel n && belL n l) = true := h
    rw [Bool.and_eq_true] at h
    show (y.bel n && belL n (l.set o x)) = true
    rw [h.1, belL_set h.2 o hx]
    rfl
theorem belL_owr {U : Univ} {n : Nat} : ∀ {cs l : List (TV U)}, belL n l = true → belL n cs = true → ∀ o, belL n (owr l o cs) = true
  | [], l, h, _, o => h
  | c :: cs, l, h, hc, o => by
    have hc : (c.bel n && belL n cs) = true := hc
    rw [Bool.and_eq_true] at hc
    exact belL_owr (belL_set h o hc.1) hc.2 (o + 1)
theorem ObsOk.one {l : List (TO X.U)} {id : Nat} {o x : TO X.U} (h : nth l id = some o) (hr : o.rlen = x.rlen) : ObsOk l [(id, x)] := ⟨.inl ⟨o, h, hr⟩, trivial⟩
theorem setO_rlen {l : List (TO X.U)} {id : Nat} {o x : TO X.U} (h : nth l id = some o) (hr : o.rlen = x.rlen) : rlen (updO l [(id, x)]) = rlen l := by
  funext i
  show rlen (setO l id x) i = _
  unfold rlen
  rw [nth_setO l id x i (Nat.le_of_lt (nth_lt h))]
  by_cases e : i = id
  · subst e; rw [if_pos rfl, h]; exact hr.symm
  · rw [if_neg e]
theorem setO_length {l : List (TO X.U)} {id : Nat} {o x : TO X.U} (h : nth l id = some o) : (updO l [(id, x)]).length = l.length := by
  show (setO l id x).length = _
  rw [length_setO, if_pos (nth_lt h)]
/-- One object is written over by one as long. -/
theorem Fit.set {L : List Loc} {id : Nat} {ob x : TO X.U} {tv : TV X.U} (h : nth s.objs id = some ob) (hr : ob.rlen = x.rlen) (hst : Step P o L ⟨o.dst, tv.itp (rlen s.objs), [(id, x.itp (rlen s.objs))]⟩ σ) (hb : tv.bel s.objs.length = true) (hx : x.bel s.objs.length = true) : Fit P s o σ L ⟨tv, [(id, x)]⟩ := by
  refine ⟨?_, .one h hr, ?_, ?_⟩
  · show Step P o L ⟨_, tv.itp (rlen (updO s.objs [(id, x)])), [(id, x.itp (rlen (updO s.objs [(id, x)])))]⟩ σ
    rw [setO_rlen h hr]
    exact hst
  · show tv.bel (updO s.objs [(id, x)]).length = true
    rw [setO_length h]
    exact hb
  · show (x.bel (updO s.objs [(id, x)]).length && true) = true
    rw [setO_length h, hx]
    rfl
def evStore (X : Cx) (s : TS X.U) (T : TypeId) (x y : Operand) (k : List Loc → TEff X.U → Option R) : Option R :=
  match X.tt T, tcells (evO s y) with
  | some t, some cs => match cs.all TV.one with
    | false => none
    | true => if cs.length = t.size then match evO s x with
      | .ref id i j => match nth s.objs id with
        | some (.cells l false) => match i with
          | 0 => if j + t.size ≤ l.length then k (locO x ++ locO y ++ [.obj id]) ⟨.v undef, [(id, .cells (owrT l j cs) false)]⟩ else none
          | _ + 1 => none
        | some (.row c xs false) => if j + t.size ≤ X.U.sz c then (xs[i]?).bind fun z => match X.dec c (owrT (X.enc c z) j cs) with
          | some z' => k (locO x ++ locO y ++ [.obj id]) ⟨.v undef, [(id, .row c (xs.set i z') false)]⟩
          | none => none else none
        | _ => none
      | _ => none
      else none
  | _, _ => none
theorem evStore_ok (hX : CxOk P X) {T : TypeId} {x y : Operand} (h : evStore X s T x y k = some r) (hM : M s σ) (ho : o.op = .store T x y) : ∃ L e, k L e = some r ∧ Fit P s o σ L e := by
  unfold evStore at h
  split at h <;> try (cases h; done)
  rename_i t cs ht hcs
  split at h <;> try (cases h; done)
  rename_i hone
  split at h <;> try (cases h; done)
  rename_i hlen
  obtain ⟨q1, q2, q3⟩ := tcells_ok hcs (rlen s.objs) (hM.evb (x := y) rfl)
  have ey := hM.ev (x := y) rfl q3
  split at h <;> try (cases h; done)
  rename_i id i j hx
  have ex := hM.ev hx (by simp)
  split at h <;> try (cases h; done)
  · rename_i l hob
    split at h <;> try (cases h; done)
    split at h <;> try (cases h; done)
    rename_i hle
    have eo := hM.obj_cells hob
    refine ⟨_, _, h, .set hob rfl ?_ rfl (by show belL _ _ = true; rw [owrT_eq]; exact belL_owr (hM.obb id _ hob) q2 j)⟩
    have := w_store (P := P) hX.tab ho ht ex eo rfl (by rfl) (by rw [ey]; exact q1) (one_ok _ hone) (by rw [itpL_len]; exact hlen) (by rw [itpL_len]; exact hle) rfl rfl
    show Step P o _ ⟨_, _, [(id, .ob ⟨(owrT l j cs).length, [itpL (rlen s.objs) (owrT l j cs)], false⟩)]⟩ σ
    rw [itpL_owr, owrT_eq, length_owr]
    exact this
  · rename_i c xs hob
    split at h <;> try (cases h; done)
    rename_i hle
    obtain ⟨z, hz, h⟩ := Option.bind_eq_some_iff.1 h
    split at h <;> try (cases h; done)
    rename_i z' hz'
    have eo := hM.obj_row hob
    refine ⟨_, _, h, .set hob (by show xs.length = (xs.set i z').length; rw [List.length_set]) ?_ rfl rfl⟩
    have hrow : (xs.map (X.U.encS c))[i]? = some (X.U.encS c z) := by rw [List.getElem?_map, hz]; rfl
    have hd := hX.dec c _ _ (rlen s.objs) hz'
    rw [itpL_owr, hX.enc] at hd
    have := w_store (P := P) hX.tab ho ht ex eo rfl hrow (by rw [ey]; exact q1) (one_ok _ hone) (by rw [itpL_len]; exact hlen) (by rw [hX.len]; exact hle) rfl rfl
    refine step_weak this (fun _ _ _ h => h) (.cons ⟨rfl, rfl, fun g H vs hvs => ?_⟩ .nil)
    show RepR g H vs _ ((xs.set i z').map (X.U.encS c))
    rw [List.map_set]
    refine repR_weak (by rw [List.length_set, List.length_set]) (fun k r r' h1 h2 ws hws => ?_) hvs
    rw [List.getElem?_set] at h1 h2
    by_cases e : i = k
    · subst e
      rw [if_pos rfl] at h1 h2
      split at h1
      · rename_i hlt
        rw [if_pos hlt] at h2
        cases h1
        cases h2
        exact hd _ _ _ hws
      · cases h1
    · rw [if_neg e] at h1 h2
      rw [h1] at h2
      cases h2
      exact hws
end
end Go.Proofs.YtcbbpidnocgoiaaDoor.Eng

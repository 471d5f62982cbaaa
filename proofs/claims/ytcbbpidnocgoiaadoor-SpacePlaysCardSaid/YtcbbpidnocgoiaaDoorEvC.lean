/- Addresses, parts, new memory. -/
import Derived.Test.YtcbbpidnocgoiaaDoorEvB
namespace Go.Proofs.YtcbbpidnocgoiaaDoor.Eng
open Go Go.RowKit
set_option linter.unusedVariables false
set_option linter.unusedSimpArgs false
section
variable {P : Program} {X : Cx} {s : TS X.U} {o : Oper} {σ : St} {R : Type} {r : R} {k : List Loc → TEff X.U → Option R}
def evFieldAddr (X : Cx) (s : TS X.U) (T : TypeId) (x : Operand) (f : Nat) (k : List Loc → TEff X.U → Option R) : Option R :=
  match X.tt T with
  | none => none
  | some t => match nth t.flds f with
    | none => none
    | some (off, ft) => match X.tt ft with
      | none => none
      | some u => match u.size with
        | 0 => none
        | _ + 1 => match evO s x with
          | .ref id i j => k (locO x) ⟨.ref id i (j + off), []⟩
          | .elt c y j => k (locO x) ⟨.elt c y (j + off), []⟩
          | _ => none
theorem evFieldAddr_ok (hX : CxOk P X) {T : TypeId} {x : Operand} {f : Nat} (h : evFieldAddr X s T x f k = some r) (hM : M s σ) (ho : o.op = .fieldAddr T x f) : ∃ L e, k L e = some r ∧ Fit P s o σ L e := by
  unfold evFieldAddr at h
  split at h <;> try (cases h; done)
  rename_i t ht
  split at h <;> try (cases h; done)
  rename_i off ft hf
  rw [nth_eq] at hf
  split at h <;> try (cases h; done)
  rename_i u hu
  split at h <;> try (cases h; done)
  rename_i m hm
  split at h <;> try (cases h; done)
  · rename_i id i j hx
    exact ⟨_, _, h, .pure (w_fieldAddr hX.tab ho ht hf hu (by omega) (hM.ev hx (by simp)) rfl) (by have := hM.evb hx; exact this)⟩
  · rename_i c y j hx
    exact ⟨_, _, h, .pure (w_fieldAddr_elt hX.tab ho ht hf hu (by omega) (hM.ev hx (by simp)) rfl) rfl⟩
def evField (X : Cx) (s : TS X.U) (T : TypeId) (x : Operand) (f : Nat) (k : List Loc → TEff X.U → Option R) : Option R :=
  match X.tt T with
  | none => none
  | some t => match nth t.flds f with
    | none => none
    | some (off, ft) => match X.tt ft with
      | none => none
      | some u => match evO s x with
        | .agg l => cellsAt u l off fun tv => k (locO x) ⟨tv, []⟩
        | _ => none
theorem evField_ok (hX : CxOk P X) {T : TypeId} {x : Operand} {f : Nat} (h : evField X s T x f k = some r) (hM : M s σ) (ho : o.op = .field T x f) : ∃ L e, k L e = some r ∧ Fit P s o σ L e := by
  unfold evField at h
  split at h <;> try (cases h; done)
  rename_i t ht
  split at h <;> try (cases h; done)
  rename_i off ft hf
  rw [nth_eq] at hf
  split at h <;> try (cases h; done)
  rename_i u hu
  split at h <;> try (cases h; done)
  rename_i l hx
  have ex := hM.ev hx (by simp)
  obtain ⟨tv, hk, hb, hc⟩ := cellsAt_ok h (n := s.objs.length) (hM.evb hx)
  refine ⟨_, _, hk, .pure ?_ hb⟩
  rcases hc with ⟨hr, hc⟩ | ⟨hr, hc⟩
  · exact w_field hX.tab ho ht hf hu hr ex (hc _)
  · obtain ⟨cs, e1, e2, e3⟩ := hc (rlen s.objs)
    rw [e1]
    exact w_fields hX.tab ho ht hf hu hr ex e2
def evNil (X : Cx) (s : TS X.U) (x : Operand) (k : List Loc → TEff X.U → Option R) : Option R :=
  match evO s x with
  | .ref id i j => k (locO x) ⟨.ref id i j, []⟩
  | .elt c y j => k (locO x) ⟨.elt c y j, []⟩
  | _ => none
theorem evNil_ok {x : Operand} (h : evNil X s x k = some r) (hM : M s σ) (ho : o.op = .nilCheck x) : ∃ L e, k L e = some r ∧ Fit P s o σ L e := by
  unfold evNil at h
  split at h <;> try (cases h; done)
  · rename_i hx
    exact ⟨_, _, h, .pure (step_nilCheck ho (hM.ev hx (by simp))) (hM.evb hx)⟩
  · rename_i hx
    exact ⟨_, _, h, .pure (step_nilCheck_elt ho (hM.ev hx (by simp))) rfl⟩
def evExtract (X : Cx) (s : TS X.U) (x : Operand) (n : Nat) (k : List Loc → TEff X.U → Option R) : Option R :=
  match evO s x with
  | .tup l => match nth l n with
    | some y => k (locO x) ⟨y, []⟩
    | none => none
  | _ => none
theorem evExtract_ok {x : Operand} {n : Nat} (h : evExtract X s x n k = some r) (hM : M s σ) (ho : o.op = .extract x n) : ∃ L e, k L e = some r ∧ Fit P s o σ L e := by
  unfold evExtract at h
  split at h <;> try (cases h; done)
  rename_i l hx
  split at h <;> try (cases h; done)
  rename_i y hy
  refine ⟨_, _, h, .pure (step_extract ho (hM.ev hx (by simp)) ?_) (belL_nth (l := l) (hM.evb hx) hy)⟩
  rw [itpL_get, hy]
  rfl
/-! ### Elements -/
def getI {α : Type} (xs : List α) (i : Int) : Option α := if 0 ≤ i then xs[i.toNat]? else none
theorem getI_some {α : Type} {xs : List α} {i : Int} {x : α} (h : getI xs i = some x) : 0 ≤ i ∧ xs[i.toNat]? = some x := by
  unfold getI at h
  split at h
  · exact ⟨by assumption, h⟩
  · cases h
def evIndexAddr (X : Cx) (s : TS X.U) (T : TypeId) (x y : Operand) (k : List Loc → TEff X.U → Option R) : Option R :=
  match X.tt T with
  | none => none
  | some t => match t.elem with
    | none => none
    | some e => match X.tt e with
      | none => none
      | some u => match evO s y with
        | .v (.int _ i) => match evO s x with
          | .own id lo len => match nth s.objs id with
            | some (.row c _ _) => if X.U.sz c = u.size then (if 0 ≤ i ∧ i < (len : Int) then k (locO x ++ locO y ++ [.obj id]) ⟨.ref id (lo + i.toNat) 0, []⟩ else none) else none
            | _ => none
          | .full id => match nth s.objs id with
            | some (.row c xs _) => if X.U.sz c = u.size then (if 0 ≤ i ∧ i < (xs.length : Int) then k (locO x ++ locO y ++ [.obj id]) ⟨.ref id i.toNat 0, []⟩ else none) else none
            | _ => none
          | .lst c xs => if X.U.sz c = u.size then (getI xs i).bind fun z => k (locO x ++ locO y) ⟨.elt c z 0, []⟩ else none
          | _ => none
        | _ => none
theorem evIndexAddr_ok (hX : CxOk P X) {T : TypeId} {x y : Operand} (h : evIndexAddr X s T x y k = some r) (hM : M s σ) (ho : o.op = .indexAddr T x y) : ∃ L e, k L e = some r ∧ Fit P s o σ L e := by
  unfold evIndexAddr at h
  split at h <;> try (cases h; done)
  rename_i t ht
  split at h <;> try (cases h; done)
  rename_i e he
  split at h <;> try (cases h; done)
  rename_i u hu
  split at h <;> try (cases h; done)
  rename_i kk i hy
  have ey := hM.ev hy (by simp)
  split at h <;> try (cases h; done)
  · rename_i id lo len hx
    have ex := hM.ev hx (by simp)
    split at h <;> try (cases h; done)
    rename_i c xs fz hob
    split at h <;> try (cases h; done)
    rename_i hsz
    split at h <;> try (cases h; done)
    rename_i hi
    exact ⟨_, _, h, .pure (w_index_own hX.tab ho ht he hu ex (hM.obj_row hob) hsz ey hi.1 hi.2 rfl) (by have := hM.evb hx; exact this)⟩
  · rename_i id hx
    have ex := hM.ev hx (by simp)
    split at h <;> try (cases h; done)
    rename_i c xs fz hob
    split at h <;> try (cases h; done)
    rename_i hsz
    split at h <;> try (cases h; done)
    rename_i hi
    have hrl : rlen s.objs id = xs.length := by unfold rlen; rw [hob]; rfl
    exact ⟨_, _, h, .pure (w_index_own hX.tab ho ht he hu ex (hM.obj_row hob) hsz ey hi.1 (by rw [hrl]; exact hi.2) (by omega)) (by have := hM.evb hx; exact this)⟩
  · rename_i c xs hx
    have ex := hM.ev hx (by simp)
    split at h <;> try (cases h; done)
    rename_i hsz
    obtain ⟨z, hz, h⟩ := Option.bind_eq_some_iff.1 h
    obtain ⟨h0, hz⟩ := getI_some hz
    exact ⟨_, _, h, .pure (w_index_lst hX.tab ho ht he hu ex hsz ey h0 (by rw [List.getElem?_map, hz]; rfl)) rfl⟩
/-- A byte of a text. -/
def getB (b : ByteArray) (i : Int) : Option Int := if 0 ≤ i then (b.data[i.toNat]?).map fun c => (c.toNat : Int) else none
def evIndex (X : Cx) (s : TS X.U) (T : TypeId) (x y : Operand) (k : List Loc → TEff X.U → Option R) : Option R :=
  match X.sty T with
  | false => none
  | true => match evO s x with
    | .v (.string b) => match evO s y with
      | .v (.int _ i) => (getB b i).bind fun n => k (locO x ++ locO y) ⟨.v (.int .u8 n), []⟩
      | _ => none
    | _ => none
theorem evIndex_ok (hX : CxOk P X) {T : TypeId} {x y : Operand} (h : evIndex X s T x y k = some r) (hM : M s σ) (ho : o.op = .index T x y) : ∃ L e, k L e = some r ∧ Fit P s o σ L e := by
  unfold evIndex at h
  split at h <;> try (cases h; done)
  rename_i hT
  split at h <;> try (cases h; done)
  rename_i b hx
  split at h <;> try (cases h; done)
  rename_i kk i hy
  obtain ⟨n, hn, h⟩ := Option.bind_eq_some_iff.1 h
  unfold getB at hn
  split at hn <;> try (cases hn; done)
  rename_i h0
  obtain ⟨c, hc, rfl⟩ := Option.map_eq_some_iff.1 hn
  exact ⟨_, _, h, .pure (w_index_str (hX.str T hT) ho (hM.ev hx (by simp)) (hM.ev hy (by simp)) h0 hc rfl) rfl⟩
/-! ### How many -/
theorem w_len_own {tt : Nat → Option TI} {s : St} (ht : Tab P tt) {x : Operand} {T e : TypeId} (ho : o.op = .call { callee := .builtin .len, args := #[x], argTypes := #[T] }) {t : TI} (h1 : tt T = some t) (h2 : t.elem = some e) {id lo len : Nat} (hx : s.ev x = .own id lo len) :
    Step P o (locO x) ⟨o.dst, .v (.int .i64 (len : Int)), []⟩ s :=
  step_value fun g σ f a w hA hR => by
    have e1 := hR.ev x
    rw [ev_agree hA, hx] at e1
    refine ⟨_, ?_, .v _⟩
    rw [execOp_builtin ho]
    generalize hX : a.eval x = X at e1
    cases e1 with
    | own hb hl hH hc => simp [builtin, Builtin.len_, hX, run_underlying ((ht T t h1).sl h2), goInt]
def evLen (X : Cx) (s : TS X.U) (T : TypeId) (x : Operand) (k : List Loc → TEff X.U → Option R) : Option R :=
  match evO s x with
  | .v (.string b) => match X.sty T with
    | true => k (locO x) ⟨.v (.int .i64 (b.size : Int)), []⟩
    | false => none
  | tv => match X.tt T with
    | none => none
    | some t => match t.elem with
      | none => none
      | some e => match tv with
        | .own id lo len => k (locO x) ⟨.v (.int .i64 (len : Int)), []⟩
        | .full id => match nth s.objs id with
          | some (.row c xs _) => k (locO x) ⟨.v (.int .i64 (xs.length : Int)), []⟩
          | _ => none
        | .lst c xs => k (locO x ++ []) ⟨.v (.int .i64 (xs.length : Int)), []⟩
        | .v (.slice none 0 0) => k (locO x ++ []) ⟨.v (.int .i64 0), []⟩
        | _ => none
theorem evLen_ok (hX : CxOk P X) {T : TypeId} {x : Operand} (h : evLen X s T x k = some r) (hM : M s σ) (ho : o.op = .call { callee := .builtin .len, args := #[x], argTypes := #[T] }) : ∃ L e, k L e = some r ∧ Fit P s o σ L e := by
  unfold evLen at h
  split at h
  · rename_i b hx
    split at h <;> try (cases h; done)
    rename_i hT
    exact ⟨_, _, h, .pure (w_len_str (hX.str T hT) ho (hM.ev hx (by simp)) rfl) rfl⟩
  · split at h <;> try (cases h; done)
    rename_i t ht
    split at h <;> try (cases h; done)
    rename_i e he
    split at h <;> try (cases h; done)
    · rename_i hx
      exact ⟨_, _, h, .pure (w_len_own hX.tab ho ht he (hM.ev hx (by simp))) rfl⟩
    · rename_i id hx
      split at h <;> try (cases h; done)
      rename_i c xs fz hob
      have hrl : rlen s.objs id = xs.length := by unfold rlen; rw [hob]; rfl
      have := w_len_own (P := P) hX.tab ho ht he (hM.ev hx (by simp))
      rw [hrl] at this
      exact ⟨_, _, h, .pure this rfl⟩
    · rename_i c xs hx
      exact ⟨_, _, h, .pure (w_len hX.tab ho ht he (by rw [hM.ev hx (by simp)]; exact .lst) (by rw [List.length_map])) rfl⟩
    · rename_i hx
      exact ⟨_, _, h, .pure (w_len hX.tab ho ht he (by rw [hM.ev hx (by simp)]; exact .nil (m := 0)) rfl) rfl⟩
def evMM (X : Cx) (s : TS X.U) (mx : Bool) (x y : Operand) (k : List Loc → TEff X.U → Option R) : Option R :=
  match evO s x, evO s y with
  | .v (.int i a), .v (.int j b) => if i = j then k (locO x ++ locO y) ⟨.v (.int i (match mx with | true => if a < b then b else a | false => if b < a then b else a)), []⟩ else none
  | _, _ => none
theorem evMax_ok {x y : Operand} {ts : Array TypeId} (h : evMM X s true x y k = some r) (hM : M s σ) (ho : o.op = .call { callee := .builtin .max, args := #[x, y], argTypes := ts }) : ∃ L e, k L e = some r ∧ Fit P s o σ L e := by
  unfold evMM at h
  split at h <;> try (cases h; done)
  rename_i i a j b hx hy
  split at h <;> try (cases h; done)
  rename_i hij
  subst hij
  exact ⟨_, _, h, .pure (w_max ho (hM.ev hx (by simp)) (hM.ev hy (by simp)) rfl) rfl⟩
theorem evMin_ok {x y : Operand} {ts : Array TypeId} (h : evMM X s false x y k = some r) (hM : M s σ) (ho : o.op = .call { callee := .builtin .min, args := #[x, y], argTypes := ts }) : ∃ L e, k L e = some r ∧ Fit P s o σ L e := by
  unfold evMM at h
  split at h <;> try (cases h; done)
  rename_i i a j b hx hy
  split at h <;> try (cases h; done)
  rename_i hij
  subst hij
  exact ⟨_, _, h, .pure (w_min ho (hM.ev hx (by simp)) (hM.ev hy (by simp)) rfl) rfl⟩
/-! ### Structs, and new variables -/
def svT {U : Univ} : SV → TV U
  | .v x => .v x
  | _ => .junk
def SV.isV : SV → Bool
  | .v _ => true
  | _ => false
def tz {U : Univ} (t : TI) : List (TV U) := t.zero.map svT
theorem tz_ok {U : Univ} {t : TI} (h : t.zero.all SV.isV = true) (rl : Nat → Nat) : itpL (U := U) rl (tz t) = t.zero := by
  unfold tz
  rw [itpL_eq, List.map_map]
  refine (List.map_congr_left fun x hx => ?_).trans (List.map_id _)
  have := List.all_eq_true.1 h x hx
  cases x <;> first | (cases this; done) | rfl
theorem tz_bel {U : Univ} {t : TI} (n : Nat) : belL (U := U) n (tz t) = true := by
  rw [belL_all]
  unfold tz
  rw [List.all_map]
  refine List.all_eq_true.2 fun x hx => ?_
  cases x <;> rfl
/-- A new object. -/
theorem Fit.new {L : List Loc} {x : TO X.U} {tv : TV X.U} (hst : ∀ rl, (∀ i, i < s.objs.length → rl i = rlen s.objs i) → rl s.objs.length = x.rlen → Step P o L ⟨o.dst, tv.itp rl, [(s.objs.length, x.itp rl)]⟩ σ) (hb : tv.bel (s.objs.length + 1) = true) (hx : x.bel (s.objs.length + 1) = true) : Fit P s o σ L ⟨tv, [(s.objs.length, x)]⟩ := by
  have hl : (updO s.objs [(s.objs.length, x)]).length = s.objs.length + 1 := by
    show (setO s.objs s.objs.length x).length = _
    rw [length_setO, if_neg (by omega)]
  have hok : ObsOk s.objs [(s.objs.length, x)] := ⟨.inr rfl, trivial⟩
  refine ⟨hst _ (updO_rlen _ _ hok) ?_, hok, by rw [hl]; exact hb, ?_⟩
  · show rlen (setO s.objs s.objs.length x) s.objs.length = _
    unfold rlen
    rw [nth_setO _ _ _ _ (Nat.le_refl _), if_pos rfl]
  · show (x.bel (updO s.objs [(s.objs.length, x)]).length && true) = true
    rw [hl, hx]
    rfl
theorem M.new {σ : St} (hM : M s σ) : σ.obj s.objs.length = .never := hM.fresh _ (Nat.le_refl _)
def evAlloc (X : Cx) (s : TS X.U) (T : TypeId) (k : List Loc → TEff X.U → Option R) : Option R :=
  match X.tt T with
  | none => none
  | some t => match t.zero.all SV.isV with
    | false => none
    | true => if t.zero.length = t.size then k [.obj s.objs.length] ⟨.ref s.objs.length 0 0, [(s.objs.length, .cells (tz t) false)]⟩ else none
theorem evAlloc_ok (hX : CxOk P X) {T : TypeId} (h : evAlloc X s T k = some r) (hM : M s σ) (ho : o.op = .alloc T) : ∃ L e, k L e = some r ∧ Fit P s o σ L e := by
  unfold evAlloc at h
  split at h <;> try (cases h; done)
  rename_i t ht
  split at h <;> try (cases h; done)
  rename_i hz
  split at h <;> try (cases h; done)
  rename_i hl
  refine ⟨_, _, h, .new (fun rl _ _ => ?_) (by show decide _ = true; simp) (tz_bel _)⟩
  have := w_alloc (P := P) hX.tab ho ht s.objs.length hM.new
  show Step P o _ ⟨_, _, [(_, .ob ⟨(tz t).length, [itpL rl (tz t)], false⟩)]⟩ σ
  rw [tz_ok hz]
  have e : (tz (U := X.U) t).length = t.size := by unfold tz; rw [List.length_map]; exact hl
  rw [e]
  exact this
theorem M.evc {σ : St} (hM : M s σ) {y : Operand} {cs : List (TV X.U)} (h : tcells (evO s y) = some cs) (rl : Nat → Nat) (hrl : ∀ i, i < s.objs.length → rl i = rlen s.objs i) : (σ.ev y).cells = itpL rl cs ∧ belL s.objs.length cs = true := by
  obtain ⟨q1, q2, q3⟩ := tcells_ok h (rlen s.objs) (hM.evb (x := y) rfl)
  refine ⟨?_, q2⟩
  rw [hM.ev (x := y) rfl q3, q1]
  exact itpL_congr (fun i hi => (hrl i hi).symm) q2
def evBox (X : Cx) (s : TS X.U) (x : Operand) (k : List Loc → TEff X.U → Option R) : Option R :=
  match tcells (evO s x) with
  | none => none
  | some cs => k (locO x ++ [.obj s.objs.length]) ⟨.ref s.objs.length 0 0, [(s.objs.length, .cells cs false)]⟩
theorem evBox_ok {T : TypeId} {x : Operand} (h : evBox X s x k = some r) (hM : M s σ) (ho : o.op = .box T x) : ∃ L e, k L e = some r ∧ Fit P s o σ L e := by
  unfold evBox at h
  split at h <;> try (cases h; done)
  rename_i cs hcs
  refine ⟨_, _, h, .new (fun rl hrl _ => ?_) (by show decide _ = true; simp) (belL_mono (Nat.le_succ _) (hM.evc hcs (rlen s.objs) fun _ _ => rfl).2)⟩
  exact w_box ho s.objs.length hM.new (hM.evc hcs rl hrl).1 (itpL_len _ _)
def afillT {α : Type} (places : List (Nat × Nat)) (cells : List α) : List (Nat × List α) → Option (List α)
  | [] => some cells
  | (i, cs) :: rest => match nth places i with
    | none => none
    | some (off, size) => if cs.length = size ∧ off + cs.length ≤ cells.length then afillT places (owrT cells off cs) rest else none
theorem afillT_ok {U : Univ} (rl : Nat → Nat) (places : List (Nat × Nat)) : ∀ (ps : List (Nat × List (TV U))) (cells out : List (TV U)), afillT places cells ps = some out →
    afill places (itpL rl cells) (ps.map fun p => (p.1, itpL rl p.2)) = some (itpL rl out)
  | [], cells, out, h => by cases h; rfl
  | (i, cs) :: ps, cells, out, h => by
    unfold afillT at h
    rw [nth_eq] at h
    show afill places (itpL rl cells) ((i, itpL rl cs) :: ps.map fun p => (p.1, itpL rl p.2)) = _
    unfold afill
    cases hq : places[i]? with
    | none => rw [hq] at h; cases h
    | some p =>
      obtain ⟨off, size⟩ := p
      rw [hq] at h
      dsimp only at h ⊢
      split at h <;> try (cases h; done)
      rename_i hc
      rw [if_pos (by rw [itpL_len, itpL_len]; exact hc)]
      have := afillT_ok rl places ps _ out h
      rw [itpL_owr] at this
      exact this
def evPartsT {U : Univ} (s : TS U) : List (Nat × Operand) → Option (List (Nat × List (TV U)))
  | [] => some []
  | (i, x) :: l => match tcells (evO s x), evPartsT s l with
    | some cs, some r => some ((i, cs) :: r)
    | _, _ => none
theorem evPartsT_ok {σ : St} (hM : M s σ) : ∀ {l : List (Nat × Operand)} {ps : List (Nat × List (TV X.U))}, evPartsT s l = some ps → (l.map fun p => (p.1, (σ.ev p.2).cells)) = (ps.map fun p => (p.1, itpL (rlen s.objs) p.2)) ∧ ∀ p ∈ ps, belL s.objs.length p.2 = true
  | [], ps, h => by cases h; exact ⟨rfl, fun p hp => by cases hp⟩
  | (i, x) :: l, ps, h => by
    unfold evPartsT at h
    split at h <;> try (cases h; done)
    rename_i cs r' hcs hr
    cases h
    obtain ⟨h1, h2⟩ := evPartsT_ok hM hr
    obtain ⟨k1, k2⟩ := hM.evc hcs (rlen s.objs) fun _ _ => rfl
    refine ⟨by rw [List.map_cons, List.map_cons, h1, k1], fun p hp => ?_⟩
    rcases List.mem_cons.1 hp with rfl | hp
    · exact k2
    · exact h2 p hp
theorem afillT_bel {U : Univ} {n : Nat} (places : List (Nat × Nat)) : ∀ (ps : List (Nat × List (TV U))) (cells out : List (TV U)), afillT places cells ps = some out → belL n cells = true → (∀ p ∈ ps, belL n p.2 = true) → belL n out = true
  | [], cells, out, h, hc, _ => by cases h; exact hc
  | (i, cs) :: ps, cells, out, h, hc, hp => by
    unfold afillT at h
    split at h <;> try (cases h; done)
    split at h <;> try (cases h; done)
    exact afillT_bel places ps _ out h (by rw [owrT_eq]; exact belL_owr hc (hp _ List.mem_cons_self) _) fun p hm => hp p (List.mem_cons_of_mem _ hm)
def evBuild (X : Cx) (s : TS X.U) (T : TypeId) (parts : List (Nat × Operand)) (k : List Loc → TEff X.U → Option R) : Option R :=
  match X.tt T with
  | none => none
  | some t => match t.zero.all SV.isV with
    | false => none
    | true => match t.flds with
      | [] => none
      | _ :: _ => match places X.tt t with
        | none => none
        | some pl => match evPartsT s parts with
          | none => none
          | some ps => match afillT pl (tz t) ps with
            | none => none
            | some out => k (locs (parts.map (·.2))) ⟨.agg out, []⟩
theorem evBuild_ok (hX : CxOk P X) {T : TypeId} {parts : Array (Nat × Operand)} (h : evBuild X s T parts.toList k = some r) (hM : M s σ) (ho : o.op = .build T parts) : ∃ L e, k L e = some r ∧ Fit P s o σ L e := by
  unfold evBuild at h
  split at h <;> try (cases h; done)
  rename_i t ht
  split at h <;> try (cases h; done)
  rename_i hz
  split at h <;> try (cases h; done)
  rename_i f fs hf
  split at h <;> try (cases h; done)
  rename_i pl hpl
  split at h <;> try (cases h; done)
  rename_i ps hps
  split at h <;> try (cases h; done)
  rename_i out hout
  obtain ⟨h1, h2⟩ := evPartsT_ok hM hps
  have ha := afillT_ok (rlen s.objs) pl ps _ out hout
  rw [tz_ok hz] at ha
  refine ⟨_, _, h, .pure (w_build hX.tab ho ht (by rw [hf]; simp) hpl ?_) (afillT_bel pl ps _ out hout (tz_bel _) h2)⟩
  show afill pl t.zero (parts.toList.map fun p => (p.1, (σ.ev p.2).cells)) = _
  rw [h1]
  exact ha
end
end Go.Proofs.YtcbbpidnocgoiaaDoor.Eng

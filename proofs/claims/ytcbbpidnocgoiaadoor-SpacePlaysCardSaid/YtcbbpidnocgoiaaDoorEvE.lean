/- Appends, and calls. -/
import Derived.Test.YtcbbpidnocgoiaaDoorEvD
namespace Go.Proofs.YtcbbpidnocgoiaaDoor.Eng
open Go Go.RowKit
set_option linter.unusedVariables false
set_option linter.unusedSimpArgs false
section
variable {U : Univ}
def castL (c c' : U.C) (ys : List (U.T c)) : Option (List (U.T c')) := match U.deq c c' with
  | .isTrue h => some (h ▸ ys)
  | .isFalse _ => none
theorem castL_ok {c c' : U.C} {ys : List (U.T c)} {zs : List (U.T c')} (h : castL c c' ys = some zs) : U.sz c' = U.sz c ∧ zs.map (U.encS c') = ys.map (U.encS c) := by
  unfold castL at h
  split at h
  · rename_i e _
    subst e
    cases h
    exact ⟨rfl, rfl⟩
  · cases h
def rowsOf (s : TS U) (c : U.C) : TV U → Option (List (U.T c) × List Loc)
  | .lst c' ys => match castL c' c ys with
    | some zs => some (zs, [])
    | none => none
  | .full id => match nth s.objs id with
    | some (.row c' ys _) => match castL c' c ys with
      | some zs => some (zs, [.obj id])
      | none => none
    | _ => none
  | .v (.slice none 0 0) => some ([], [])
  | _ => none
theorem rowsOf_ok {s : TS U} {σ : St} (hM : M s σ) {c : U.C} {y : Operand} {zs : List (U.T c)} {L : List Loc} (h : rowsOf s c (evO s y) = some (zs, L)) : LstOf σ (σ.ev y) (U.sz c) (zs.map (U.encS c)) L := by
  unfold rowsOf at h
  split at h <;> try (cases h; done)
  · rename_i c' ys hy
    split at h <;> try (cases h; done)
    rename_i zs' hz
    cases h
    obtain ⟨h1, h2⟩ := castL_ok hz
    rw [hM.ev hy (by simp), h1, h2]
    exact .lst
  · rename_i id hy
    split at h <;> try (cases h; done)
    rename_i c' ys fz hob
    split at h <;> try (cases h; done)
    rename_i zs' hz
    cases h
    obtain ⟨h1, h2⟩ := castL_ok hz
    have hrl0 : rlen s.objs id = ys.length := by unfold rlen; rw [hob]; rfl
    have ho := hM.ob id _ hob
    have := LstOf.own (s := σ) (id := id) (lo := 0) (len := rlen s.objs id) ho (rows := ys.map (U.encS c')) (by rw [hrl0, List.drop_zero, List.take_of_length_le (by rw [List.length_map]; exact Nat.le_refl _)]) (by rw [hrl0, List.length_map])
    rw [hM.ev hy (by simp), h1, h2]
    exact this
  · rename_i hy
    cases h
    rw [hM.ev hy (by simp)]
    exact .nil
end
section
variable {P : Program} {X : Cx} {s : TS X.U} {o : Oper} {σ : St} {R : Type} {r : R} {k : List Loc → TEff X.U → Option R}
theorem encs_one (hX : CxOk P X) {c : X.U.C} (xs : List (X.U.T c)) : ((xs.map (X.U.encS c)).all fun r => r.all SV.one) = true := by
  rw [List.all_map]
  exact List.all_eq_true.2 fun x _ => hX.one c x
def evAppend (X : Cx) (s : TS X.U) (T Ty : TypeId) (x y : Operand) (k : List Loc → TEff X.U → Option R) : Option R :=
  match X.tt T, X.tt Ty with
  | some t, some t2 => match t.elem, t2.elem with
    | some e, some _ => match X.tt e with
      | none => none
      | some u => match Nat.beq u.bytes 0 with
        | true => none
        | false => match evO s x with
          | .full id => match nth s.objs id with
            | some (.row c xs false) => match rowsOf s c (evO s y) with
              | some (ys, L) => if u.size = X.U.sz c then (if (xs.length + ys.length) * u.bytes ≤ 140737488355328 then k (locO x ++ locO y ++ L ++ [.obj id] ++ [.obj s.objs.length]) ⟨.full s.objs.length, [(id, .dead xs.length), (s.objs.length, .row c (xs ++ ys) false)]⟩ else none) else none
              | none => none
            | _ => none
          | .v (.slice none 0 0) => match X.elc e with
            | none => none
            | some c => match rowsOf s c (evO s y) with
              | some (ys, L) => if u.size = X.U.sz c then cond ys.isEmpty (k (locO x ++ locO y ++ L) ⟨.v (.slice none 0 0), []⟩)
                  (if ys.length * u.bytes ≤ 140737488355328 then k (locO x ++ locO y ++ L ++ [.obj s.objs.length]) ⟨.full s.objs.length, [(s.objs.length, .row c ys false)]⟩ else none) else none
              | none => none
          | _ => none
    | _, _ => none
  | _, _ => none
theorem evAppend_ok (hX : CxOk P X) {T Ty : TypeId} {x y : Operand} (h : evAppend X s T Ty x y k = some r) (hM : M s σ) (ho : o.op = .call { callee := .builtin .append, args := #[x, y], argTypes := #[T, Ty] }) : ∃ L e, k L e = some r ∧ Fit P s o σ L e := by
  unfold evAppend at h
  split at h <;> try (cases h; done)
  rename_i t t2 ht ht2
  split at h <;> try (cases h; done)
  rename_i e e2 he he2
  split at h <;> try (cases h; done)
  rename_i u hu
  split at h <;> try (cases h; done)
  rename_i hq
  have hq0 : u.bytes ≠ 0 := fun e => by rw [e] at hq; cases hq
  split at h <;> try (cases h; done)
  · rename_i id hx
    split at h <;> try (cases h; done)
    rename_i c xs hob
    split at h <;> try (cases h; done)
    rename_i ys L hys
    split at h <;> try (cases h; done)
    rename_i hsz
    split at h <;> try (cases h; done)
    rename_i hlim
    have hy := rowsOf_ok hM hys
    have hp := hX.pos c
    have hrl0 : rlen s.objs id = xs.length := by unfold rlen; rw [hob]; rfl
    have ex := hM.ev hx (by simp)
    have hb : xs.length + ys.length ≤ (xs.length + ys.length) * u.bytes := Nat.le_mul_of_pos_right _ (by omega)
    refine ⟨_, _, h, .swap hob rfl (fun rl _ hrl => ?_) (by show decide _ = true; simp) rfl⟩
    have := w_append (P := P) hX.tab ho ht he hu ht2 he2 s.objs.length hsz (by omega) ex (hM.obj_row hob) rfl (rx := xs.map (X.U.encS c)) (by rw [hrl0, List.drop_zero, List.take_of_length_le (by rw [List.length_map]; exact Nat.le_refl _)]) (by rw [hrl0, List.length_map]) hy (encs_one hX ys) (encs_one hX xs) hM.new (by rw [hrl0, List.length_map]; exact hlim) (by rw [hrl0, List.length_map]; omega) rfl rfl
    show Step P o _ ⟨_, .own s.objs.length 0 (rl s.objs.length), [_, (_, .ob ⟨X.U.sz c, (xs ++ ys).map (X.U.encS c), false⟩)]⟩ σ
    rw [hrl, List.map_append]
    show Step P o _ ⟨_, .own s.objs.length 0 (xs ++ ys).length, _⟩ σ
    rw [List.length_append]
    rw [hrl0, List.length_map] at this
    exact this
  · rename_i hx
    split at h <;> try (cases h; done)
    rename_i c hc
    split at h <;> try (cases h; done)
    rename_i ys L hys
    split at h <;> try (cases h; done)
    rename_i hsz
    have hy := rowsOf_ok hM hys
    have hp := hX.pos c
    have ex := hM.ev hx (by simp)
    cases ys with
    | nil =>
      simp only [List.isEmpty_nil, cond_true] at h
      rw [← hsz] at hy
      exact ⟨_, _, h, .pure (w_append_none hX.tab ho ht he hu ht2 he2 (by omega) ex hy) rfl⟩
    | cons z zs =>
      simp only [List.isEmpty_cons, cond_false] at h
      split at h <;> try (cases h; done)
      rename_i hlim
      have hb : (z :: zs).length ≤ (z :: zs).length * u.bytes := Nat.le_mul_of_pos_right _ (by omega)
      refine ⟨_, _, h, .new (fun rl _ hrl => ?_) (by show decide _ = true; simp) rfl⟩
      rw [← hsz] at hy
      have := w_append_nil (P := P) hX.tab ho ht he hu ht2 he2 s.objs.length (by omega) ex hy (encs_one hX _) (by simp) hM.new (by rw [List.length_map]; exact hlim) (by rw [List.length_map]; omega) rfl
      show Step P o _ ⟨_, .own s.objs.length 0 (rl s.objs.length), [(_, .ob ⟨X.U.sz c, (z :: zs).map (X.U.encS c), false⟩)]⟩ σ
      rw [hrl, ← hsz]
      show Step P o _ ⟨_, .own s.objs.length 0 (z :: zs).length, _⟩ σ
      rw [List.length_map] at this
      exact this
end
/-! ### Under other names -/
section
variable {U : Univ}
mutual
def TV.ren (ρ : Nat → Nat) : TV U → TV U
  | .v x => .v x
  | .ref id i j => .ref (ρ id) i j
  | .own id lo len => .own (ρ id) lo len
  | .full id => .full (ρ id)
  | .lst c xs => .lst c xs
  | .agg l => .agg (tenL ρ l)
  | .tup l => .tup (tenL ρ l)
  | .elt c x j => .elt c x j
  | .junk => .junk
def tenL (ρ : Nat → Nat) : List (TV U) → List (TV U)
  | [] => []
  | x :: l => x.ren ρ :: tenL ρ l
end
def TO.ren (ρ : Nat → Nat) : TO U → TO U
  | .dead n => .dead n
  | .cells l fz => .cells (tenL ρ l) fz
  | .row c xs fz => .row c xs fz
def TO.all (p : Nat → Bool) : TO U → Bool
  | .cells l _ => allL p l
  | _ => true
theorem TO.bel_all (n : Nat) (x : TO U) : x.bel n = x.all fun i => decide (i < n) := by cases x <;> rfl
mutual
theorem ren_ren {ρ τ : Nat → Nat} {p : Nat → Bool} (h : ∀ i, p i = true → τ (ρ i) = i) : ∀ {x : TV U}, x.all p = true → (x.ren ρ).ren τ = x
  | .v _, _ => rfl
  | .ref id _ _, hx => by show TV.ref (τ (ρ id)) _ _ = _; rw [h id hx]
  | .own id _ _, hx => by show TV.own (τ (ρ id)) _ _ = _; rw [h id hx]
  | .full id, hx => by show TV.full (τ (ρ id)) = _; rw [h id hx]
  | .lst .., _ => rfl
  | .agg l, hx => congrArg TV.agg (tenL_tenL h (l := l) hx)
  | .tup l, hx => congrArg TV.tup (tenL_tenL h (l := l) hx)
  | .elt .., _ => rfl
  | .junk, _ => rfl
theorem tenL_tenL {ρ τ : Nat → Nat} {p : Nat → Bool} (h : ∀ i, p i = true → τ (ρ i) = i) : ∀ {l : List (TV U)}, allL p l = true → tenL τ (tenL ρ l) = l
  | [], _ => rfl
  | x :: l, hx => by
    have hx : (x.all p && allL p l) = true := hx
    rw [Bool.and_eq_true] at hx
    show (x.ren ρ).ren τ :: tenL τ (tenL ρ l) = _
    rw [ren_ren h hx.1, tenL_tenL h hx.2]
end
theorem TO.ren_ren {ρ τ : Nat → Nat} {p : Nat → Bool} (h : ∀ i, p i = true → τ (ρ i) = i) : ∀ {x : TO U}, x.all p = true → (x.ren ρ).ren τ = x
  | .dead _, _ => rfl
  | .cells l fz, hx => congrArg (fun l => TO.cells l fz) (tenL_tenL h (l := l) hx)
  | .row .., _ => rfl
mutual
theorem ren_all {ρ : Nat → Nat} {p q : Nat → Bool} (h : ∀ i, p i = true → q (ρ i) = true) : ∀ {x : TV U}, x.all p = true → (x.ren ρ).all q = true
  | .v _, _ => rfl
  | .ref id _ _, hx => h id hx
  | .own id _ _, hx => h id hx
  | .full id, hx => h id hx
  | .lst .., _ => rfl
  | .agg l, hx => tenL_all h (l := l) hx
  | .tup l, hx => tenL_all h (l := l) hx
  | .elt .., _ => rfl
  | .junk, _ => rfl
theorem tenL_all {ρ : Nat → Nat} {p q : Nat → Bool} (h : ∀ i, p i = true → q (ρ i) = true) : ∀ {l : List (TV U)}, allL p l = true → allL q (tenL ρ l) = true
  | [], _ => rfl
  | x :: l, hx => by
    have hx : (x.all p && allL p l) = true := hx
    rw [Bool.and_eq_true] at hx
    show ((x.ren ρ).all q && allL q (tenL ρ l)) = true
    rw [ren_all h hx.1, tenL_all h hx.2]
    rfl
end
theorem TO.ren_all {ρ : Nat → Nat} {p q : Nat → Bool} (h : ∀ i, p i = true → q (ρ i) = true) : ∀ {x : TO U}, x.all p = true → (x.ren ρ).all q = true
  | .dead _, _ => rfl
  | .cells l fz, hx => tenL_all h (l := l) hx
  | .row .., _ => rfl
theorem tenL_eq (ρ : Nat → Nat) : ∀ l : List (TV U), tenL ρ l = l.map (TV.ren ρ)
  | [] => rfl
  | x :: l => by rw [tenL, tenL_eq ρ l]; rfl
/-- What is told has no names in it. -/
def Clsd (U : Univ) : Prop := ∀ c x, closedL (U.encS c x) = true
theorem Clsd.rows (hc : Clsd U) (c : U.C) (xs : List (U.T c)) : closedR (xs.map (U.encS c)) = true := closedR_map _ (hc c) xs
mutual
theorem itp_ren (hc : Clsd U) {ρ : Nat → Nat} {p : Nat → Bool} {rl rl' : Nat → Nat} (h : ∀ i, p i = true → rl' (ρ i) = rl i) : ∀ {x : TV U}, x.all p = true → (x.itp rl).ren ρ = (x.ren ρ).itp rl'
  | .v _, _ => rfl
  | .ref .., _ => rfl
  | .own .., _ => rfl
  | .full id, hx => by show SV.own (ρ id) 0 (rl id) = SV.own (ρ id) 0 (rl' (ρ id)); rw [h id hx]
  | .lst c xs, _ => SV.closed_ren (s := .lst (U.sz c) (xs.map (U.encS c))) ρ (hc.rows c xs)
  | .agg l, hx => congrArg SV.agg (itpL_ren hc h (l := l) hx)
  | .tup l, hx => congrArg SV.tup (itpL_ren hc h (l := l) hx)
  | .elt c x j, _ => SV.closed_ren (s := .elt (U.encS c x) j) ρ (hc c x)
  | .junk, _ => rfl
theorem itpL_ren (hc : Clsd U) {ρ : Nat → Nat} {p : Nat → Bool} {rl rl' : Nat → Nat} (h : ∀ i, p i = true → rl' (ρ i) = rl i) : ∀ {l : List (TV U)}, allL p l = true → renL ρ (itpL rl l) = itpL rl' (tenL ρ l)
  | [], _ => rfl
  | x :: l, hx => by
    have hx : (x.all p && allL p l) = true := hx
    rw [Bool.and_eq_true] at hx
    show (x.itp rl).ren ρ :: renL ρ (itpL rl l) = (x.ren ρ).itp rl' :: itpL rl' (tenL ρ l)
    rw [itp_ren hc h hx.1, itpL_ren hc h hx.2]
end
theorem TO.itp_ren (hc : Clsd U) {ρ : Nat → Nat} {p : Nat → Bool} {rl rl' : Nat → Nat} (h : ∀ i, p i = true → rl' (ρ i) = rl i) : ∀ {x : TO U}, x.all p = true → (x.itp rl).ren ρ = (x.ren ρ).itp rl'
  | .dead _, _ => rfl
  | .cells l fz, hx => by
    show OS.ob ⟨l.length, [renL ρ (itpL rl l)], fz⟩ = OS.ob ⟨(tenL ρ l).length, [itpL rl' (tenL ρ l)], fz⟩
    rw [itpL_ren hc h hx, tenL_eq, List.length_map]
  | .row c xs fz, _ => by
    show OS.ob ⟨_, renR ρ (xs.map (U.encS c)), fz⟩ = OS.ob ⟨_, xs.map (U.encS c), fz⟩
    rw [closedR_ren ρ (hc.rows c xs)]
mutual
theorem itp_lt (hc : Clsd U) {n : Nat} {rl : Nat → Nat} : ∀ {x : TV U}, x.bel n = true → (x.itp rl).lt n = true
  | .v _, _ => rfl
  | .ref .., hx => hx
  | .own .., hx => hx
  | .full id, hx => hx
  | .lst c xs, _ => SV.closed_lt (s := .lst (U.sz c) (xs.map (U.encS c))) n (hc.rows c xs)
  | .agg l, hx => itpL_lt hc (l := l) hx
  | .tup l, hx => itpL_lt hc (l := l) hx
  | .elt c x j, _ => SV.closed_lt (s := .elt (U.encS c x) j) n (hc c x)
  | .junk, _ => rfl
theorem itpL_lt (hc : Clsd U) {n : Nat} {rl : Nat → Nat} : ∀ {l : List (TV U)}, belL n l = true → ltL n (itpL rl l) = true
  | [], _ => rfl
  | x :: l, hx => by
    have hx : (x.bel n && belL n l) = true := hx
    rw [Bool.and_eq_true] at hx
    show ((x.itp rl).lt n && ltL n (itpL rl l)) = true
    rw [itp_lt hc hx.1, itpL_lt hc hx.2]
    rfl
end
theorem TO.ren_rlen (ρ : Nat → Nat) (x : TO U) : (x.ren ρ).rlen = x.rlen := by cases x <;> rfl
/-! ### What a call takes and leaves -/
def TO.ob (rl : Nat → Nat) : TO U → Ob
  | .dead _ => ⟨0, [], false⟩
  | .cells l fz => ⟨l.length, [itpL rl l], fz⟩
  | .row c xs fz => ⟨U.sz c, xs.map (U.encS c), fz⟩
def TO.alive : TO U → Bool
  | .dead _ => false
  | _ => true
theorem TO.itp_ob {rl : Nat → Nat} {x : TO U} (h : x.alive = true) : x.itp rl = .ob (x.ob rl) := by cases x <;> first | rfl | cases h
structure Spc (U : Univ) where
  F : {R : Type} → List (TO U) → List (TV U) → (List (TO U) → TV U → Option R) → Option R
def PathF {U : Univ} (F : {R : Type} → (List (TO U) → TV U → Option R) → Option R) : Prop := ∀ {R : Type} (k : List (TO U) → TV U → Option R) (r : R), F k = some r → ∃ o v, k o v = some r ∧ ∀ {R' : Type} (k' : List (TO U) → TV U → Option R'), F k' = k' o v
structure SpecOk (P : Program) (fid : FuncId) (S : Spc U) : Prop where
  fn : ∃ fn, P.funcs[fid]? = some fn ∧ (fn.name == "runtime.NumGoroutine") = false ∧ fn.body.isSome = true
  path : ∀ objs args, PathF fun k => S.F objs args k
  ok : ∀ (objs : List (TO U)) (args : List (TV U)) (objs' : List (TO U)) (res : TV U), S.F objs args (fun o v => some (o, v)) = some (objs', res) → belL objs.length args = true → (objs.all fun x => x.bel objs.length) = true → objs.all TO.alive = true →
    HCall P fid (objs.map (TO.ob (rlen objs))) (itpL (rlen objs) args) (objs'.map (TO.itp (rlen objs'))) (res.itp (rlen objs')) ∧ objs.length ≤ objs'.length ∧ (∀ i, i < objs.length → rlen objs' i = rlen objs i) ∧ res.bel objs'.length = true ∧
      (objs'.all fun x => x.bel objs'.length) = true
mutual
def TV.ids : TV U → List Nat
  | .ref id _ _ => [id]
  | .own id _ _ => [id]
  | .full id => [id]
  | .agg l => idsL l
  | .tup l => idsL l
  | _ => []
def idsL : List (TV U) → List Nat
  | [] => []
  | x :: l => x.ids ++ idsL l
end
def TO.ids : TO U → List Nat
  | .cells l _ => idsL l
  | _ => []
def memN (n : Nat) : List Nat → Bool
  | [] => false
  | x :: l => Nat.beq x n || memN n l
/-- The objects that one comes to from some. -/
def reach (objs : List (TO U)) : Nat → List Nat → List Nat → List Nat
  | 0, _, acc => acc
  | _ + 1, [], acc => acc
  | f + 1, i :: todo, acc => match memN i acc with
    | true => reach objs f todo acc
    | false => match nth objs i with
      | some x => reach objs f (x.ids ++ todo) (acc ++ [i])
      | none => reach objs f todo acc
def idxN (n : Nat) : List Nat → Nat
  | [] => 0
  | x :: l => match Nat.beq x n with
    | true => 0
    | false => idxN n l + 1
def nodupN : List Nat → Bool
  | [] => true
  | x :: l => !memN x l && nodupN l
def objsAt (objs : List (TO U)) : List Nat → Option (List (TO U))
  | [] => some []
  | i :: l => match nth objs i, objsAt objs l with
    | some x, some r => some (x :: r)
    | _, _ => none
theorem memN_iff {n : Nat} : ∀ {l : List Nat}, memN n l = true ↔ n ∈ l
  | [] => by simp [memN]
  | x :: l => by
    rw [memN, Bool.or_eq_true, memN_iff, List.mem_cons, Nat.beq_eq]
    exact ⟨fun h => h.imp Eq.symm id, fun h => h.imp Eq.symm id⟩
theorem nodupN_ok : ∀ {l : List Nat}, nodupN l = true → l.Nodup
  | [], _ => .nil
  | x :: l, h => by
    have h : (!memN x l && nodupN l) = true := h
    rw [Bool.and_eq_true] at h
    refine List.nodup_cons.2 ⟨fun hm => ?_, nodupN_ok h.2⟩
    rw [memN_iff.2 hm] at h
    cases h.1
theorem idxN_get : ∀ {l : List Nat} {n : Nat}, n ∈ l → l[idxN n l]? = some n ∧ idxN n l < l.length
  | x :: l, n, h => by
    unfold idxN
    split
    · rename_i e
      rw [Nat.eq_of_beq_eq_true e]
      exact ⟨rfl, by simp⟩
    · rename_i e
      have hn : n ∈ l := by
        rcases List.mem_cons.1 h with rfl | h
        · rw [Nat.beq_refl] at e; cases e
        · exact h
      obtain ⟨h1, h2⟩ := idxN_get hn
      exact ⟨by rw [List.getElem?_cons_succ]; exact h1, by rw [List.length_cons]; omega⟩
theorem objsAt_ok {objs : List (TO U)} : ∀ {l : List Nat} {r : List (TO U)}, objsAt objs l = some r → r.length = l.length ∧ ∀ (j i : Nat), l[j]? = some i → ∃ x, r[j]? = some x ∧ nth objs i = some x
  | [], r, h => by cases h; exact ⟨rfl, fun j i h => by simp at h⟩
  | a :: l, r, h => by
    unfold objsAt at h
    split at h <;> try (cases h; done)
    rename_i x r' hx hr
    cases h
    obtain ⟨h1, h2⟩ := objsAt_ok hr
    refine ⟨by rw [List.length_cons, List.length_cons, h1], fun j i hj => ?_⟩
    cases j with
    | zero => cases hj; exact ⟨x, rfl, hx⟩
    | succ j => exact h2 j i (by simpa using hj)
theorem updO_append : ∀ (a b : List (Nat × TO U)) (l : List (TO U)), updO l (a ++ b) = updO (updO l a) b
  | [], b, l => rfl
  | (i, x) :: a, b, l => updO_append a b (setO l i x)
theorem ObsOk.append : ∀ {a b : List (Nat × TO U)} {l : List (TO U)}, ObsOk l a → ObsOk (updO l a) b → ObsOk l (a ++ b)
  | [], b, l, _, h => h
  | (i, x) :: a, b, l, h, h2 => ⟨h.1, ObsOk.append h.2 h2⟩
theorem obs_old : ∀ (ids : List Nat) (os : List (TO U)) (objs : List (TO U)), os.length = ids.length → (∀ (j i : Nat) (x : TO U), ids[j]? = some i → os[j]? = some x → ∃ o, nth objs i = some o ∧ o.rlen = x.rlen) →
    ObsOk objs (ids.zip os) ∧ (updO objs (ids.zip os)).length = objs.length
  | [], os, objs, _, _ => ⟨by simp [ObsOk], by simp [updO]⟩
  | i :: ids, [], objs, h, _ => by cases h
  | i :: ids, x :: os, objs, hl, h => by
    obtain ⟨o, ho, hr⟩ := h 0 i x rfl rfl
    have hlen : (setO objs i x).length = objs.length := by rw [length_setO, if_pos (nth_lt ho)]
    obtain ⟨h1, h2⟩ := obs_old ids os (setO objs i x) (by simpa using hl) fun j i' x' hi hx => by
      obtain ⟨o', ho', hr'⟩ := h (j + 1) i' x' (by simpa using hi) (by simpa using hx)
      rw [nth_setO _ _ _ _ (Nat.le_of_lt (nth_lt ho))]
      by_cases e : i' = i
      · subst e
        rw [ho] at ho'
        cases ho'
        exact ⟨x, by rw [if_pos rfl], by rw [← hr, hr']⟩
      · exact ⟨o', by rw [if_neg e]; exact ho', hr'⟩
    exact ⟨⟨.inl ⟨o, ho, hr⟩, h1⟩, by rw [← hlen]; exact h2⟩
theorem obs_new : ∀ (os : List (TO U)) (objs : List (TO U)) (n : Nat), n = objs.length → ObsOk objs ((List.range' n os.length).zip os) ∧ (updO objs ((List.range' n os.length).zip os)).length = n + os.length ∧
    (∀ j, nth (updO objs ((List.range' n os.length).zip os)) (n + j) = nth os j) ∧ ∀ i, i < n → nth (updO objs ((List.range' n os.length).zip os)) i = nth objs i
  | [], objs, n, hn => ⟨trivial, hn.symm, fun j => by
      show nth objs (n + j) = nth [] j
      rw [nth_eq, nth_eq, List.getElem?_eq_none (by omega)]
      rfl, fun i hi => rfl⟩
  | x :: os, objs, n, hn => by
    have hlen : (setO objs n x).length = n + 1 := by rw [length_setO, if_neg (by omega), hn]
    obtain ⟨h1, h2, h3, h4⟩ := obs_new os (setO objs n x) (n + 1) hlen.symm
    rw [List.length_cons, List.range'_succ, List.zip_cons_cons]
    refine ⟨⟨.inr hn, h1⟩, ?_, fun j => ?_, fun i hi => ?_⟩
    · show (updO (setO objs n x) _).length = _
      rw [h2]
      omega
    · show nth (updO (setO objs n x) _) (n + j) = _
      cases j with
      | zero =>
        show nth (updO (setO objs n x) _) n = _
        rw [h4 n (by omega), nth_setO _ _ _ _ (by omega), if_pos rfl]
        rfl
      | succ j =>
        have := h3 j
        rw [show n + (j + 1) = n + 1 + j by omega, this]
        rfl
    · show nth (updO (setO objs n x) _) i = _
      rw [h4 i (by omega), nth_setO _ _ _ _ (by omega), if_neg (by omega)]
end
theorem zipH_zip (ρ : Nat → Nat) : ∀ (l : List Nat) (m : List OS), zipH ρ l m = (l.zip (m.map (OS.ren ρ)))
  | [], m => by simp [zipH]
  | i :: l, [] => by simp [zipH]
  | i :: l, x :: m => by rw [zipH, zipH_zip ρ l m]; rfl
section
variable {P : Program} {X : Cx} {s : TS X.U} {o : Oper} {σ : St} {R : Type} {r : R} {k : List Loc → TEff X.U → Option R}
def evCall (X : Cx) (E : FuncId → Option (Spc X.U)) (s : TS X.U) (f : FuncId) (xs : List Operand) (k : List Loc → TEff X.U → Option R) : Option R :=
  match E f with
  | none => none
  | some S =>
    let args := xs.map (evO s)
    match args.any TV.isJunk with
    | true => none
    | false =>
      let ids := reach s.objs 1000 (idsL args) []
      match objsAt s.objs ids with
      | none => none
      | some os => match nodupN ids && allL (fun i => memN i ids) args && os.all (fun x => x.all fun i => memN i ids) && os.all TO.alive with
        | false => none
        | true => S.F (os.map (TO.ren fun i => idxN i ids)) (tenL (fun i => idxN i ids) args) fun os' res =>
          let ns := List.range' s.objs.length (os'.length - ids.length)
          k (locs xs ++ [] ++ [] ++ (ids ++ ns).map .obj) ⟨res.ren (nameH (ids ++ ns)), (ids ++ ns).zip (os'.map (TO.ren (nameH (ids ++ ns))))⟩
theorem evCall_ok (hX : CxOk P X) {E : FuncId → Option (Spc X.U)} (hE : ∀ f S, E f = some S → SpecOk P f S) {f : FuncId} {xs : Array Operand} {ts : Array TypeId} (h : evCall X E s f xs.toList k = some r) (hM : M s σ)
    (ho : o.op = .call { callee := .value (.func f), args := xs, argTypes := ts }) : ∃ L e, k L e = some r ∧ Fit P s o σ L e := by
  unfold evCall at h
  split at h <;> try (cases h; done)
  rename_i S hS
  obtain ⟨⟨fn, hf, hname, hbody⟩, hpath, hok⟩ := hE f S hS
  dsimp only at h
  split at h <;> try (cases h; done)
  rename_i hj
  generalize hids : reach s.objs 1000 (idsL (xs.toList.map (evO s))) [] = ids at h
  split at h <;> try (cases h; done)
  rename_i os hos
  split at h <;> try (cases h; done)
  rename_i hchk
  simp only [Bool.and_eq_true] at hchk
  obtain ⟨⟨⟨c1, c2⟩, c3⟩, c4⟩ := hchk
  have hc : Clsd X.U := hX.closed
  have hnd := nodupN_ok c1
  obtain ⟨hol, hoget⟩ := objsAt_ok hos
  have hidlt : ∀ i ∈ ids, i < s.objs.length := fun i hi => by
    obtain ⟨j, hj⟩ := List.mem_iff_getElem?.1 hi
    obtain ⟨x, _, hx⟩ := hoget j i hj
    exact nth_lt hx
  have hidx : ∀ i, memN i ids = true → decide (idxN i ids < (os.map (TO.ren fun i => idxN i ids)).length) = true := fun i hi => by
    rw [List.length_map, hol]
    exact decide_eq_true (idxN_get (memN_iff.1 hi)).2
  obtain ⟨objs', res, hk, hpk⟩ := hpath _ _ _ _ h
  obtain ⟨hcall, hle, hrls, hrb, hob'⟩ := hok _ _ objs' res (hpk _) (tenL_all hidx c2) (List.all_eq_true.2 fun x hx => by
      obtain ⟨y, hy, rfl⟩ := List.mem_map.1 hx
      rw [TO.bel_all]
      exact TO.ren_all hidx (List.all_eq_true.1 c3 y hy)) (List.all_eq_true.2 fun x hx => by
      obtain ⟨y, hy, rfl⟩ := List.mem_map.1 hx
      have := List.all_eq_true.1 c4 y hy
      cases y <;> first | rfl | exact this)
  rw [List.length_map, hol] at hle hrls
  generalize hns : List.range' s.objs.length (objs'.length - ids.length) = ns at hk
  have hnsl : ns.length = objs'.length - ids.length := by rw [← hns, List.length_range']
  have hnml : (ids ++ ns).length = objs'.length := by rw [List.length_append, hnsl]; omega
  have hnsm : ∀ i ∈ ns, s.objs.length ≤ i := fun i hi => by
    rw [← hns] at hi
    exact (List.mem_range'_1.1 hi).1
  have hnmnd : (ids ++ ns).Nodup := by
    refine List.nodup_append.2 ⟨hnd, by rw [← hns]; exact List.nodup_range', fun a ha b hb e => ?_⟩
    have h1 := hidlt a ha
    have h2 := hnsm b hb
    omega
  have hback : ∀ i, memN i ids = true → nameH (ids ++ ns) (idxN i ids) = i := fun i hi => by
    obtain ⟨h1, h2⟩ := idxN_get (memN_iff.1 hi)
    exact nameH_get (by rw [List.getElem?_append_left h2]; exact h1)
  -- what the callee is handed
  have hrel : ∀ j x, os[j]? = some x → rlen (os.map (TO.ren fun i => idxN i ids)) j = x.rlen := fun j x hx => by
    unfold rlen
    rw [nth_eq, List.getElem?_map, hx]
    exact TO.ren_rlen _ x
  have hrl1 : ∀ i, memN i ids = true → rlen (os.map (TO.ren fun i => idxN i ids)) (idxN i ids) = rlen s.objs i := fun i hi => by
    obtain ⟨h1, h2⟩ := idxN_get (memN_iff.1 hi)
    obtain ⟨x, hx, hx2⟩ := hoget _ _ h1
    rw [hrel _ _ hx]
    unfold rlen
    rw [hx2]
  have hrl2 : ∀ j, j < ids.length → rlen s.objs (nameH (ids ++ ns) j) = rlen (os.map (TO.ren fun i => idxN i ids)) j := fun j hj => by
    obtain ⟨x, hx, hx2⟩ := hoget j ids[j] (List.getElem?_eq_getElem hj)
    have e := nameH_get (nm := ids ++ ns) (j := j) (id := ids[j]) (by rw [List.getElem?_append_left hj]; exact List.getElem?_eq_getElem hj)
    rw [e, hrel _ _ hx]
    unfold rlen
    rw [hx2]
  -- what is left
  generalize hρ : nameH (ids ++ ns) = ρ at *
  have hρ1 : ∀ j, j < ids.length → ∃ i, ids[j]? = some i ∧ ρ j = i := fun j hj => ⟨ids[j], List.getElem?_eq_getElem hj, by rw [← hρ]; exact nameH_get (by rw [List.getElem?_append_left hj]; exact List.getElem?_eq_getElem hj)⟩
  have hρ2 : ∀ j, ids.length ≤ j → j < objs'.length → ρ j = s.objs.length + (j - ids.length) := fun j h1 h2 => by
    rw [← hρ]
    refine nameH_get ?_
    rw [List.getElem?_append_right h1, ← hns, List.getElem?_range' (by omega)]
    simp
  generalize hD : objs'.map (TO.ren ρ) = D at *
  have hDl : D.length = objs'.length := by rw [← hD, List.length_map]
  have hDg : ∀ j x, D[j]? = some x → ∃ y : TO X.U, objs'[j]? = some y ∧ x = y.ren ρ := fun j x hx => by
    rw [← hD, List.getElem?_map] at hx
    obtain ⟨y, hy, rfl⟩ := Option.map_eq_some_iff.1 hx
    exact ⟨y, hy, rfl⟩
  have hrD : ∀ j x, D[j]? = some x → x.rlen = rlen objs' j := fun j x hx => by
    obtain ⟨y, hy, rfl⟩ := hDg j x hx
    unfold rlen
    rw [nth_eq, hy]
    exact TO.ren_rlen _ _
  obtain ⟨a1, a2⟩ := obs_old ids (D.take ids.length) s.objs (by rw [List.length_take]; omega) fun j i x hi hx => by
    have hx := take_get0 hx
    obtain ⟨y, hy, hy2⟩ := hoget j i hi
    refine ⟨y, hy2, ?_⟩
    rw [hrD j x hx, hrls j (List.getElem?_eq_some_iff.1 hi).1]
    exact (hrel j y hy).symm
  have hdl : (D.drop ids.length).length = objs'.length - ids.length := by rw [List.length_drop, hDl]
  obtain ⟨b1, b2, b3, b4⟩ := obs_new (D.drop ids.length) (updO s.objs (ids.zip (D.take ids.length))) s.objs.length a2.symm
  rw [hdl, hns] at b1 b2 b3 b4
  have hzip : (ids ++ ns).zip D = ids.zip (D.take ids.length) ++ ns.zip (D.drop ids.length) := by
    conv => lhs; rw [← List.take_append_drop ids.length D]
    exact List.zip_append (by rw [List.length_take]; omega)
  have hok1 : ObsOk s.objs ((ids ++ ns).zip D) := by rw [hzip]; exact a1.append b1
  have hlen1 : (updO s.objs ((ids ++ ns).zip D)).length = s.objs.length + (objs'.length - ids.length) := by rw [hzip, updO_append]; exact b2
  have hrl3 : ∀ j, decide (j < objs'.length) = true → rlen (updO s.objs ((ids ++ ns).zip D)) (ρ j) = rlen objs' j := fun j hj => by
    have hj := of_decide_eq_true hj
    by_cases h1 : j < ids.length
    · obtain ⟨i, hi, e⟩ := hρ1 j h1
      rw [updO_rlen _ _ hok1 _ (by rw [e]; exact hidlt i (List.mem_of_getElem? hi)), hrl2 j h1, hrls j h1]
    · rw [hρ2 j (by omega) hj]
      unfold rlen
      rw [hzip, updO_append, b3, nth_eq, nth_eq, List.getElem?_drop, show ids.length + (j - ids.length) = j by omega, ← hD, List.getElem?_map, List.getElem?_eq_getElem hj]
      exact TO.ren_rlen _ _
  have hρlt : ∀ j, decide (j < objs'.length) = true → decide (ρ j < (updO s.objs ((ids ++ ns).zip D)).length) = true := fun j hj => by
    have hj := of_decide_eq_true hj
    refine decide_eq_true ?_
    rw [hlen1]
    by_cases h1 : j < ids.length
    · obtain ⟨i, hi, e⟩ := hρ1 j h1
      have := hidlt i (List.mem_of_getElem? hi)
      omega
    · rw [hρ2 j (by omega) hj]
      omega
  have hbel' : ∀ x ∈ objs', x.all (fun i => decide (i < objs'.length)) = true := fun x hx => by
    rw [← TO.bel_all]
    exact List.all_eq_true.1 hob' x hx
  have hargs : renL ρ (itpL (rlen (os.map (TO.ren fun i => idxN i ids))) (tenL (fun i => idxN i ids) (xs.toList.map (evO s)))) = xs.toList.map σ.ev := by
    rw [itpL_ren hc (rl' := rlen s.objs) (p := fun i => decide (i < ids.length)) (fun i hi => hrl2 i (of_decide_eq_true hi)) (tenL_all (fun i hi => by have := hidx i hi; rwa [List.length_map, hol] at this) c2), tenL_tenL hback c2, itpL_eq, List.map_map]
    refine List.map_congr_left fun x hx => ?_
    refine (hM.ev rfl ?_).symm
    refine not_junk ?_
    cases hq : (evO s x).isJunk with
    | false => rfl
    | true =>
      have : (xs.toList.map (evO s)).any TV.isJunk = true := List.any_eq_true.2 ⟨_, List.mem_map.2 ⟨x, hx, rfl⟩, hq⟩
      rw [hj] at this
      cases this
  have hrelb : ∀ x ∈ os, (x.ren fun i => idxN i ids).all (fun i => decide (i < ids.length)) = true := fun x hx => TO.ren_all (fun i hi => by have := hidx i hi; rwa [List.length_map, hol] at this) (List.all_eq_true.1 c3 x hx)
  have hstep := step_hcall (P := P) (s := σ) ho hf hname hbody [] (fun x hx => by cases hx) .nil ids ns hnmnd (objs := (os.map (TO.ren fun i => idxN i ids)).map (TO.ob (rlen (os.map (TO.ren fun i => idxN i ids))))) (objs' := objs'.map (TO.itp (rlen objs')))
    (args := itpL (rlen (os.map (TO.ren fun i => idxN i ids))) (tenL (fun i => idxN i ids) (xs.toList.map (evO s)))) (res := res.itp (rlen objs')) (L := []) ?_ (fun i hi => hM.fresh i (hnsm i hi)) ?_ (by rw [List.length_map, hnml]) ?_ ?_ ?_ hcall
  · refine ⟨_, _, hk, ?_, hok1, ren_all hρlt hrb, ?_⟩
    · have e1 : (res.itp (rlen objs')).ren ρ = (res.ren ρ).itp (rlen (updO s.objs ((ids ++ ns).zip D))) := itp_ren hc hrl3 hrb
      have e2 : zipH ρ (ids ++ ns) (objs'.map (TO.itp (rlen objs'))) = ((ids ++ ns).zip D).map fun p => (p.1, p.2.itp (rlen (updO s.objs ((ids ++ ns).zip D)))) := by
        rw [zipH_zip, List.map_map]
        have : objs'.map (OS.ren ρ ∘ TO.itp (rlen objs')) = D.map (TO.itp (rlen (updO s.objs ((ids ++ ns).zip D)))) := by
          rw [← hD, List.map_map]
          refine List.map_congr_left fun x hx => ?_
          rw [hD]
          exact TO.itp_ren hc hrl3 (hbel' x hx)
        rw [this, List.zip_map_right]
        rfl
      rw [hρ, e1, e2] at hstep
      exact hstep
    · refine List.all_eq_true.2 fun p hp => ?_
      have hm := (List.of_mem_zip (a := p.1) (b := p.2) hp).2
      rw [← hD] at hm
      obtain ⟨y, hy, e⟩ := List.mem_map.1 hm
      rw [TO.bel_all, ← e]
      exact TO.ren_all hρlt (hbel' y hy)
  · rw [hρ, List.map_map, List.map_map]
    apply List.ext_getElem?
    intro j
    rw [List.getElem?_map, List.getElem?_map]
    by_cases hjl : j < ids.length
    · obtain ⟨x, hx, hx2⟩ := hoget j ids[j] (List.getElem?_eq_getElem hjl)
      rw [List.getElem?_eq_getElem hjl, hx]
      have hmem := List.mem_of_getElem? hx
      have h1 := hM.ob _ _ hx2
      have hal : (x.ren fun i => idxN i ids).alive = true := by
        have := List.all_eq_true.1 c4 x hmem
        cases x <;> first | rfl | exact this
      have h2 : ((x.ren fun i => idxN i ids).itp (rlen (os.map (TO.ren fun i => idxN i ids)))).ren ρ = x.itp (rlen s.objs) := by
        rw [TO.itp_ren hc (rl' := rlen s.objs) (p := fun i => decide (i < ids.length)) (fun i hi => hrl2 i (of_decide_eq_true hi)) (hrelb x hmem), TO.ren_ren hback (List.all_eq_true.1 c3 x hmem)]
      rw [TO.itp_ob hal] at h2
      show some (σ.obj ids[j]) = some _
      rw [h1, ← h2]
      rfl
    · rw [List.getElem?_eq_none (by omega), List.getElem?_eq_none (by omega)]
      rfl
  · refine List.all_eq_true.2 fun ob hob => ?_
    obtain ⟨y, hy, rfl⟩ := List.mem_map.1 hob
    obtain ⟨x, hx, rfl⟩ := List.mem_map.1 hy
    have hb := hrelb x hx
    cases x with
    | dead n => rfl
    | cells l fz => show (ltL _ _ && true) = true; rw [itpL_lt hc hb]; rfl
    | row c xs fz => exact closedR_lt _ (hc.rows c xs)
  · refine List.all_eq_true.2 fun os1 hos1 => ?_
    obtain ⟨x, hx, rfl⟩ := List.mem_map.1 hos1
    have hb := hbel' x hx
    rw [← hnml] at hb
    cases x with
    | dead n => rfl
    | cells l fz => show (ltL _ _ && true) = true; rw [itpL_lt hc hb]; rfl
    | row c xs fz => exact closedR_lt _ (hc.rows c xs)
  · rw [hnml]; exact itp_lt hc hrb
  · rw [hρ, ← hargs]
    exact SolHL.of_ren (itpL_lt hc (tenL_all (fun i hi => by have := hidx i hi; rwa [List.length_map, hol] at this) c2))
end
end Go.Proofs.YtcbbpidnocgoiaaDoor.Eng

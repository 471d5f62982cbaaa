/- Rows that are never written again, and states with fewer names. -/
import Derived.Test.YtcbbpidnocgoiaaDoorEvF
namespace Go.Proofs.YtcbbpidnocgoiaaDoor.Eng
open Go Go.RowKit
set_option linter.unusedVariables false
set_option linter.unusedSimpArgs false
section
variable {U : Univ}
mutual
def TV.fz (id : Nat) (c : U.C) (xs : List (U.T c)) : TV U → TV U
  | .full i => match Nat.beq i id with
    | true => .lst c xs
    | false => .full i
  | .agg l => .agg (fzL id c xs l)
  | .tup l => .tup (fzL id c xs l)
  | x => x
def fzL (id : Nat) (c : U.C) (xs : List (U.T c)) : List (TV U) → List (TV U)
  | [] => []
  | x :: l => x.fz id c xs :: fzL id c xs l
end
def TO.fz (id : Nat) (c : U.C) (xs : List (U.T c)) : TO U → TO U
  | .cells l z => .cells (fzL id c xs l) z
  | x => x
def frzOne (s : TS U) (id : Nat) : TS U := match nth s.objs id with
  | some (.row c xs false) => ⟨s.slots.map (TV.fz id c xs), setN (s.objs.map (TO.fz id c xs)) id (.row c xs true), s.hin⟩
  | _ => s
def frzs (s : TS U) : List Nat → TS U
  | [] => s
  | id :: l => frzs (frzOne s id) l
theorem fzL_eq (id : Nat) (c : U.C) (xs : List (U.T c)) : ∀ l : List (TV U), fzL id c xs l = l.map (TV.fz id c xs)
  | [] => rfl
  | x :: l => by rw [fzL, fzL_eq id c xs l]; rfl
mutual
theorem fz_all {id : Nat} {c : U.C} {xs : List (U.T c)} {p : Nat → Bool} : ∀ {x : TV U}, x.all p = true → (x.fz id c xs).all p = true
  | .v _, _ => rfl
  | .ref .., h => h
  | .own .., h => h
  | .full i, h => by
    unfold TV.fz
    split
    · rfl
    · exact h
  | .lst .., _ => rfl
  | .agg l, h => fzL_all (l := l) h
  | .tup l, h => fzL_all (l := l) h
  | .elt .., _ => rfl
  | .junk, _ => rfl
theorem fzL_all {id : Nat} {c : U.C} {xs : List (U.T c)} {p : Nat → Bool} : ∀ {l : List (TV U)}, allL p l = true → allL p (fzL id c xs l) = true
  | [], _ => rfl
  | x :: l, h => by
    have h : (x.all p && allL p l) = true := h
    rw [Bool.and_eq_true] at h
    show ((x.fz id c xs).all p && allL p (fzL id c xs l)) = true
    rw [fz_all h.1, fzL_all h.2]
    rfl
end
mutual
theorem rep_fz {g : Gh} {H : Array Go.Obj} {id : Nat} {c : U.C} {xs : List (U.T c)} {rl : Nat → Nat} (h0 : ∀ x, Rep g H x (.own id 0 (rl id)) → Rep g H x (.lst (U.sz c) (xs.map (U.encS c)))) : ∀ {tv : TV U} {x : Value}, Rep g H x (tv.itp rl) → Rep g H x ((tv.fz id c xs).itp rl)
  | .v _, _, h => h
  | .ref .., _, h => h
  | .own .., _, h => h
  | .full i, x, h => by
    unfold TV.fz
    split
    · rename_i e
      have := Nat.eq_of_beq_eq_true e
      subst this
      exact h0 x h
    · exact h
  | .lst .., _, h => h
  | .agg l, x, h => by
    have h : Rep g H x (.agg (itpL rl l)) := h
    cases h with
    | agg h => exact .agg (repL_fz h0 h)
  | .tup l, x, h => by
    have h : Rep g H x (.tup (itpL rl l)) := h
    cases h with
    | tup h => exact .tup (repL_fz h0 h)
  | .elt .., _, h => h
  | .junk, _, h => h
theorem repL_fz {g : Gh} {H : Array Go.Obj} {id : Nat} {c : U.C} {xs : List (U.T c)} {rl : Nat → Nat} (h0 : ∀ x, Rep g H x (.own id 0 (rl id)) → Rep g H x (.lst (U.sz c) (xs.map (U.encS c)))) : ∀ {l : List (TV U)} {vs : List Value}, RepL g H vs (itpL rl l) → RepL g H vs (itpL rl (fzL id c xs l))
  | [], _, h => h
  | x :: l, _, h => by
    have h : RepL g H _ (x.itp rl :: itpL rl l) := h
    cases h with
    | cons h t => exact .cons (rep_fz h0 h) (repL_fz h0 t)
end
end
section
variable {P : Program} {X : Cx} {E : FuncId → Option (Spc X.U)}
theorem frzOne_ok (hX : CxOk P X) {s : TS X.U} (id : Nat) {f : Fr} {a : Act} {w : World} (hT : TR f s a w) : TR f (frzOne s id) a w := by
  unfold frzOne
  split
  case h_2 => exact hT
  case h_1 c xs hob =>
  obtain ⟨⟨σ, hM, g, hR⟩, hin, hg0⟩ := hT
  have ho := hM.obj_row hob
  have hlt := nth_lt hob
  obtain ⟨g1, hg1, hR1⟩ := hR.freeze id _ ho
  have hrl0 : rlen s.objs id = xs.length := by unfold rlen; rw [hob]; rfl
  have hlen : (setN (s.objs.map (TO.fz id c xs)) id (.row c xs true)).length = s.objs.length := by rw [setN_eq, List.length_set, List.length_map]
  have hnth : ∀ i, nth (setN (s.objs.map (TO.fz id c xs)) id (.row c xs true)) i = if i = id then some (.row c xs true) else (nth s.objs i).map (TO.fz id c xs) := fun i => by
    rw [nth_eq, setN_eq, List.getElem?_set, nth_eq]
    by_cases e : i = id
    · subst e
      rw [if_pos rfl, if_pos rfl, if_pos (by rw [List.length_map]; exact hlt)]
    · rw [if_neg (Ne.symm e), if_neg e, List.getElem?_map]
  have hrl : rlen (setN (s.objs.map (TO.fz id c xs)) id (.row c xs true)) = rlen s.objs := by
    funext i
    unfold rlen
    rw [hnth]
    by_cases e : i = id
    · subst e; rw [if_pos rfl, hob]; rfl
    · rw [if_neg e]
      cases nth s.objs i with
      | none => rfl
      | some o => cases o <;> rfl
  have h0 : ∀ x, Rep g1 w.heap x (.own id 0 (rlen s.objs id)) → Rep g1 w.heap x (.lst (X.U.sz c) (xs.map (X.U.encS c))) := fun x hx => by
    have hs := Sol.own (s := σ.upd id (.ob ⟨X.U.sz c, xs.map (X.U.encS c), true⟩)) (id := id) (lo := 0) (len := rlen s.objs id) (ob := ⟨X.U.sz c, xs.map (X.U.encS c), true⟩) (by show (if id = id then _ else _) = _; rw [if_pos rfl]) rfl (rows := xs.map (X.U.encS c))
      (by rw [hrl0, List.drop_zero, List.take_of_length_le (by rw [List.length_map]; exact Nat.le_refl _)]) (by rw [hrl0, List.length_map]) (closedR_map _ (hX.closed c) xs)
    exact (hs f g1 _ a w x (Agree.refl _ _) hR1 hx).ext (GExt.clo g1) (Ext.refl _ _)
  have hget : ∀ t, getN (s.slots.map (TV.fz id c xs)) t = (getN s.slots t).fz id c xs := fun t => by
    unfold getN
    rw [nth_eq, nth_eq, List.getElem?_map]
    cases s.slots[t]? <;> rfl
  have hjunk : ∀ tv : TV X.U, tv.fz id c xs ≠ .junk → tv ≠ .junk := fun tv h e => by subst e; exact h rfl
  refine ⟨⟨⟨fun t => if (getN s.slots t).isJunk then σ.slot t else ((getN s.slots t).fz id c xs).itp (rlen s.objs), fun i => match nth (setN (s.objs.map (TO.fz id c xs)) id (.row c xs true)) i with | some o => o.itp (rlen s.objs) | none => .never⟩, ?_, g1, ?_⟩, by rw [hlen]; exact hin, hg0⟩
  · refine ⟨fun t ht => ?_, fun i o ho => ?_, fun i hi => ?_, fun t => ?_, fun i o ho => ?_⟩
    · rw [hrl]
      have ht : getN (s.slots.map (TV.fz id c xs)) t ≠ .junk := ht
      rw [hget] at ht
      show (if _ then _ else _) = (getN (s.slots.map (TV.fz id c xs)) t).itp _
      rw [hget, if_neg]
      have := hjunk _ ht
      revert this
      cases getN s.slots t <;> simp [TV.isJunk]
    · rw [hrl]
      show (match nth (setN (s.objs.map (TO.fz id c xs)) id (.row c xs true)) i with | some o => o.itp (rlen s.objs) | none => .never) = _
      rw [ho]
    · have hi : (setN (s.objs.map (TO.fz id c xs)) id (.row c xs true)).length ≤ i := hi
      show (match nth (setN (s.objs.map (TO.fz id c xs)) id (.row c xs true)) i with | some o => o.itp (rlen s.objs) | none => .never) = _
      rw [nth_eq, List.getElem?_eq_none hi]
    · show (getN (s.slots.map (TV.fz id c xs)) t).bel (setN (s.objs.map (TO.fz id c xs)) id (.row c xs true)).length = true
      rw [hget, hlen]
      exact fz_all (hM.sb t)
    · show o.bel (setN (s.objs.map (TO.fz id c xs)) id (.row c xs true)).length = true
      have ho : nth (setN (s.objs.map (TO.fz id c xs)) id (.row c xs true)) i = some o := ho
      rw [hlen]
      rw [hnth] at ho
      by_cases e : i = id
      · rw [if_pos e] at ho; cases ho; rfl
      · rw [if_neg e] at ho
        obtain ⟨p, hp, rfl⟩ := Option.map_eq_some_iff.1 ho
        have := hM.obb i p hp
        cases p with
        | cells l z => exact fzL_all this
        | dead n => rfl
        | row c' ys z => rfl
  · refine hR1.recell (fun t => ?_) fun i => ?_
    · show Rep _ _ _ (if _ then _ else _)
      have h1 := hR1.slot t
      split
      · exact h1
      · rename_i hj
        have h2 : σ.slot t = (getN s.slots t).itp (rlen s.objs) := hM.slot t (fun e => hj (by rw [e]; rfl))
        have h1 : Rep g1 w.heap (a.tmps.getD t undef) (σ.slot t) := h1
        rw [h2] at h1
        exact rep_fz h0 h1
    · show (match nth (setN (s.objs.map (TO.fz id c xs)) id (.row c xs true)) i with | some o => o.itp (rlen s.objs) | none => .never) = (if i = id then _ else σ.obj i) ∨ ∃ o o', (if i = id then _ else σ.obj i) = _ ∧ _
      rw [hnth]
      by_cases e : i = id
      · rw [if_pos e]
        left
        rw [if_pos e]
        rfl
      · rw [if_neg e]
        cases hn : nth s.objs i with
        | none =>
          left
          rw [if_neg e]
          have : s.objs.length ≤ i := by rw [nth_eq] at hn; exact List.getElem?_eq_none_iff.1 hn
          exact (hM.fresh i this).symm
        | some p =>
          have hp := hM.ob i p hn
          cases p with
          | dead n => left; rw [if_neg e, hp]; rfl
          | row c' ys z => left; rw [if_neg e, hp]; rfl
          | cells l z =>
            right
            refine ⟨⟨l.length, [itpL (rlen s.objs) l], z⟩, ⟨(fzL id c xs l).length, [itpL (rlen s.objs) (fzL id c xs l)], z⟩, by rw [if_neg e, hp]; rfl, by
              show (match nth (setN (s.objs.map (TO.fz id c xs)) id (.row c xs true)) i with | some o => o.itp (rlen s.objs) | none => .never) = _
              rw [hnth, if_neg e, hn]
              rfl, by rw [fzL_eq, List.length_map], rfl, fun vs hvs => ?_⟩
            cases hvs with
            | cons hm h t => exact .cons hm (repL_fz h0 h) t
theorem frzs_ok (hX : CxOk P X) : ∀ (ids : List Nat) {s : TS X.U} {f : Fr} {a : Act} {w : World}, TR f s a w → TR f (frzs s ids) a w
  | [], _, _, _, _, h => h
  | id :: l, _, _, _, _, h => frzs_ok hX l (frzOne_ok hX id h)
end
/-! ### Fewer names -/
section
variable {U : Univ}
def maskL (mask : Nat) : Nat → List (TV U) → List (TV U)
  | _, [] => []
  | n, x :: l => (match Nat.testBit mask n with | true => x | false => .junk) :: maskL mask (n + 1) l
def flatIds : List (TO U) → List Nat
  | [] => []
  | x :: l => x.ids ++ flatIds l
def eqN : List Nat → List Nat → Bool
  | [], [] => true
  | x :: l, y :: m => Nat.beq x y && eqN l m
  | _, _ => false
def upTo : Nat → Nat → List Nat
  | _, 0 => []
  | k, n + 1 => k :: upTo (k + 1) n
def norm (mask : Nat) (s : TS U) (xs : List (TV U)) : Option (TS U × List (TV U)) :=
  match objsAt s.objs (upTo 0 s.hin) with
  | none => none
  | some ho =>
    let sl := maskL mask 0 s.slots
    let ids := reach s.objs 1000 (flatIds ho ++ idsL sl ++ idsL xs) (upTo 0 s.hin)
    match objsAt s.objs ids with
    | none => none
    | some os => match nodupN ids && allL (fun i => memN i ids) sl && allL (fun i => memN i ids) xs && os.all (fun x => x.all fun i => memN i ids) && eqN (ids.take s.hin) (upTo 0 s.hin) with
      | true => some (⟨tenL (fun i => idxN i ids) sl, os.map (TO.ren fun i => idxN i ids), s.hin⟩, tenL (fun i => idxN i ids) xs)
      | false => none
theorem maskL_get (mask : Nat) : ∀ (l : List (TV U)) (n t : Nat), getN (maskL mask n l) t = .junk ∨ getN (maskL mask n l) t = getN l t
  | [], n, t => .inr rfl
  | x :: l, n, 0 => by
    show (match Nat.testBit mask n with | true => x | false => .junk) = .junk ∨ (match Nat.testBit mask n with | true => x | false => .junk) = x
    cases Nat.testBit mask n
    · exact .inl rfl
    · exact .inr rfl
  | x :: l, n, t + 1 => maskL_get mask l (n + 1) t
theorem eqN_ok : ∀ {l m : List Nat}, eqN l m = true → l = m
  | [], [], _ => rfl
  | x :: l, y :: m, h => by
    have h : (Nat.beq x y && eqN l m) = true := h
    rw [Bool.and_eq_true] at h
    rw [Nat.eq_of_beq_eq_true h.1, eqN_ok h.2]
  | [], _ :: _, h => by cases h
  | _ :: _, [], h => by cases h
theorem upTo_eq : ∀ (k n : Nat), upTo k n = List.range' k n
  | k, 0 => rfl
  | k, n + 1 => by rw [upTo, upTo_eq (k + 1) n]; rfl
theorem getN_ten (ρ : Nat → Nat) (l : List (TV U)) (t : Nat) : getN (tenL ρ l) t = (getN l t).ren ρ := by
  unfold getN
  rw [tenL_eq, nth_eq, nth_eq, List.getElem?_map]
  cases l[t]? <;> rfl
theorem norm_ok (hc : Clsd U) {mask : Nat} {s s1 : TS U} {xs xs1 : List (TV U)} (hn : norm mask s xs = some (s1, xs1)) {σ : St} (hM : M s σ) {f : Fr} {g : Gh} {a : Act} {w : World} (hR : Rel f g σ a w) (hin : s.hin ≤ s.objs.length) (hg0 : ∀ id b, f.g0.β id = some b → id < s.hin) :
    ∃ g1 σ1, Rel f g1 σ1 a w ∧ M s1 σ1 ∧ s1.hin = s.hin ∧ s1.hin ≤ s1.objs.length ∧ allL (fun i => decide (i < s1.objs.length)) xs1 = true ∧ ∀ (i : Nat) (tv : TV U) (v : Value), xs[i]? = some tv → Rep g w.heap v (tv.itp (rlen s.objs)) → ∃ tv1, xs1[i]? = some tv1 ∧ Rep g1 w.heap v (tv1.itp (rlen s1.objs)) := by
  unfold norm at hn
  split at hn <;> try (cases hn; done)
  rename_i ho hho
  dsimp only at hn
  generalize hids : reach s.objs 1000 (flatIds ho ++ idsL (maskL mask 0 s.slots) ++ idsL xs) (upTo 0 s.hin) = ids at hn
  split at hn <;> try (cases hn; done)
  rename_i os hos
  split at hn <;> try (cases hn; done)
  rename_i hchk
  simp only [Bool.and_eq_true] at hchk
  obtain ⟨⟨⟨⟨c1, c2⟩, c3⟩, c4⟩, c5⟩ := hchk
  cases hn
  have hnd := nodupN_ok c1
  obtain ⟨hol, hoget⟩ := objsAt_ok hos
  have hpre : ∀ j, j < s.hin → ids[j]? = some j := fun j hj => by
    have h := congrArg (fun l => l[j]?) (eqN_ok c5)
    rw [upTo_eq, ← List.range_eq_range'] at h
    have h : (ids.take s.hin)[j]? = (List.range s.hin)[j]? := h
    rw [List.getElem?_take, if_pos hj, List.getElem?_range hj] at h
    exact h
  have hidx : ∀ i, memN i ids = true → decide (idxN i ids < ids.length) = true := fun i hi => decide_eq_true (idxN_get (memN_iff.1 hi)).2
  have hback : ∀ i, memN i ids = true → nameH ids (idxN i ids) = i := fun i hi => nameH_get (idxN_get (memN_iff.1 hi)).1
  have hrel : ∀ j x, os[j]? = some x → rlen (os.map (TO.ren fun i => idxN i ids)) j = x.rlen := fun j x hx => by
    unfold rlen
    rw [nth_eq, List.getElem?_map, hx]
    exact TO.ren_rlen _ x
  have hrl2 : ∀ j, j < ids.length → rlen s.objs (nameH ids j) = rlen (os.map (TO.ren fun i => idxN i ids)) j := fun j hj => by
    obtain ⟨x, hx, hx2⟩ := hoget j ids[j] (List.getElem?_eq_getElem hj)
    rw [nameH_get (List.getElem?_eq_getElem hj), hrel _ _ hx]
    unfold rlen
    rw [hx2]
  have hname : ∀ j, j < ids.length → ids[j]? = some (nameH ids j) := fun j hj => by rw [nameH_get (List.getElem?_eq_getElem hj)]; exact List.getElem?_eq_getElem hj
  -- a value under the new names
  have hval : ∀ (tv : TV U) (v : Value), tv.all (fun i => memN i ids) = true → Rep g w.heap v (tv.itp (rlen s.objs)) → Rep (pullG g (nameH ids) ids.length) w.heap v ((tv.ren fun i => idxN i ids).itp (rlen (os.map (TO.ren fun i => idxN i ids)))) := fun tv v hall hv => by
    have hb := ren_all (ρ := fun i => idxN i ids) (q := fun i => decide (i < ids.length)) hidx hall
    refine Rep.pull (pull_pullG g (nameH ids) ids.length) ?_ (itp_lt hc hb)
    rw [itp_ren hc (rl' := rlen s.objs) (p := fun i => decide (i < ids.length)) (fun i hi => hrl2 i (of_decide_eq_true hi)) hb, ren_ren hback hall]
    exact hv
  have hvalL : ∀ (l : List (TV U)) (vs : List Value), allL (fun i => memN i ids) l = true → RepL g w.heap vs (itpL (rlen s.objs) l) → RepL (pullG g (nameH ids) ids.length) w.heap vs (itpL (rlen (os.map (TO.ren fun i => idxN i ids))) (tenL (fun i => idxN i ids) l)) := by
    intro l
    induction l with
    | nil => intro vs _ h; cases h; exact .nil
    | cons x l ih =>
      intro vs hall h
      have hall : (x.all (fun i => memN i ids) && allL (fun i => memN i ids) l) = true := hall
      rw [Bool.and_eq_true] at hall
      have h : RepL g w.heap vs (x.itp _ :: itpL _ l) := h
      cases h with
      | cons h t => exact .cons (hval x _ hall.1 h) (ih _ hall.2 t)
  have hsall : ∀ t, (getN (maskL mask 0 s.slots) t).all (fun i => memN i ids) = true := fun t => by
    unfold getN
    rw [nth_eq]
    cases hq : (maskL mask 0 s.slots)[t]? with
    | none => rfl
    | some x =>
      rw [allL_all] at c2
      exact List.all_eq_true.1 c2 x (List.mem_of_getElem? hq)
  have hobj : ∀ j o, (match nth (os.map (TO.ren fun i => idxN i ids)) j with | some o => o.itp (rlen (os.map (TO.ren fun i => idxN i ids))) | none => OS.never) = .ob o →
      ∃ i x o0, j < ids.length ∧ ids[j]? = some i ∧ nth s.objs i = some x ∧ σ.obj i = .ob o0 ∧ o0.m = o.m ∧ o0.fz = o.fz ∧ ∀ vs, RepR g w.heap vs o0.m o0.rows → RepR (pullG g (nameH ids) ids.length) w.heap vs o.m o.rows := fun j o h => by
    rw [nth_eq, List.getElem?_map] at h
    cases hq : os[j]? with
    | none => rw [hq] at h; cases h
    | some x =>
      rw [hq] at h
      have hj : j < ids.length := by rw [← hol]; exact (List.getElem?_eq_some_iff.1 hq).1
      obtain ⟨x', hx', hx2⟩ := hoget j ids[j] (List.getElem?_eq_getElem hj)
      rw [hq] at hx'
      obtain rfl := Option.some.inj hx'
      have hob := hM.ob _ _ hx2
      have hmem := List.all_eq_true.1 c4 x (List.mem_of_getElem? hq)
      have h : (x.ren fun i => idxN i ids).itp (rlen (os.map (TO.ren fun i => idxN i ids))) = .ob o := h
      cases x with
      | dead n => cases h
      | cells l z =>
        have h := OS.ob.inj h
        subst h
        refine ⟨_, _, _, hj, List.getElem?_eq_getElem hj, hx2, hob, ?_, rfl, fun vs hvs => ?_⟩
        · show l.length = (tenL _ l).length
          rw [tenL_eq, List.length_map]
        · cases hvs with
          | cons hm h t =>
            have hl : (tenL (fun i => idxN i ids) l).length = l.length := by rw [tenL_eq, List.length_map]
            show RepR _ _ _ (tenL (fun i => idxN i ids) l).length [_]
            rw [hl]
            cases t
            exact .cons hm (hvalL l _ hmem h) .nil
      | row c ys z =>
        have h := OS.ob.inj h
        subst h
        refine ⟨_, _, _, hj, List.getElem?_eq_getElem hj, hx2, hob, rfl, rfl, fun vs hvs => ?_⟩
        have hcl := hc.rows c ys
        exact RepR.pull (pull_pullG g (nameH ids) ids.length) (by rw [closedR_ren _ hcl]; exact hvs) (closedR_lt _ hcl)
  have hβ : ∀ j, j < ids.length → (pullG g (nameH ids) ids.length).β j = g.β (nameH ids j) := fun j hj => by show (if j < ids.length then _ else _) = _; rw [if_pos hj]
  refine ⟨pullG g (nameH ids) ids.length, ⟨fun t => if (getN (maskL mask 0 s.slots) t).isJunk then .v (a.tmps.getD t undef) else ((getN (maskL mask 0 s.slots) t).ren fun i => idxN i ids).itp (rlen (os.map (TO.ren fun i => idxN i ids))),
    fun j => match nth (os.map (TO.ren fun i => idxN i ids)) j with | some o => o.itp (rlen (os.map (TO.ren fun i => idxN i ids))) | none => .never⟩, ?_, ?_, rfl, ?_, ?_, ?_⟩
  · refine { slot := fun t => ?_, size := hR.size, defers := hR.defers, never := fun j hj => ?_, ob := fun j o hj => ?_, inj := fun i j o o' b h1 h2 z1 z2 k1 k2 => ?_, own := fun j o b hj z k => ?_, base := hR.base, hsize := hR.hsize, F0 := hR.F0, Fold := hR.Fold, Flt := hR.Flt, os := hR.os, tape := hR.tape, output := hR.output, gext := fun id b hb => ?_, kept := hR.kept, tb := hR.tb }
    · show Rep _ _ _ (if _ then _ else _)
      split
      · exact .v _
      · rename_i hj
        rcases maskL_get mask s.slots 0 t with e | e
        · exact absurd (by rw [e]; rfl) hj
        · refine hval _ _ (hsall t) ?_
          rw [e]
          rw [e] at hj
          rw [← hM.slot t (fun e => hj (by rw [e]; rfl))]
          exact hR.slot t
    · show (if j < ids.length then _ else none) = none
      rw [if_neg]
      intro hlt
      have hj : (match nth (os.map (TO.ren fun i => idxN i ids)) j with | some o => o.itp (rlen (os.map (TO.ren fun i => idxN i ids))) | none => OS.never) = .never := hj
      rw [nth_eq, List.getElem?_map, List.getElem?_eq_getElem (by omega)] at hj
      have hj : ((os[j]'(by omega)).ren fun i => idxN i ids).itp _ = .never := hj
      cases hq : os[j]'(by omega) <;> rw [hq] at hj <;> cases hj
    · obtain ⟨i, x, o0, hlt, hi, hx, hσ, e1, e2, e3⟩ := hobj j o hj
      obtain ⟨⟨b, cs, T, fr, k1, k2, k3, k4, k5, k6⟩, k7⟩ := hR.ob i o0 hσ
      have hnm : nameH ids j = i := nameH_get hi
      refine ⟨⟨b, cs, T, fr, by rw [hβ j hlt, hnm]; exact k1, k2, ?_, k4, by rw [← e2]; exact k5, by rw [← e2]; exact k6⟩, ?_⟩
      · show RepR _ _ (cs.toList.drop (g.o0 (nameH ids j))) _ _
        rw [hnm]
        exact e3 _ k3
      · show g.mm (nameH ids j) = _
        rw [hnm, k7, e1]
    · obtain ⟨i1, x1, o1, hlt1, hi1, hx1, hσ1, e11, e12, _⟩ := hobj i o h1
      obtain ⟨i2, x2, o2, hlt2, hi2, hx2, hσ2, e21, e22, _⟩ := hobj j o' h2
      rw [hβ i hlt1, nameH_get hi1] at k1
      rw [hβ j hlt2, nameH_get hi2] at k2
      have := hR.inj i1 i2 o1 o2 b hσ1 hσ2 (by rw [e12]; exact z1) (by rw [e22]; exact z2) k1 k2
      subst this
      have q1 := idx_get hnd hi1
      have q2 := idx_get hnd hi2
      rw [q1] at q2
      exact Option.some.inj q2
    · obtain ⟨i, x, o0, hlt, hi, hx, hσ, e1, e2, e3⟩ := hobj j o hj
      rw [hβ j hlt, nameH_get hi] at k
      exact hR.own i o0 b hσ (by rw [e2]; exact z) k
    · obtain ⟨q1, q2, q3⟩ := hR.gext id b hb
      have hlt := hg0 id b hb
      have hi := hpre id hlt
      have hnm : nameH ids id = id := nameH_get hi
      refine ⟨by rw [hβ id (List.getElem?_eq_some_iff.1 hi).1, hnm]; exact q1, ?_, ?_⟩
      · show g.mm (nameH ids id) = _
        rw [hnm, q2]
      · show g.o0 (nameH ids id) = _
        rw [hnm, q3]
  · have hlen : (os.map (TO.ren fun i => idxN i ids)).length = ids.length := by rw [List.length_map, hol]
    refine ⟨fun t ht => ?_, fun i o ho => ?_, fun i hi => ?_, fun t => ?_, fun i o ho => ?_⟩
    · have ht : getN (tenL (fun i => idxN i ids) (maskL mask 0 s.slots)) t ≠ .junk := ht
      rw [getN_ten] at ht
      show (if _ then _ else _) = (getN (tenL (fun i => idxN i ids) (maskL mask 0 s.slots)) t).itp _
      rw [getN_ten, if_neg]
      intro hj
      apply ht
      revert hj
      cases getN (maskL mask 0 s.slots) t <;> simp [TV.isJunk, TV.ren]
    · show (match nth (os.map (TO.ren fun i => idxN i ids)) i with | some o => o.itp (rlen (os.map (TO.ren fun i => idxN i ids))) | none => OS.never) = _
      have ho : nth (os.map (TO.ren fun i => idxN i ids)) i = some o := ho
      rw [ho]
    · have hi : (os.map (TO.ren fun i => idxN i ids)).length ≤ i := hi
      show (match nth (os.map (TO.ren fun i => idxN i ids)) i with | some o => o.itp (rlen (os.map (TO.ren fun i => idxN i ids))) | none => OS.never) = _
      rw [nth_eq, List.getElem?_eq_none hi]
    · show (getN (tenL (fun i => idxN i ids) (maskL mask 0 s.slots)) t).bel (os.map (TO.ren fun i => idxN i ids)).length = true
      rw [getN_ten, hlen]
      exact ren_all hidx (hsall t)
    · have ho : nth (os.map (TO.ren fun i => idxN i ids)) i = some o := ho
      show o.bel (os.map (TO.ren fun i => idxN i ids)).length = true
      rw [hlen]
      rw [nth_eq, List.getElem?_map] at ho
      obtain ⟨x, hx, rfl⟩ := Option.map_eq_some_iff.1 ho
      rw [TO.bel_all]
      exact TO.ren_all hidx (List.all_eq_true.1 c4 x (List.mem_of_getElem? hx))
  · show s.hin ≤ (os.map (TO.ren fun i => idxN i ids)).length
    rw [List.length_map, hol]
    rcases Nat.eq_zero_or_pos s.hin with h0 | h0
    · omega
    · have := (List.getElem?_eq_some_iff.1 (hpre (s.hin - 1) (by omega))).1
      omega
  · rw [List.length_map, hol]
    exact tenL_all hidx c3
  · intro i tv v hi hv
    rw [tenL_eq]
    refine ⟨tv.ren fun i => idxN i ids, by rw [List.getElem?_map, hi]; rfl, hval tv v ?_ hv⟩
    rw [allL_all] at c3
    exact List.all_eq_true.1 c3 tv (List.mem_of_getElem? hi)
end
end Go.Proofs.YtcbbpidnocgoiaaDoor.Eng

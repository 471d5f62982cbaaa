/- Functions: what they come to. -/
import Derived.Test.YtcbbpidnocgoiaaDoorEvI
import Derived.Laws.Sem
namespace Go.Proofs.YtcbbpidnocgoiaaDoor.Eng
open Go Go.RowKit
set_option linter.unusedVariables false
set_option linter.unusedSimpArgs false
def resSem (tmps : Array Value) : ResultVar → Sem Value
  | .tmp t => pure (tmps.getD t undef)
  | .cell a t => do loadVar t (← asAddr (tmps.getD a undef))
theorem run_listM {P : Program} {w : World} {f : ResultVar → Sem Value} : ∀ {l : List ResultVar} {vs : List Value}, l.length = vs.length → (∀ (i : Nat) (r : ResultVar) (v : Value), l[i]? = some r → vs[i]? = some v → (f r).run P w = .ok v w) → (l.mapM f).run P w = .ok vs w
  | [], [], _, _ => by simp
  | r :: l, v :: vs, hl, h => by
    have h0 := h 0 r v rfl rfl
    have ih := run_listM (f := f) (l := l) (vs := vs) (by simpa using hl) fun i r v h1 h2 => h (i + 1) r v (by simpa using h1) (by simpa using h2)
    simp only [List.mapM_cons, Sem.run_bind, h0, Result.andThen_ok, ih]
    simp
  | [], _ :: _, h, _ => by cases h
  | _ :: _, [], h, _ => by cases h
def tupV : List Value → Value
  | [x] => x
  | l => .tuple l.toArray
theorem run_results {P : Program} {w : World} {fn : Func} {tmps : Array Value} {vs : List Value} (hl : fn.results.toList.length = vs.length) (h : ∀ (i : Nat) (r : ResultVar) (v : Value), fn.results.toList[i]? = some r → vs[i]? = some v → (resSem tmps r).run P w = .ok v w) :
    (results fn tmps).run P w = .ok (tupV vs) w := by
  have hm := run_listM (f := resSem tmps) hl h
  have he : (fn.results.mapM (resSem tmps)).run P w = .ok vs.toArray w := by
    rw [Array.mapM_eq_mapM_toList]
    rw [map_eq_pure_bind, Sem.run_bind, hm]
    rfl
  have hr : results fn tmps = (do
      let vs ← fn.results.mapM (resSem tmps)
      pure (if h : vs.size = 1 then vs[0] else .tuple vs)) := rfl
  rw [hr, Sem.run_bind, he, Result.andThen_ok]
  clear hm he hr h hl
  match vs with
  | [] => rfl
  | [x] => rfl
  | x :: y :: l => simp [tupV]
section
variable {P : Program} {X : Cx} {E : FuncId → Option (Spc X.U)} {R : Type} {r : R}
def evRV (X : Cx) (s : TS X.U) : ResultVar → Option (TV X.U)
  | .tmp t => match (getN s.slots t).isJunk with
    | true => none
    | false => some (getN s.slots t)
  | .cell t T => match getN s.slots t with
    | .ref id 0 j => match nth s.objs id with
      | some (.cells l _) => match X.tt T with
        | some u => match u.row with
          | true => if ((l.drop j).take u.size).length = u.size then some (.agg ((l.drop j).take u.size)) else none
          | false => nth l j
        | none => none
      | _ => none
    | _ => none
theorem evRV_ok (hX : CxOk P X) {s : TS X.U} {rv : ResultVar} {tv : TV X.U} (h : evRV X s rv = some tv) {σ : St} (hM : M s σ) {f : Fr} {g : Gh} {a : Act} {w : World} (hR : Rel f g σ a w) : ∃ v, (resSem a.tmps rv).run P w = .ok v w ∧ Rep g w.heap v (tv.itp (rlen s.objs)) := by
  unfold evRV at h
  split at h
  · rename_i t
    split at h <;> try (cases h; done)
    rename_i hj
    cases h
    refine ⟨a.tmps.getD t undef, by simp [resSem], ?_⟩
    rw [← hM.slot t (not_junk hj)]
    exact hR.slot t
  · rename_i t T
    split at h <;> try (cases h; done)
    rename_i id j hs
    split at h <;> try (cases h; done)
    rename_i l fz hob
    split at h <;> try (cases h; done)
    rename_i u hu
    have hx : σ.slot t = .ref id 0 j := by rw [hM.slot t (by rw [hs]; simp), hs]; rfl
    have eo := hM.obj_cells hob
    have h1 := hR.slot t
    rw [hx] at h1
    obtain ⟨b, hb, he⟩ := rep_ref h1
    have hO := hR.ob id _ eo
    obtain ⟨d, hd, hdr⟩ := (hX.tab T u hu).und
    have he' : a.tmps[t]?.getD undef = .pointer (some ⟨b, g.o0 id + (0 * g.mm id + j), none⟩) := by rw [← Array.getD_eq_getD_getElem?]; exact he
    split at h
    · rename_i hrow
      split at h <;> try (cases h; done)
      rename_i hlen
      cases h
      obtain ⟨vs, hvs, hra⟩ := range_vals (cells := itpL (rlen s.objs) ((l.drop j).take u.size)) (b := b) (off := g.o0 id + 0 * g.mm id) (itpL (rlen s.objs) ((l.drop j).take u.size)) j fun k sv hk => by
        rw [← itpL_cut] at hk
        have := hO.cellAt hb (i := 0) rfl (take_get hk)
        rwa [← Nat.add_assoc] at this
      have hm := run_loadVar_mid (P := P) w b (g.o0 id + 0 * g.mm id + j) T vs d hra hd (by rw [hdr, hrow]) (by rw [(hX.tab T u hu).sz, hvs.length, itpL_len, hlen])
      rw [Nat.add_assoc] at hm
      refine ⟨.agg vs.toArray, ?_, .agg (by simpa using hvs)⟩
      simp only [Nat.zero_mul, Nat.zero_add] at he' hm
      simp [resSem, he', asAddr, Sem.run_bind, hm]
    · rename_i hrow
      obtain ⟨y, hy, hRy⟩ := hO.cellAt hb (i := 0) rfl (j := j) (by rw [itpL_get, h]; rfl)
      refine ⟨y, ?_, hRy⟩
      have hagg : (isAgg T).run P w = .ok false w := by
        unfold isAgg
        rw [Sem.run_bind, run_underlying hd w]
        have : d.isRow = false := by rw [hdr, hrow]
        cases d <;> simp_all
      simp only [Nat.zero_mul, Nat.zero_add] at he' hy
      simp [resSem, he', asAddr, Sem.run_bind, loadVar, hagg, load, Sem.run, hy]
def evRVs (X : Cx) (s : TS X.U) : List ResultVar → Option (List (TV X.U))
  | [] => some []
  | rv :: l => match evRV X s rv, evRVs X s l with
    | some x, some r => some (x :: r)
    | _, _ => none
theorem evRVs_ok (hX : CxOk P X) {s : TS X.U} {σ : St} (hM : M s σ) {f : Fr} {g : Gh} {a : Act} {w : World} (hR : Rel f g σ a w) : ∀ {l : List ResultVar} {tvs : List (TV X.U)}, evRVs X s l = some tvs →
    ∃ vs : List Value, l.length = vs.length ∧ (∀ (i : Nat) (r : ResultVar) (v : Value), l[i]? = some r → vs[i]? = some v → (resSem a.tmps r).run P w = .ok v w) ∧ RepL g w.heap vs (itpL (rlen s.objs) tvs)
  | [], tvs, h => by cases h; exact ⟨[], rfl, fun i r v h => by simp at h, .nil⟩
  | rv :: l, tvs, h => by
    unfold evRVs at h
    split at h <;> try (cases h; done)
    rename_i x r' hx hr
    cases h
    obtain ⟨v, h1, h2⟩ := evRV_ok hX hx hM hR
    obtain ⟨vs, k1, k2, k3⟩ := evRVs_ok hX hM hR hr
    refine ⟨v :: vs, by rw [List.length_cons, List.length_cons, k1], fun i r v' hr' hv' => ?_, .cons h2 k3⟩
    cases i with
    | zero => cases hr'; cases hv'; exact h1
    | succ i => exact k2 i r v' (by simpa using hr') (by simpa using hv')
def tupT {U : Univ} : List (TV U) → TV U
  | [x] => x
  | l => .tup l
/-- What a function's end leaves: rows that are handed back are never written again, unless they are to be one's own. -/
def evFin (X : Cx) (an : Ann) (rs : List ResultVar) (s : TS X.U) (k : List (TO X.U) → TV X.U → Option R) : Option R :=
  match evRVs X s rs with
  | none => none
  | some vs =>
    let s2 := match an.own with
      | true => s
      | false => frzs s (reach s.objs 1000 (idsL vs) [])
    match evRVs X s2 rs with
    | none => none
    | some vs2 => match norm 0 s2 [tupT vs2] with
      | some (s3, [tv]) => k s3.objs tv
      | _ => none
theorem evFin_path {an : Ann} {rs : List ResultVar} {s : TS X.U} {k : List (TO X.U) → TV X.U → Option R} (h : evFin X an rs s k = some r) : ∃ o v, k o v = some r ∧ ∀ {R' : Type} (k' : List (TO X.U) → TV X.U → Option R'), evFin X an rs s k' = k' o v := by
  unfold evFin at h
  split at h <;> try (cases h; done)
  rename_i vs hvs
  dsimp only at h
  split at h <;> try (cases h; done)
  rename_i vs2 hvs2
  split at h <;> try (cases h; done)
  rename_i s3 tv hn
  refine ⟨_, _, h, fun k' => ?_⟩
  unfold evFin
  simp only [hvs, hvs2, hn]
/-- A function, walked. -/
def evFn (X : Cx) (E : FuncId → Option (Spc X.U)) (an : Ann) (lp : Lp X.U) (fn : Func) (objs : List (TO X.U)) (args : List (TV X.U)) (k : List (TO X.U) → TV X.U → Option R) : Option R :=
  match fn.body, Nat.ble args.length fn.ntmps with
  | none, _ => none
  | _, false => none
  | some c, true => evC X E an lp c 0 ⟨args ++ List.replicate (fn.ntmps - args.length) .junk, objs, objs.length⟩ fun ex s => match ex with
    | .ret => evFin X an fn.results.toList s k
    | .normal => evFin X an fn.results.toList s k
    | _ => none
def specFn (X : Cx) (E : FuncId → Option (Spc X.U)) (an : Ann) (lp : Lp X.U) (fn : Func) : Spc X.U := ⟨fun objs args k => evFn X E an lp fn objs args k⟩
theorem evFn_path (hE : ∀ f S, E f = some S → SpecOk P f S) {an : Ann} {lp : Lp X.U} (hP : ∀ (b : Nat) (s : TS X.U) (R : Type) (K : Exit → TS X.U → Option R) (r : R), lp.F b s K = some r → ∃ ex s', K ex s' = some r ∧ ∀ {R' : Type} (K' : Exit → TS X.U → Option R'), lp.F b s K' = K' ex s') {fn : Func} {objs : List (TO X.U)} {args : List (TV X.U)} : PathF fun k => evFn X E an lp fn objs args k := by
  intro R k r h
  unfold evFn at h
  split at h <;> try (cases h; done)
  rename_i c hc hle
  obtain ⟨ex, s', hk, hp⟩ := evC_path hE hP h
  cases ex with
  | ret =>
    obtain ⟨o, v, hk2, hp2⟩ := evFin_path hk
    refine ⟨o, v, hk2, fun k' => ?_⟩
    show evFn X E an lp fn objs args k' = _
    unfold evFn
    simp only [hc, hle]
    rw [hp]
    exact hp2 k'
  | normal =>
    obtain ⟨o, v, hk2, hp2⟩ := evFin_path hk
    refine ⟨o, v, hk2, fun k' => ?_⟩
    show evFn X E an lp fn objs args k' = _
    unfold evFn
    simp only [hc, hle]
    rw [hp]
    exact hp2 k'
  | _ => cases hk
theorem getN_app {U : Univ} (args : List (TV U)) (n t : Nat) : getN (args ++ List.replicate n .junk) t = if t < args.length then getN args t else .junk := by
  unfold getN
  rw [nth_eq, nth_eq]
  by_cases h : t < args.length
  · rw [if_pos h, List.getElem?_append_left h]
  · rw [if_neg h, List.getElem?_append_right (by omega), List.getElem?_replicate]
    split <;> rfl
/-! ### What is so in any world -/
structure Wf {U : Univ} (s : TS U) : Prop where
  sb : ∀ t, (getN s.slots t).bel s.objs.length = true
  obb : ∀ id o, nth s.objs id = some o → o.bel s.objs.length = true
  hin : s.hin ≤ s.objs.length
theorem Wf.m {U : Univ} {s : TS U} (h : Wf s) : ∃ σ, M s σ := ⟨⟨fun t => (getN s.slots t).itp (rlen s.objs), fun j => match nth s.objs j with | some o => o.itp (rlen s.objs) | none => .never⟩,
  fun t _ => rfl, fun id o ho => by show (match nth s.objs id with | some o => o.itp (rlen s.objs) | none => OS.never) = _; rw [ho],
  fun id hid => by show (match nth s.objs id with | some o => o.itp (rlen s.objs) | none => OS.never) = _; rw [nth_eq, List.getElem?_eq_none hid], h.sb, h.obb⟩
theorem M.wf {s : TS X.U} {σ : St} (h : M s σ) (hin : s.hin ≤ s.objs.length) : Wf s := ⟨h.sb, h.obb, hin⟩
/-- As many handed in, each as long. -/
def Keeps {U : Univ} (s s' : TS U) : Prop := Wf s' ∧ s'.hin = s.hin ∧ ∀ i, i < s.hin → rlen s'.objs i = rlen s.objs i
theorem Keeps.trans {U : Univ} {s s1 s2 : TS U} (h1 : Keeps s s1) (h2 : Keeps s1 s2) : Keeps s s2 := ⟨h2.1, h2.2.1.trans h1.2.1, fun i hi => (h2.2.2 i (by rw [h1.2.1]; exact hi)).trans (h1.2.2 i hi)⟩
theorem Keeps.refl {U : Univ} {s : TS U} (h : Wf s) : Keeps s s := ⟨h, rfl, fun _ _ => rfl⟩
theorem frzOne_keeps {s : TS X.U} (h : Wf s) (id : Nat) : Keeps s (frzOne s id) := by
  unfold frzOne
  split
  case h_2 => exact .refl h
  case h_1 c xs hob =>
  have hlt := nth_lt hob
  have hlen : (setN (s.objs.map (TO.fz id c xs)) id (.row c xs true)).length = s.objs.length := by rw [setN_eq, List.length_set, List.length_map]
  have hnth : ∀ i, nth (setN (s.objs.map (TO.fz id c xs)) id (.row c xs true)) i = if i = id then some (.row c xs true) else (nth s.objs i).map (TO.fz id c xs) := fun i => by
    rw [nth_eq, setN_eq, List.getElem?_set, nth_eq]
    by_cases e : i = id
    · subst e
      rw [if_pos rfl, if_pos rfl, if_pos (by rw [List.length_map]; exact hlt)]
    · rw [if_neg (Ne.symm e), if_neg e, List.getElem?_map]
  refine ⟨⟨fun t => ?_, fun i o ho => ?_, by show s.hin ≤ (setN _ _ _).length; rw [hlen]; exact h.hin⟩, rfl, fun i hi => ?_⟩
  · show (getN (s.slots.map (TV.fz id c xs)) t).bel (setN (s.objs.map (TO.fz id c xs)) id (.row c xs true)).length = true
    have hget : getN (s.slots.map (TV.fz id c xs)) t = (getN s.slots t).fz id c xs := by
      unfold getN
      rw [nth_eq, nth_eq, List.getElem?_map]
      cases s.slots[t]? <;> rfl
    rw [hget, hlen]
    exact fz_all (h.sb t)
  · show o.bel (setN (s.objs.map (TO.fz id c xs)) id (.row c xs true)).length = true
    have ho : nth (setN (s.objs.map (TO.fz id c xs)) id (.row c xs true)) i = some o := ho
    rw [hlen]
    rw [hnth] at ho
    by_cases e : i = id
    · rw [if_pos e] at ho; cases ho; rfl
    · rw [if_neg e] at ho
      obtain ⟨p, hp, rfl⟩ := Option.map_eq_some_iff.1 ho
      have := h.obb i p hp
      cases p with
      | cells l z => exact fzL_all this
      | dead n => rfl
      | row c' ys z => rfl
  · show rlen (setN (s.objs.map (TO.fz id c xs)) id (.row c xs true)) i = _
    unfold rlen
    rw [hnth]
    by_cases e : i = id
    · subst e; rw [if_pos rfl, hob]; rfl
    · rw [if_neg e]
      cases nth s.objs i with
      | none => rfl
      | some o => cases o <;> rfl
theorem frzs_keeps : ∀ (ids : List Nat) {s : TS X.U}, Wf s → Keeps s (frzs s ids)
  | [], s, h => .refl h
  | id :: l, s, h => (frzOne_keeps h id).trans (frzs_keeps l (frzOne_keeps h id).1)
theorem norm_keeps {U : Univ} {mask : Nat} {s s1 : TS U} {xs xs1 : List (TV U)} (hn : norm mask s xs = some (s1, xs1)) : Keeps s s1 ∧ allL (fun i => decide (i < s1.objs.length)) xs1 = true := by
  unfold norm at hn
  split at hn <;> try (cases hn; done)
  rename_i ho hho
  dsimp only at hn
  generalize hids : reach s.objs 1000 (flatIds ho ++ idsL (maskL mask 0 s.slots) ++ idsL xs) (upTo 0 s.hin) = ids at hn
  split at hn <;> try (cases hn; done)
  rename_i os hos
  split at hn <;> try (cases hn; done)
  rename_i hchk
  simp only [Bool.and_eq_true] at hchk
  obtain ⟨⟨⟨⟨c1, c2⟩, c3⟩, c4⟩, c5⟩ := hchk
  cases hn
  obtain ⟨hol, hoget⟩ := objsAt_ok hos
  have hpre : ∀ j, j < s.hin → ids[j]? = some j := fun j hj => by
    have h := congrArg (fun l => l[j]?) (eqN_ok c5)
    rw [upTo_eq, ← List.range_eq_range'] at h
    have h : (ids.take s.hin)[j]? = (List.range s.hin)[j]? := h
    rw [List.getElem?_take, if_pos hj, List.getElem?_range hj] at h
    exact h
  have hidx : ∀ i, memN i ids = true → decide (idxN i ids < ids.length) = true := fun i hi => decide_eq_true (idxN_get (memN_iff.1 hi)).2
  have hlen : (os.map (TO.ren fun i => idxN i ids)).length = ids.length := by rw [List.length_map, hol]
  refine ⟨⟨⟨fun t => ?_, fun i o ho => ?_, ?_⟩, rfl, fun i hi => ?_⟩, ?_⟩
  · show (getN (tenL (fun i => idxN i ids) (maskL mask 0 s.slots)) t).bel (os.map (TO.ren fun i => idxN i ids)).length = true
    rw [getN_ten, hlen]
    refine ren_all hidx ?_
    unfold getN
    rw [nth_eq]
    cases hq : (maskL mask 0 s.slots)[t]? with
    | none => rfl
    | some x =>
      rw [allL_all] at c2
      exact List.all_eq_true.1 c2 x (List.mem_of_getElem? hq)
  · have ho : nth (os.map (TO.ren fun i => idxN i ids)) i = some o := ho
    show o.bel (os.map (TO.ren fun i => idxN i ids)).length = true
    rw [hlen]
    rw [nth_eq, List.getElem?_map] at ho
    obtain ⟨x, hx, rfl⟩ := Option.map_eq_some_iff.1 ho
    rw [TO.bel_all]
    exact TO.ren_all hidx (List.all_eq_true.1 c4 x (List.mem_of_getElem? hx))
  · show s.hin ≤ (os.map (TO.ren fun i => idxN i ids)).length
    rw [hlen]
    rcases Nat.eq_zero_or_pos s.hin with h0 | h0
    · omega
    · have := (List.getElem?_eq_some_iff.1 (hpre (s.hin - 1) (by omega))).1
      omega
  · show rlen (os.map (TO.ren fun i => idxN i ids)) i = _
    obtain ⟨x, hx, hx2⟩ := hoget i i (hpre i hi)
    unfold rlen
    rw [nth_eq, List.getElem?_map, hx, hx2]
    exact TO.ren_rlen _ x
  · show allL (fun i => decide (i < (os.map (TO.ren fun i => idxN i ids)).length)) _ = true
    rw [hlen]
    exact tenL_all hidx c3
theorem evNorm_keeps {U : Univ} {X : Cx} {mask : Nat} {s s1 : TS X.U} (hn : evNorm mask s = some s1) : Keeps s s1 := by
  unfold evNorm at hn
  split at hn <;> try (cases hn; done)
  rename_i s2 xs2 hs2
  cases hn
  exact (norm_keeps hs2).1
theorem evReg_keeps (hX : CxOk P X) (hE : ∀ f S, E f = some S → SpecOk P f S) {ops : Array Oper} {dr : Bool} {s : TS X.U} (hw : Wf s) {k : TS X.U → Option R} (h : evReg X E ops dr s k = some r) : ∃ s', k s' = some r ∧ Keeps s s' := by
  obtain ⟨σ, hM⟩ := hw.m
  unfold evReg at h
  obtain ⟨l, s', σ', hc, hM', hk, e1, e2, e3⟩ := evOps_ok hX hE (i := 0) h hM
  have hK : Keeps s s' := ⟨hM'.wf (by have := hw.hin; omega), e1, fun i hi => e3 i (Nat.lt_of_lt_of_le hi hw.hin)⟩
  cases dr with
  | false => exact ⟨s', hk, hK⟩
  | true =>
    dsimp only at hk
    split at hk <;> try (cases hk; done)
    exact ⟨s', hk, hK⟩
theorem refineS_keeps {U : Univ} {s : TS U} (hw : Wf s) (c : Operand) (b : Bool) : Keeps s (refineS s c b) := by
  cases c with
  | tmp t =>
    refine ⟨⟨fun i => ?_, hw.obb, hw.hin⟩, rfl, fun _ _ => rfl⟩
    show (getN (setN s.slots t (.v (.bool b))) i).bel _ = true
    rw [getN_set]
    split
    · rfl
    · exact hw.sb i
  | _ => exact .refl hw
theorem evC_keeps (hX : CxOk P X) (hE : ∀ f S, E f = some S → SpecOk P f S) {an : Ann} {lp : Lp X.U} : ∀ {c : Code} {R : Type} {r : R} {b : Nat} {s : TS X.U} {K : Exit → TS X.U → Option R}, LpOk X E an lp (loops c b) → Wf s → evC X E an lp c b s K = some r → ∃ ex s', K ex s' = some r ∧ Keeps s s' := by
  intro c
  induction c with
  | skip => intro R r b s K hL hw h; exact ⟨_, _, h, .refl hw⟩
  | exit id => intro R r b s K hL hw h; exact ⟨_, _, h, .refl hw⟩
  | ret => intro R r b s K hL hw h; exact ⟨_, _, h, .refl hw⟩
  | region id ops dr =>
    intro R r b s K hL hw h
    have hf := frzs_keeps (fzIds s (an.fz id)) hw
    obtain ⟨s', hk, hK⟩ := evReg_keeps hX hE hf.1 h
    refine ⟨_, _, hk, (hf.trans hK).trans ?_⟩
    unfold cutS
    split
    · exact .refl hK.1
    · split
      · rename_i hn; exact evNorm_keeps (U := X.U) hn
      · exact .refl hK.1
  | seq x y ihx ihy =>
    intro R r b s K hL hw h
    obtain ⟨ex, s', hk, hK⟩ := ihx (hL.mono fun q hq => List.mem_append_left _ hq) hw h
    cases ex with
    | normal =>
      obtain ⟨ex2, s2, hk2, hK2⟩ := ihy (hL.mono fun q hq => List.mem_append_right _ hq) hK.1 hk
      exact ⟨ex2, s2, hk2, hK.trans hK2⟩
    | _ => exact ⟨_, s', hk, hK⟩
  | cond c x y ihx ihy =>
    intro R r b s K hL hw h
    unfold evC at h
    split at h <;> try (cases h; done)
    rename_i p hc
    cases p with
    | true =>
      obtain ⟨ex, s', hk, hK⟩ := ihx (hL.mono fun q hq => List.mem_append_left _ hq) (refineS_keeps hw c true).1 h
      exact ⟨ex, s', hk, (refineS_keeps hw c true).trans hK⟩
    | false =>
      obtain ⟨ex, s', hk, hK⟩ := ihy (hL.mono fun q hq => List.mem_append_right _ hq) (refineS_keeps hw c false).1 h
      exact ⟨ex, s', hk, (refineS_keeps hw c false).trans hK⟩
  | block id x ih =>
    intro R r b s K hL hw h
    obtain ⟨ex, s', hk, hK⟩ := ih hL hw h
    cases ex with
    | exit i =>
      dsimp only at hk
      split at hk
      · exact ⟨_, s', hk, hK⟩
      · exact ⟨_, s', hk, hK⟩
    | _ => exact ⟨_, s', hk, hK⟩
  | loop x ih =>
    intro R r b s K hL hw h
    unfold evC at h
    split at h <;> try (cases h; done)
    rename_i s1 hs1
    obtain ⟨ex0, s0, hk, hpk⟩ := hL.2 _ _ _ _ _ h
    obtain ⟨p, hpe⟩ : ∃ p : Exit × TS X.U, p = (ex0, s0) := ⟨_, rfl⟩
    obtain ⟨N, hN⟩ := hL.1 (b, x) List.mem_cons_self s1 p (by rw [hpk, hpe])
    have hk : K p.1 p.2 = some r := by rw [hpe]; exact hk
    have key : ∀ (n : Nat) (s1 : TS X.U), Wf s1 → loopR (an.live b) (an.out b) (fun s K => evC X E an lp x b s K) n s1 = some p → Keeps s1 p.2 := by
      intro n
      induction n with
      | zero => intro s1 _ h; cases h
      | succ n ihn =>
        intro s1 hw1 h
        obtain ⟨ex, s', hk, hK⟩ := ih (hL.mono fun q hq => List.mem_cons_of_mem _ hq) hw1 h
        cases ex with
        | normal =>
          dsimp only at hk
          split at hk <;> try (cases hk; done)
          rename_i s2 hs2
          have hn := evNorm_keeps (U := X.U) hs2
          exact (hK.trans hn).trans (ihn s2 hn.1 hk)
        | _ =>
          dsimp only at hk
          split at hk <;> try (cases hk; done)
          rename_i s2 hs2
          cases hk
          exact hK.trans (evNorm_keeps (U := X.U) hs2)
    have hn := evNorm_keeps (U := X.U) hs1
    exact ⟨_, _, hk, hn.trans (key N s1 hn.1 hN)⟩
  | _ => intro R r b s K hL hw h; cases h
theorem evFin_keeps {an : Ann} {rs : List ResultVar} {s : TS X.U} (hw : Wf s) {o : List (TO X.U)} {v : TV X.U} (h : evFin X an rs s (fun o v => some (o, v)) = some (o, v)) : s.hin ≤ o.length ∧ (∀ i, i < s.hin → rlen o i = rlen s.objs i) ∧ v.bel o.length = true ∧ (o.all fun x => x.bel o.length) = true := by
  unfold evFin at h
  split at h <;> try (cases h; done)
  rename_i vs hvs
  dsimp only at h
  split at h <;> try (cases h; done)
  rename_i vs2 hvs2
  split at h <;> try (cases h; done)
  rename_i s3 tv hn
  cases h
  have h1 : Keeps s (match an.own with | true => s | false => frzs s (reach s.objs 1000 (idsL vs) [])) := by
    cases an.own
    · exact frzs_keeps _ hw
    · exact .refl hw
  obtain ⟨h2, h3⟩ := norm_keeps hn
  have h4 := h1.trans h2
  have h3 : (v.all (fun i => decide (i < s3.objs.length)) && true) = true := h3
  rw [Bool.and_true] at h3
  refine ⟨by rw [← h4.2.1]; exact h4.1.hin, h4.2.2, h3, List.all_eq_true.2 fun x hx => ?_⟩
  obtain ⟨i, hi⟩ := List.mem_iff_getElem?.1 hx
  exact h4.1.obb i x (by rw [nth_eq]; exact hi)
theorem init_m (hX : CxOk P X) {objs : List (TO X.U)} {args : List (TV X.U)} {n : Nat} (hab : belL objs.length args = true) (hob : (objs.all fun x => x.bel objs.length) = true) (hal : objs.all TO.alive = true) :
    M ⟨args ++ List.replicate n .junk, objs, objs.length⟩ (StH (objs.map (TO.ob (rlen objs))) (itpL (rlen objs) args)) := by
  refine ⟨fun t ht => ?_, fun id o ho => ?_, fun id hid => ?_, fun t => ?_, fun id o ho => ?_⟩
  · have ht : getN (args ++ List.replicate n .junk) t ≠ .junk := ht
    show (itpL (rlen objs) args).getD t (.v undef) = (getN (args ++ List.replicate n .junk) t).itp (rlen objs)
    rw [getN_app] at ht ⊢
    by_cases h : t < args.length
    · rw [if_pos h]
      rw [List.getD_eq_getElem?_getD, itpL_get]
      unfold getN
      rw [nth_eq, List.getElem?_eq_getElem h]
      rfl
    · rw [if_neg h] at ht
      exact absurd rfl ht
  · show (match (objs.map (TO.ob (rlen objs)))[id]? with | some o => OS.ob o | none => .never) = _
    have ho : nth objs id = some o := ho
    rw [nth_eq] at ho
    rw [List.getElem?_map, ho]
    exact (TO.itp_ob (List.all_eq_true.1 hal o (List.mem_of_getElem? ho))).symm
  · show (match (objs.map (TO.ob (rlen objs)))[id]? with | some o => OS.ob o | none => .never) = _
    have hid : objs.length ≤ id := hid
    rw [List.getElem?_eq_none (by rw [List.length_map]; exact hid)]
  · show (getN (args ++ List.replicate n .junk) t).bel objs.length = true
    rw [getN_app]
    split
    · unfold getN
      rw [nth_eq]
      cases hq : args[t]? with
      | none => rfl
      | some x =>
        rw [belL_all] at hab
        exact List.all_eq_true.1 hab x (List.mem_of_getElem? hq)
    · rfl
  · have ho : nth objs id = some o := ho
    rw [nth_eq] at ho
    exact List.all_eq_true.1 hob o (List.mem_of_getElem? ho)
theorem init_r {objs : List Ob} {args : List SV} {fn : Func} {g : Gh} {w : World} {vs : List Value} (hp : HPre objs g w) (hrep : RepL g w.heap vs args) (hn : args.length ≤ fn.ntmps) :
    Rel ⟨w, HWr objs g, g.F, fn.ntmps, g⟩ g (StH objs args) { tmps := vs.toArray ++ Array.replicate (fn.ntmps - vs.toArray.size) undef, defers := [] } w := by
  have hvl := hrep.length
  have hob : ∀ i o, (StH objs args).obj i = .ob o → objs[i]? = some o := fun i o ho => by
    have ho : (match objs[i]? with | some o => OS.ob o | none => .never) = .ob o := ho
    cases hi : objs[i]? with
    | none => rw [hi] at ho; cases ho
    | some p => rw [hi] at ho; cases ho; rfl
  refine { slot := fun t => ?_, size := by simp; omega, defers := rfl, never := fun i hi => hp.never i ?_, ob := fun i o ho => hp.ob i o (hob i o ho), inj := fun i j o o' b ho ho' => hp.inj i j o o' b (hob i o ho) (hob j o' ho'), own := fun i o b ho hz hb => .inr ⟨i, o, hob i o ho, hz, hb⟩, base := fun _ _ _ => rfl, hsize := Nat.le_refl _, F0 := fun _ h => h, Fold := fun _ h _ => .inl h, Flt := hp.Flt, os := rfl, tape := rfl, output := rfl, gext := fun _ _ h => ⟨h, rfl, rfl⟩, kept := fun b cs T fr h => ⟨cs, fr, h, rfl⟩, tb := hp.tb }
  · show Rep _ _ _ (args.getD t (.v undef))
    by_cases ht : t < args.length
    · obtain ⟨x, hx, hR⟩ := hrep.get t args[t] (List.getElem?_eq_getElem ht)
      have : (vs.toArray ++ Array.replicate (fn.ntmps - vs.toArray.size) undef).getD t undef = x := by
        rw [Array.getD_eq_getD_getElem?, Array.getElem?_append_left (by simp; omega)]
        simp [hx]
      rw [this, List.getD_eq_getElem?_getD, List.getElem?_eq_getElem ht]
      exact hR
    · have : (vs.toArray ++ Array.replicate (fn.ntmps - vs.toArray.size) undef).getD t undef = undef := by
        rw [Array.getD_eq_getD_getElem?, Array.getElem?_append_right (by simp; omega), Array.getElem?_replicate]
        split <;> rfl
      rw [this, List.getD_eq_getElem?_getD, List.getElem?_eq_none (by omega)]
      exact .v _
  · have hi : (match objs[i]? with | some o => OS.ob o | none => .never) = .never := hi
    cases hq : objs[i]? with
    | none => exact List.getElem?_eq_none_iff.1 hq
    | some p => rw [hq] at hi; cases hi
theorem rep_tup {g : Gh} {H : Array Go.Obj} {rl : Nat → Nat} {vs : List Value} {tvs : List (TV X.U)} (h : RepL g H vs (itpL rl tvs)) : Rep g H (tupV vs) ((tupT tvs).itp rl) := by
  have key : ∀ (vs : List Value) (tvs : List (TV X.U)), RepL g H vs (itpL rl tvs) → vs.length ≠ 1 → tupV vs = .tuple vs.toArray ∧ tupT tvs = .tup tvs := fun vs tvs h hn => by
    have hl := h.length
    rw [itpL_len] at hl
    match vs, tvs, hl, hn with
    | [], [], _, _ => exact ⟨rfl, rfl⟩
    | _ :: _ :: _, _ :: _ :: _, _, _ => exact ⟨rfl, rfl⟩
  by_cases hn : vs.length = 1
  · have hl := h.length
    rw [itpL_len] at hl
    match vs, tvs, hl, hn, h with
    | [v], [tv], _, _, h =>
      have h : RepL g H [v] (tv.itp rl :: []) := h
      cases h with
      | cons h t => exact h
  · obtain ⟨e1, e2⟩ := key vs tvs h hn
    rw [e1, e2]
    exact .tup (by simpa using h)
/-- WHAT IS WALKED IS SO. -/
theorem specFn_ok (hX : CxOk P X) (hm : P.follows .mixedOrders = true) (hE : ∀ f S, E f = some S → SpecOk P f S) (an : Ann) (lp : Lp X.U) {fid : FuncId} {fn : Func} (hf : P.funcs[fid]? = some fn) (hname : (fn.name == "runtime.NumGoroutine") = false) (hcode : (match fn.body with | some c => codeOk fn.ntmps c | none => false) = true)
    (hL : ∀ c, fn.body = some c → LpOk X E an lp (loops c 0)) : SpecOk P fid (specFn X E an lp fn) := by
  refine ⟨⟨fn, hf, hname, ?_⟩, fun objs args => ?_, fun objs args objs' res h hab hob hal => ?_⟩
  · cases hb : fn.body with
    | none => rw [hb] at hcode; cases hcode
    | some c => rfl
  · cases hb : fn.body with
    | none => rw [hb] at hcode; cases hcode
    | some c => exact evFn_path hE (hL c hb).2
  · have h : evFn X E an lp fn objs args (fun o v => some (o, v)) = some (objs', res) := h
    unfold evFn at h
    split at h <;> try (cases h; done)
    rename_i c hc hle
    rw [hc] at hcode
    have hM := init_m hX (n := fn.ntmps - args.length) hab hob hal
    obtain ⟨ex, s', hk, hK⟩ := evC_keeps hX hE (hL c hc) (hM.wf (Nat.le_refl _)) h
    have hstat : objs.length ≤ objs'.length ∧ (∀ i, i < objs.length → rlen objs' i = rlen objs i) ∧ res.bel objs'.length = true ∧ (objs'.all fun x => x.bel objs'.length) = true := by
      have key : evFin X an fn.results.toList s' (fun o v => some (o, v)) = some (objs', res) → _ := fun hk => by
        obtain ⟨q1, q2, q3, q4⟩ := evFin_keeps hK.1 hk
        rw [hK.2.1] at q1 q2
        exact (⟨q1, fun i hi => (q2 i hi).trans (hK.2.2 i hi), q3, q4⟩ : objs.length ≤ objs'.length ∧ (∀ i, i < objs.length → rlen objs' i = rlen objs i) ∧ res.bel objs'.length = true ∧ (objs'.all fun x => x.bel objs'.length) = true)
      cases ex with
      | ret => exact key hk
      | normal => exact key hk
      | _ => cases hk
    refine ⟨fun g w vs hp hrep => ?_, hstat⟩
    refine calls_of_wp hf hc ?_
    have hn : (itpL (rlen objs) args).length ≤ fn.ntmps := by rw [itpL_len]; exact Nat.le_of_ble_eq_true hle
    have hR := init_r hp hrep hn
    refine wp_mono (evC_ok hX hm hE (hL c hc) h hcode (f := ⟨w, HWr (objs.map (TO.ob (rlen objs))) g, g.F, fn.ntmps, g⟩) ⟨⟨_, hM, g, hR⟩, Nat.le_refl _, fun id b hb => ?_⟩ (Q := fun ex a' w' => (ex = .ret ∨ ex = .normal) ∧ ∃ s', TR ⟨w, HWr (objs.map (TO.ob (rlen objs))) g, g.F, fn.ntmps, g⟩ s' a' w' ∧ evFin X an fn.results.toList s' (fun o v => some (o, v)) = some (objs', res)) fun ex s' a' w' hk hT => ?_) fun ex a' w' ⟨hex, s', hT, hk⟩ => ?_
    · rcases Nat.lt_or_ge id objs.length with h1 | h1
      · exact h1
      · have h2 : g.β id = some b := hb
        rw [hp.never id (by rw [List.length_map]; exact h1)] at h2
        cases h2
    · cases ex with
      | ret => exact ⟨.inl rfl, s', hT, hk⟩
      | normal => exact ⟨.inr rfl, s', hT, hk⟩
      | _ => cases hk
    · unfold evFin at hk
      split at hk <;> try (cases hk; done)
      rename_i tvs htvs
      dsimp only at hk
      split at hk <;> try (cases hk; done)
      rename_i tvs2 htvs2
      split at hk <;> try (cases hk; done)
      rename_i s3 tv hn3
      cases hk
      have hT2 : TR ⟨w, HWr (objs.map (TO.ob (rlen objs))) g, g.F, fn.ntmps, g⟩ (match an.own with | true => s' | false => frzs s' (reach s'.objs 1000 (idsL tvs) [])) a' w' := by
        cases an.own
        · exact frzs_ok hX _ hT
        · exact hT
      generalize (match an.own with | true => s' | false => frzs s' (reach s'.objs 1000 (idsL tvs) [])) = s2 at *
      obtain ⟨⟨σ2, hM2, g2, hR2⟩, hin2, hg2⟩ := hT2
      obtain ⟨vs2, k1, k2, k3⟩ := evRVs_ok hX hM2 hR2 htvs2
      obtain ⟨g3, σ3, hR3, hM3, e1, e2, e3, e4⟩ := norm_ok hX.closed hn3 hM2 hR2 hin2 hg2
      obtain ⟨tv1, h1, h2⟩ := e4 0 _ _ rfl (rep_tup k3)
      cases h1
      have hobs : ∀ i o, (s3.objs.map (TO.itp (rlen s3.objs)))[i]? = some (OS.ob o) → σ3.obj i = .ob o := fun i o ho => by
        rw [List.getElem?_map] at ho
        obtain ⟨x, hx, e⟩ := Option.map_eq_some_iff.1 ho
        rw [hM3.ob i x (by rw [nth_eq]; exact hx), e]
      have hpost : HPost (objs.map (TO.ob (rlen objs))) (s3.objs.map (TO.itp (rlen s3.objs))) g g3 w w' :=
        { ob := fun i o ho => hR3.ob i o (hobs i o ho), inj := fun i j o o' b ho ho' => hR3.inj i j o o' b (hobs i o ho) (hobs j o' ho'), own := fun i o b ho => hR3.own i o b (hobs i o ho), base := hR3.base, hsize := hR3.hsize, F0 := hR3.F0, Fold := hR3.Fold, Flt := hR3.Flt, os := hR3.os, tape := hR3.tape, output := hR3.output, gext := hR3.gext, kept := hR3.kept }
      have hfin : a'.defers = [] ∧ ∃ v, (results fn a'.tmps).run P w' = .ok v w' ∧ ∃ v_1 g', Ending.returned v = .returned v_1 ∧ Rep g' w'.heap v_1 (res.itp (rlen s3.objs)) ∧ HPost (objs.map (TO.ob (rlen objs))) (s3.objs.map (TO.itp (rlen s3.objs))) g g' w w' :=
        ⟨hR3.defers, _, run_results k1 k2, _, g3, rfl, h2, hpost⟩
      rcases hex with rfl | rfl
      · exact hfin
      · exact hfin
end
end Go.Proofs.YtcbbpidnocgoiaaDoor.Eng

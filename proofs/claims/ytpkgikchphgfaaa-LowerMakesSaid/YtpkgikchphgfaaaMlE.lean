/- Texts of this claim, put together: part 5. -/
import Derived.Laws.Sem
import Derived.Test.YtpkgikchphgfaaaProg
import Derived.Test.YtpkgikchphgfaaaMlD
/- Functions: what they come to. -/
namespace Go.Proofs.Ytpkgikchphgfaaa.Eng
open Go Go.RowKit
set_option linter.unusedVariables false
set_option linter.unusedSimpArgs false
def resSem (tmps : Array Value) : ResultVar → Sem Value
  | .tmp t => pure (tmps.getD t undef)
  | .cell a t => do loadVar t (← asAddr (tmps.getD a undef))
theorem run_listM {P : Program} {w : World} {f : ResultVar → Sem Value} : ∀ {l : List ResultVar} {vs : List Value}, l.length = vs.length → (∀ (i : Nat) (r : ResultVar) (v : Value), l[i]? = some r → vs[i]? = some v → (f r).run P w = .ok v w) → (l.mapM f).run P w = .ok vs w
  | [], [], _, _ => by simp
  | r :: l, v :: vs, hl, h => by
    have h0 := h 0 r v rfl rfl
    have ih := run_listM (f := f) (l := l) (vs := vs) (by simpa using hl) fun i r v h1 h2 => h (i + 1) r v (by simpa using h1) (by simpa using h2)
    simp only [List.mapM_cons, Sem.run_bind, h0, Result.andThen_ok, ih]
    simp
  | [], _ :: _, h, _ => by cases h
  | _ :: _, [], h, _ => by cases h
def tupV : List Value → Value
  | [x] => x
  | l => .tuple l.toArray
theorem run_results {P : Program} {w : World} {fn : Func} {tmps : Array Value} {vs : List Value} (hl : fn.results.toList.length = vs.length) (h : ∀ (i : Nat) (r : ResultVar) (v : Value), fn.results.toList[i]? = some r → vs[i]? = some v → (resSem tmps r).run P w = .ok v w) :
    (results fn tmps).run P w = .ok (tupV vs) w := by
  have hm := run_listM (f := resSem tmps) hl h
  have he : (fn.results.mapM (resSem tmps)).run P w = .ok vs.toArray w := by
    rw [Array.mapM_eq_mapM_toList]
    rw [map_eq_pure_bind, Sem.run_bind, hm]
    rfl
  have hr : results fn tmps = (do
      let vs ← fn.results.mapM (resSem tmps)
      pure (if h : vs.size = 1 then vs[0] else .tuple vs)) := rfl
  rw [hr, Sem.run_bind, he, Result.andThen_ok]
  clear hm he hr h hl
  match vs with
  | [] => rfl
  | [x] => rfl
  | x :: y :: l => simp [tupV]
section
variable {P : Program} {X : Cx} {E : FuncId → Option (Spc X.U)} {R : Type} {r : R}
def evRV (X : Cx) (s : TS X.U) : ResultVar → Option (TV X.U)
  | .tmp t => match (getN s.slots t).isJunk with
    | true => none
    | false => some (getN s.slots t)
  | .cell t T => match getN s.slots t with
    | .ref id 0 j => match nth s.objs id with
      | some (.cells l _) => match X.tt T with
        | some u => match u.row with
          | true => if ((l.drop j).take u.size).length = u.size then some (.agg ((l.drop j).take u.size)) else none
          | false => nth l j
        | none => none
      | _ => none
    | _ => none
theorem evRV_ok (hX : CxOk P X) {s : TS X.U} {rv : ResultVar} {tv : TV X.U} (h : evRV X s rv = some tv) {σ : St} (hM : M s σ) {f : Fr} {g : Gh} {a : Act} {w : World} (hR : Rel f g σ a w) : ∃ v, (resSem a.tmps rv).run P w = .ok v w ∧ Rep g w.heap v (tv.itp (rlen s.objs)) := by
  unfold evRV at h
  split at h
  · rename_i t
    split at h <;> try (cases h; done)
    rename_i hj
    cases h
    refine ⟨a.tmps.getD t undef, by simp [resSem], ?_⟩
    rw [← hM.slot t (not_junk hj)]
    exact hR.slot t
  · rename_i t T
    split at h <;> try (cases h; done)
    rename_i id j hs
    split at h <;> try (cases h; done)
    rename_i l fz hob
    split at h <;> try (cases h; done)
    rename_i u hu
    have hx : σ.slot t = .ref id 0 j := by rw [hM.slot t (by rw [hs]; simp), hs]; rfl
    have eo := hM.obj_cells hob
    have h1 := hR.slot t
    rw [hx] at h1
    obtain ⟨b, hb, he⟩ := rep_ref h1
    have hO := hR.ob id _ eo
    obtain ⟨d, hd, hdr⟩ := (hX.tab T u hu).und
    have he' : a.tmps[t]?.getD undef = .pointer (some ⟨b, g.o0 id + (0 * g.mm id + j), none⟩) := by rw [← Array.getD_eq_getD_getElem?]; exact he
    split at h
    · rename_i hrow
      split at h <;> try (cases h; done)
      rename_i hlen
      cases h
      obtain ⟨vs, hvs, hra⟩ := range_vals (cells := itpL (rlen s.objs) ((l.drop j).take u.size)) (b := b) (off := g.o0 id + 0 * g.mm id) (itpL (rlen s.objs) ((l.drop j).take u.size)) j fun k sv hk => by
        rw [← itpL_cut] at hk
        have := hO.cellAt hb (rep_refH h1 hb) (i := 0) rfl (take_get hk)
        rwa [← Nat.add_assoc] at this
      have hm := run_loadVar_mid (P := P) w b (g.o0 id + 0 * g.mm id + j) T vs d hra hd (by rw [hdr, hrow]) (by rw [(hX.tab T u hu).sz, hvs.length, itpL_len, hlen])
      rw [Nat.add_assoc] at hm
      refine ⟨.agg vs.toArray, ?_, .agg (by simpa using hvs)⟩
      simp only [Nat.zero_mul, Nat.zero_add] at he' hm
      simp [resSem, he', asAddr, Sem.run_bind, hm]
    · rename_i hrow
      obtain ⟨y, hy, hRy⟩ := hO.cellAt hb (rep_refH h1 hb) (i := 0) rfl (j := j) (by rw [itpL_get, h]; rfl)
      refine ⟨y, ?_, hRy⟩
      have hagg : (isAgg T).run P w = .ok false w := by
        unfold isAgg
        rw [Sem.run_bind, run_underlying hd w]
        have : d.isRow = false := by rw [hdr, hrow]
        cases d <;> simp_all
      simp only [Nat.zero_mul, Nat.zero_add] at he' hy
      simp [resSem, he', asAddr, Sem.run_bind, loadVar, hagg, load, Sem.run, hy]
def evRVs (X : Cx) (s : TS X.U) : List ResultVar → Option (List (TV X.U))
  | [] => some []
  | rv :: l => match evRV X s rv, evRVs X s l with
    | some x, some r => some (x :: r)
    | _, _ => none
theorem evRVs_ok (hX : CxOk P X) {s : TS X.U} {σ : St} (hM : M s σ) {f : Fr} {g : Gh} {a : Act} {w : World} (hR : Rel f g σ a w) : ∀ {l : List ResultVar} {tvs : List (TV X.U)}, evRVs X s l = some tvs →
    ∃ vs : List Value, l.length = vs.length ∧ (∀ (i : Nat) (r : ResultVar) (v : Value), l[i]? = some r → vs[i]? = some v → (resSem a.tmps r).run P w = .ok v w) ∧ RepL g w.heap vs (itpL (rlen s.objs) tvs)
  | [], tvs, h => by cases h; exact ⟨[], rfl, fun i r v h => by simp at h, .nil⟩
  | rv :: l, tvs, h => by
    unfold evRVs at h
    split at h <;> try (cases h; done)
    rename_i x r' hx hr
    cases h
    obtain ⟨v, h1, h2⟩ := evRV_ok hX hx hM hR
    obtain ⟨vs, k1, k2, k3⟩ := evRVs_ok hX hM hR hr
    refine ⟨v :: vs, by rw [List.length_cons, List.length_cons, k1], fun i r v' hr' hv' => ?_, .cons h2 k3⟩
    cases i with
    | zero => cases hr'; cases hv'; exact h1
    | succ i => exact k2 i r v' (by simpa using hr') (by simpa using hv')
def tupT {U : Univ} : List (TV U) → TV U
  | [x] => x
  | l => .tup l
/-- What a function's end leaves: rows that are handed back are never written again, unless they are to be one's own. -/
def evFin (X : Cx) (an : Ann) (rs : List ResultVar) (s : TS X.U) (k : List (TO X.U) → TV X.U → Option R) : Option R :=
  match evRVs X s rs with
  | none => none
  | some vs =>
    let s2 := match an.own with
      | true => s
      | false => frzs s (reach s.objs 1000 (idsL vs) [])
    match evRVs X s2 rs with
    | none => none
    | some vs2 => match norm 0 s2 [tupT vs2] with
      | some (s3, [tv]) => k s3.objs tv
      | _ => none
theorem evFin_path {an : Ann} {rs : List ResultVar} {s : TS X.U} {k : List (TO X.U) → TV X.U → Option R} (h : evFin X an rs s k = some r) : ∃ o v, k o v = some r ∧ ∀ {R' : Type} (k' : List (TO X.U) → TV X.U → Option R'), evFin X an rs s k' = k' o v := by
  unfold evFin at h
  split at h <;> try (cases h; done)
  rename_i vs hvs
  dsimp only at h
  split at h <;> try (cases h; done)
  rename_i vs2 hvs2
  split at h <;> try (cases h; done)
  rename_i s3 tv hn
  refine ⟨_, _, h, fun k' => ?_⟩
  unfold evFin
  simp only [hvs, hvs2, hn]
/-- A function, walked. -/
def evFn (X : Cx) (E : FuncId → Option (Spc X.U)) (an : Ann) (lp : Lp X.U) (fn : Func) (objs : List (TO X.U)) (args : List (TV X.U)) (k : List (TO X.U) → TV X.U → Option R) : Option R :=
  match fn.body, Nat.ble args.length fn.ntmps with
  | none, _ => none
  | _, false => none
  | some c, true => evC X E an lp c 0 ⟨args ++ List.replicate (fn.ntmps - args.length) .junk, objs, objs.length⟩ fun ex s => match ex with
    | .ret => evFin X an fn.results.toList s k
    | .normal => evFin X an fn.results.toList s k
    | _ => none
def specFn (X : Cx) (E : FuncId → Option (Spc X.U)) (an : Ann) (lp : Lp X.U) (fn : Func) : Spc X.U := ⟨fun objs args k => evFn X E an lp fn objs args k⟩
theorem evFn_path (hE : ∀ f S, E f = some S → SpecOk P f S) {an : Ann} {lp : Lp X.U} (hP : ∀ (b : Nat) (s : TS X.U) (R : Type) (K : Exit → TS X.U → Option R) (r : R), lp.F b s K = some r → ∃ ex s', K ex s' = some r ∧ ∀ {R' : Type} (K' : Exit → TS X.U → Option R'), lp.F b s K' = K' ex s') {fn : Func} {objs : List (TO X.U)} {args : List (TV X.U)} : PathF fun k => evFn X E an lp fn objs args k := by
  intro R k r h
  unfold evFn at h
  split at h <;> try (cases h; done)
  rename_i c hc hle
  obtain ⟨ex, s', hk, hp⟩ := evC_path hE hP h
  cases ex with
  | ret =>
    obtain ⟨o, v, hk2, hp2⟩ := evFin_path hk
    refine ⟨o, v, hk2, fun k' => ?_⟩
    show evFn X E an lp fn objs args k' = _
    unfold evFn
    simp only [hc, hle]
    rw [hp]
    exact hp2 k'
  | normal =>
    obtain ⟨o, v, hk2, hp2⟩ := evFin_path hk
    refine ⟨o, v, hk2, fun k' => ?_⟩
    show evFn X E an lp fn objs args k' = _
    unfold evFn
    simp only [hc, hle]
    rw [hp]
    exact hp2 k'
  | _ => cases hk
theorem getN_app {U : Univ} (args : List (TV U)) (n t : Nat) : getN (args ++ List.replicate n .junk) t = if t < args.length then getN args t else .junk := by
  unfold getN
  rw [nth_eq, nth_eq]
  by_cases h : t < args.length
  · rw [if_pos h, List.getElem?_append_left h]
  · rw [if_neg h, List.getElem?_append_right (by omega), List.getElem?_replicate]
    split <;> rfl
/-! ### What is so in any world -/
structure Wf {U : Univ} (s : TS U) : Prop where
  sb : ∀ t, (getN s.slots t).bel s.objs.length = true
  obb : ∀ id o, nth s.objs id = some o → o.bel s.objs.length = true
  hin : s.hin ≤ s.objs.length
theorem Wf.m {U : Univ} {s : TS U} (h : Wf s) : ∃ σ, M s σ := ⟨⟨fun t => (getN s.slots t).itp (rlen s.objs), fun j => match nth s.objs j with | some o => o.itp (rlen s.objs) | none => .never⟩,
  fun t _ => rfl, fun id o ho => by show (match nth s.objs id with | some o => o.itp (rlen s.objs) | none => OS.never) = _; rw [ho],
  fun id hid => by show (match nth s.objs id with | some o => o.itp (rlen s.objs) | none => OS.never) = _; rw [nth_eq, List.getElem?_eq_none hid], h.sb, h.obb⟩
theorem M.wf {s : TS X.U} {σ : St} (h : M s σ) (hin : s.hin ≤ s.objs.length) : Wf s := ⟨h.sb, h.obb, hin⟩
/-- As many handed in, each as long. -/
def Keeps {U : Univ} (s s' : TS U) : Prop := Wf s' ∧ s'.hin = s.hin ∧ ∀ i, i < s.hin → rlen s'.objs i = rlen s.objs i
theorem Keeps.trans {U : Univ} {s s1 s2 : TS U} (h1 : Keeps s s1) (h2 : Keeps s1 s2) : Keeps s s2 := ⟨h2.1, h2.2.1.trans h1.2.1, fun i hi => (h2.2.2 i (by rw [h1.2.1]; exact hi)).trans (h1.2.2 i hi)⟩
theorem Keeps.refl {U : Univ} {s : TS U} (h : Wf s) : Keeps s s := ⟨h, rfl, fun _ _ => rfl⟩
theorem frzOne_keeps {s : TS X.U} (h : Wf s) (id : Nat) : Keeps s (frzOne s id) := by
  unfold frzOne
  split
  case h_2 => exact .refl h
  case h_1 c xs hob =>
  have hlt := nth_lt hob
  have hlen : (setN (s.objs.map (TO.fz id c xs)) id (.row c xs true)).length = s.objs.length := by rw [setN_eq, List.length_set, List.length_map]
  have hnth : ∀ i, nth (setN (s.objs.map (TO.fz id c xs)) id (.row c xs true)) i = if i = id then some (.row c xs true) else (nth s.objs i).map (TO.fz id c xs) := fun i => by
    rw [nth_eq, setN_eq, List.getElem?_set, nth_eq]
    by_cases e : i = id
    · subst e
      rw [if_pos rfl, if_pos rfl, if_pos (by rw [List.length_map]; exact hlt)]
    · rw [if_neg (Ne.symm e), if_neg e, List.getElem?_map]
  refine ⟨⟨fun t => ?_, fun i o ho => ?_, by show s.hin ≤ (setN _ _ _).length; rw [hlen]; exact h.hin⟩, rfl, fun i hi => ?_⟩
  · show (getN (s.slots.map (TV.fz id c xs)) t).bel (setN (s.objs.map (TO.fz id c xs)) id (.row c xs true)).length = true
    have hget : getN (s.slots.map (TV.fz id c xs)) t = (getN s.slots t).fz id c xs := by
      unfold getN
      rw [nth_eq, nth_eq, List.getElem?_map]
      cases s.slots[t]? <;> rfl
    rw [hget, hlen]
    exact fz_all (h.sb t)
  · show o.bel (setN (s.objs.map (TO.fz id c xs)) id (.row c xs true)).length = true
    have ho : nth (setN (s.objs.map (TO.fz id c xs)) id (.row c xs true)) i = some o := ho
    rw [hlen]
    rw [hnth] at ho
    by_cases e : i = id
    · rw [if_pos e] at ho; cases ho; rfl
    · rw [if_neg e] at ho
      obtain ⟨p, hp, rfl⟩ := Option.map_eq_some_iff.1 ho
      have := h.obb i p hp
      cases p with
      | cells l z => exact fzL_all this
      | dead n => rfl
      | row c' ys z => rfl
      | mp c' ys z => rfl
  · show rlen (setN (s.objs.map (TO.fz id c xs)) id (.row c xs true)) i = _
    unfold rlen
    rw [hnth]
    by_cases e : i = id
    · subst e; rw [if_pos rfl, hob]; rfl
    · rw [if_neg e]
      cases nth s.objs i with
      | none => rfl
      | some o => cases o <;> rfl
theorem frzs_keeps : ∀ (ids : List Nat) {s : TS X.U}, Wf s → Keeps s (frzs s ids)
  | [], s, h => .refl h
  | id :: l, s, h => (frzOne_keeps h id).trans (frzs_keeps l (frzOne_keeps h id).1)
theorem norm_keeps {U : Univ} {mask : Nat} {s s1 : TS U} {xs xs1 : List (TV U)} (hn : norm mask s xs = some (s1, xs1)) : Keeps s s1 ∧ allL (fun i => decide (i < s1.objs.length)) xs1 = true := by
  unfold norm at hn
  split at hn <;> try (cases hn; done)
  rename_i ho hho
  dsimp only at hn
  generalize hids : reach s.objs 1000 (flatIds ho ++ idsL (maskL mask 0 s.slots) ++ idsL xs) (upTo 0 s.hin) = ids at hn
  split at hn <;> try (cases hn; done)
  rename_i os hos
  split at hn <;> try (cases hn; done)
  rename_i hchk
  simp only [Bool.and_eq_true] at hchk
  obtain ⟨⟨⟨⟨c1, c2⟩, c3⟩, c4⟩, c5⟩ := hchk
  cases hn
  obtain ⟨hol, hoget⟩ := objsAt_ok hos
  have hpre : ∀ j, j < s.hin → ids[j]? = some j := fun j hj => by
    have h := congrArg (fun l => l[j]?) (eqN_ok c5)
    rw [upTo_eq, ← List.range_eq_range'] at h
    have h : (ids.take s.hin)[j]? = (List.range s.hin)[j]? := h
    rw [List.getElem?_take, if_pos hj, List.getElem?_range hj] at h
    exact h
  have hidx : ∀ i, memN i ids = true → decide (idxN i ids < ids.length) = true := fun i hi => decide_eq_true (idxN_get (memN_iff.1 hi)).2
  have hlen : (os.map (TO.ren fun i => idxN i ids)).length = ids.length := by rw [List.length_map, hol]
  refine ⟨⟨⟨fun t => ?_, fun i o ho => ?_, ?_⟩, rfl, fun i hi => ?_⟩, ?_⟩
  · show (getN (tenL (fun i => idxN i ids) (maskL mask 0 s.slots)) t).bel (os.map (TO.ren fun i => idxN i ids)).length = true
    rw [getN_ten, hlen]
    refine ren_all hidx ?_
    unfold getN
    rw [nth_eq]
    cases hq : (maskL mask 0 s.slots)[t]? with
    | none => rfl
    | some x =>
      rw [allL_all] at c2
      exact List.all_eq_true.1 c2 x (List.mem_of_getElem? hq)
  · have ho : nth (os.map (TO.ren fun i => idxN i ids)) i = some o := ho
    show o.bel (os.map (TO.ren fun i => idxN i ids)).length = true
    rw [hlen]
    rw [nth_eq, List.getElem?_map] at ho
    obtain ⟨x, hx, rfl⟩ := Option.map_eq_some_iff.1 ho
    rw [TO.bel_all]
    exact TO.ren_all hidx (List.all_eq_true.1 c4 x (List.mem_of_getElem? hx))
  · show s.hin ≤ (os.map (TO.ren fun i => idxN i ids)).length
    rw [hlen]
    rcases Nat.eq_zero_or_pos s.hin with h0 | h0
    · omega
    · have := (List.getElem?_eq_some_iff.1 (hpre (s.hin - 1) (by omega))).1
      omega
  · show rlen (os.map (TO.ren fun i => idxN i ids)) i = _
    obtain ⟨x, hx, hx2⟩ := hoget i i (hpre i hi)
    unfold rlen
    rw [nth_eq, List.getElem?_map, hx, hx2]
    exact TO.ren_rlen _ x
  · show allL (fun i => decide (i < (os.map (TO.ren fun i => idxN i ids)).length)) _ = true
    rw [hlen]
    exact tenL_all hidx c3
theorem evNorm_keeps {U : Univ} {X : Cx} {mask : Nat} {s s1 : TS X.U} (hn : evNorm mask s = some s1) : Keeps s s1 := by
  unfold evNorm at hn
  split at hn <;> try (cases hn; done)
  rename_i s2 xs2 hs2
  cases hn
  exact (norm_keeps hs2).1
theorem evReg_keeps (hX : CxOk P X) (hE : ∀ f S, E f = some S → SpecOk P f S) {ops : Array Oper} {dr : Bool} {s : TS X.U} (hw : Wf s) {k : TS X.U → Option R} (h : evReg X E ops dr s k = some r) : ∃ s', k s' = some r ∧ Keeps s s' := by
  obtain ⟨σ, hM⟩ := hw.m
  unfold evReg at h
  obtain ⟨l, s', σ', hc, hM', hk, e1, e2, e3⟩ := evOps_ok hX hE (i := 0) h hM
  have hK : Keeps s s' := ⟨hM'.wf (by have := hw.hin; omega), e1, fun i hi => e3 i (Nat.lt_of_lt_of_le hi hw.hin)⟩
  cases dr with
  | false => exact ⟨s', hk, hK⟩
  | true =>
    dsimp only at hk
    split at hk <;> try (cases hk; done)
    exact ⟨s', hk, hK⟩
theorem refineS_keeps {U : Univ} {s : TS U} (hw : Wf s) (c : Operand) (b : Bool) : Keeps s (refineS s c b) := by
  cases c with
  | tmp t =>
    refine ⟨⟨fun i => ?_, hw.obb, hw.hin⟩, rfl, fun _ _ => rfl⟩
    show (getN (setN s.slots t (.v (.bool b))) i).bel _ = true
    rw [getN_set]
    split
    · rfl
    · exact hw.sb i
  | _ => exact .refl hw
theorem evC_keeps (hX : CxOk P X) (hE : ∀ f S, E f = some S → SpecOk P f S) {an : Ann} {lp : Lp X.U} : ∀ {c : Code} {R : Type} {r : R} {b : Nat} {s : TS X.U} {K : Exit → TS X.U → Option R}, LpOk X E an lp (loops c b) → Wf s → evC X E an lp c b s K = some r → ∃ ex s', K ex s' = some r ∧ Keeps s s' := by
  intro c
  induction c with
  | skip => intro R r b s K hL hw h; exact ⟨_, _, h, .refl hw⟩
  | exit id => intro R r b s K hL hw h; exact ⟨_, _, h, .refl hw⟩
  | ret => intro R r b s K hL hw h; exact ⟨_, _, h, .refl hw⟩
  | region id ops dr =>
    intro R r b s K hL hw h
    have hf := frzs_keeps (fzIds s (an.fz id)) hw
    obtain ⟨s', hk, hK⟩ := evReg_keeps hX hE hf.1 h
    refine ⟨_, _, hk, (hf.trans hK).trans ?_⟩
    unfold cutS
    split
    · exact .refl hK.1
    · split
      · rename_i hn; exact evNorm_keeps (U := X.U) hn
      · exact .refl hK.1
  | seq x y ihx ihy =>
    intro R r b s K hL hw h
    obtain ⟨ex, s', hk, hK⟩ := ihx (hL.mono fun q hq => List.mem_append_left _ hq) hw h
    cases ex with
    | normal =>
      obtain ⟨ex2, s2, hk2, hK2⟩ := ihy (hL.mono fun q hq => List.mem_append_right _ hq) hK.1 hk
      exact ⟨ex2, s2, hk2, hK.trans hK2⟩
    | _ => exact ⟨_, s', hk, hK⟩
  | cond c x y ihx ihy =>
    intro R r b s K hL hw h
    unfold evC at h
    split at h <;> try (cases h; done)
    rename_i p hc
    cases p with
    | true =>
      obtain ⟨ex, s', hk, hK⟩ := ihx (hL.mono fun q hq => List.mem_append_left _ hq) (refineS_keeps hw c true).1 h
      exact ⟨ex, s', hk, (refineS_keeps hw c true).trans hK⟩
    | false =>
      obtain ⟨ex, s', hk, hK⟩ := ihy (hL.mono fun q hq => List.mem_append_right _ hq) (refineS_keeps hw c false).1 h
      exact ⟨ex, s', hk, (refineS_keeps hw c false).trans hK⟩
  | block id x ih =>
    intro R r b s K hL hw h
    obtain ⟨ex, s', hk, hK⟩ := ih hL hw h
    cases ex with
    | exit i =>
      dsimp only at hk
      split at hk
      · exact ⟨_, s', hk, hK⟩
      · exact ⟨_, s', hk, hK⟩
    | _ => exact ⟨_, s', hk, hK⟩
  | loop x ih =>
    intro R r b s K hL hw h
    unfold evC at h
    split at h <;> try (cases h; done)
    rename_i s1 hs1
    obtain ⟨ex0, s0, hk, hpk⟩ := hL.2 _ _ _ _ _ h
    obtain ⟨p, hpe⟩ : ∃ p : Exit × TS X.U, p = (ex0, s0) := ⟨_, rfl⟩
    obtain ⟨N, hN⟩ := hL.1 (b, x) List.mem_cons_self s1 p (by rw [hpk, hpe])
    have hk : K p.1 p.2 = some r := by rw [hpe]; exact hk
    have key : ∀ (n : Nat) (s1 : TS X.U), Wf s1 → loopR (an.live b) (an.out b) (fun s K => evC X E an lp x b s K) n s1 = some p → Keeps s1 p.2 := by
      intro n
      induction n with
      | zero => intro s1 _ h; cases h
      | succ n ihn =>
        intro s1 hw1 h
        obtain ⟨ex, s', hk, hK⟩ := ih (hL.mono fun q hq => List.mem_cons_of_mem _ hq) hw1 h
        cases ex with
        | normal =>
          dsimp only at hk
          split at hk <;> try (cases hk; done)
          rename_i s2 hs2
          have hn := evNorm_keeps (U := X.U) hs2
          exact (hK.trans hn).trans (ihn s2 hn.1 hk)
        | _ =>
          dsimp only at hk
          split at hk <;> try (cases hk; done)
          rename_i s2 hs2
          cases hk
          exact hK.trans (evNorm_keeps (U := X.U) hs2)
    have hn := evNorm_keeps (U := X.U) hs1
    exact ⟨_, _, hk, hn.trans (key N s1 hn.1 hN)⟩
  | _ => intro R r b s K hL hw h; cases h
theorem evFin_keeps {an : Ann} {rs : List ResultVar} {s : TS X.U} (hw : Wf s) {o : List (TO X.U)} {v : TV X.U} (h : evFin X an rs s (fun o v => some (o, v)) = some (o, v)) : s.hin ≤ o.length ∧ (∀ i, i < s.hin → rlen o i = rlen s.objs i) ∧ v.bel o.length = true ∧ (o.all fun x => x.bel o.length) = true := by
  unfold evFin at h
  split at h <;> try (cases h; done)
  rename_i vs hvs
  dsimp only at h
  split at h <;> try (cases h; done)
  rename_i vs2 hvs2
  split at h <;> try (cases h; done)
  rename_i s3 tv hn
  cases h
  have h1 : Keeps s (match an.own with | true => s | false => frzs s (reach s.objs 1000 (idsL vs) [])) := by
    cases an.own
    · exact frzs_keeps _ hw
    · exact .refl hw
  obtain ⟨h2, h3⟩ := norm_keeps hn
  have h4 := h1.trans h2
  have h3 : (v.all (fun i => decide (i < s3.objs.length)) && true) = true := h3
  rw [Bool.and_true] at h3
  refine ⟨by rw [← h4.2.1]; exact h4.1.hin, h4.2.2, h3, List.all_eq_true.2 fun x hx => ?_⟩
  obtain ⟨i, hi⟩ := List.mem_iff_getElem?.1 hx
  exact h4.1.obb i x (by rw [nth_eq]; exact hi)
theorem init_m (hX : CxOk P X) {objs : List (TO X.U)} {args : List (TV X.U)} {n : Nat} (hab : belL objs.length args = true) (hob : (objs.all fun x => x.bel objs.length) = true) (hal : objs.all TO.alive = true) :
    M ⟨args ++ List.replicate n .junk, objs, objs.length⟩ (StH (objs.map (TO.ob (rlen objs))) (itpL (rlen objs) args)) := by
  refine ⟨fun t ht => ?_, fun id o ho => ?_, fun id hid => ?_, fun t => ?_, fun id o ho => ?_⟩
  · have ht : getN (args ++ List.replicate n .junk) t ≠ .junk := ht
    show (itpL (rlen objs) args).getD t (.v undef) = (getN (args ++ List.replicate n .junk) t).itp (rlen objs)
    rw [getN_app] at ht ⊢
    by_cases h : t < args.length
    · rw [if_pos h]
      rw [List.getD_eq_getElem?_getD, itpL_get]
      unfold getN
      rw [nth_eq, List.getElem?_eq_getElem h]
      rfl
    · rw [if_neg h] at ht
      exact absurd rfl ht
  · show (match (objs.map (TO.ob (rlen objs)))[id]? with | some o => OS.ob o | none => .never) = _
    have ho : nth objs id = some o := ho
    rw [nth_eq] at ho
    rw [List.getElem?_map, ho]
    exact (TO.itp_ob (List.all_eq_true.1 hal o (List.mem_of_getElem? ho))).symm
  · show (match (objs.map (TO.ob (rlen objs)))[id]? with | some o => OS.ob o | none => .never) = _
    have hid : objs.length ≤ id := hid
    rw [List.getElem?_eq_none (by rw [List.length_map]; exact hid)]
  · show (getN (args ++ List.replicate n .junk) t).bel objs.length = true
    rw [getN_app]
    split
    · unfold getN
      rw [nth_eq]
      cases hq : args[t]? with
      | none => rfl
      | some x =>
        rw [belL_all] at hab
        exact List.all_eq_true.1 hab x (List.mem_of_getElem? hq)
    · rfl
  · have ho : nth objs id = some o := ho
    rw [nth_eq] at ho
    exact List.all_eq_true.1 hob o (List.mem_of_getElem? ho)
theorem init_r {objs : List Ob} {args : List SV} {fn : Func} {g : Gh} {w : World} {vs : List Value} (hp : HPre objs g w) (hrep : RepL g w.heap vs args) (hn : args.length ≤ fn.ntmps) :
    Rel ⟨w, HWr objs g, g.F, fn.ntmps, g⟩ g (StH objs args) { tmps := vs.toArray ++ Array.replicate (fn.ntmps - vs.toArray.size) undef, defers := [] } w := by
  have hvl := hrep.length
  have hob : ∀ i o, (StH objs args).obj i = .ob o → objs[i]? = some o := fun i o ho => by
    have ho : (match objs[i]? with | some o => OS.ob o | none => .never) = .ob o := ho
    cases hi : objs[i]? with
    | none => rw [hi] at ho; cases ho
    | some p => rw [hi] at ho; cases ho; rfl
  refine { slot := fun t => ?_, size := by simp; omega, defers := rfl, never := fun i hi => hp.never i ?_, ob := fun i o ho => hp.ob i o (hob i o ho), inj := fun i j o o' b ho ho' => hp.inj i j o o' b (hob i o ho) (hob j o' ho'), own := fun i o b ho hz hb => .inr ⟨i, o, hob i o ho, hz, hb⟩, base := fun _ _ _ => rfl, hsize := Nat.le_refl _, F0 := fun _ h => h, Fold := fun _ h _ => .inl h, Flt := hp.Flt, os := rfl, tape := rfl, output := rfl, gext := fun _ _ h => ⟨h, rfl, rfl⟩, kept := fun b cs T fr h => ⟨cs, fr, h, rfl⟩, tb := hp.tb }
  · show Rep _ _ _ (args.getD t (.v undef))
    by_cases ht : t < args.length
    · obtain ⟨x, hx, hR⟩ := hrep.get t args[t] (List.getElem?_eq_getElem ht)
      have : (vs.toArray ++ Array.replicate (fn.ntmps - vs.toArray.size) undef).getD t undef = x := by
        rw [Array.getD_eq_getD_getElem?, Array.getElem?_append_left (by simp; omega)]
        simp [hx]
      rw [this, List.getD_eq_getElem?_getD, List.getElem?_eq_getElem ht]
      exact hR
    · have : (vs.toArray ++ Array.replicate (fn.ntmps - vs.toArray.size) undef).getD t undef = undef := by
        rw [Array.getD_eq_getD_getElem?, Array.getElem?_append_right (by simp; omega), Array.getElem?_replicate]
        split <;> rfl
      rw [this, List.getD_eq_getElem?_getD, List.getElem?_eq_none (by omega)]
      exact .v _
  · have hi : (match objs[i]? with | some o => OS.ob o | none => .never) = .never := hi
    cases hq : objs[i]? with
    | none => exact List.getElem?_eq_none_iff.1 hq
    | some p => rw [hq] at hi; cases hi
theorem rep_tup {g : Gh} {H : Array Go.Obj} {rl : Nat → Nat} {vs : List Value} {tvs : List (TV X.U)} (h : RepL g H vs (itpL rl tvs)) : Rep g H (tupV vs) ((tupT tvs).itp rl) := by
  have key : ∀ (vs : List Value) (tvs : List (TV X.U)), RepL g H vs (itpL rl tvs) → vs.length ≠ 1 → tupV vs = .tuple vs.toArray ∧ tupT tvs = .tup tvs := fun vs tvs h hn => by
    have hl := h.length
    rw [itpL_len] at hl
    match vs, tvs, hl, hn with
    | [], [], _, _ => exact ⟨rfl, rfl⟩
    | _ :: _ :: _, _ :: _ :: _, _, _ => exact ⟨rfl, rfl⟩
  by_cases hn : vs.length = 1
  · have hl := h.length
    rw [itpL_len] at hl
    match vs, tvs, hl, hn, h with
    | [v], [tv], _, _, h =>
      have h : RepL g H [v] (tv.itp rl :: []) := h
      cases h with
      | cons h t => exact h
  · obtain ⟨e1, e2⟩ := key vs tvs h hn
    rw [e1, e2]
    exact .tup (by simpa using h)
theorem nz_eq {U : Univ} {o l : List (TO U)} (h : l.length ≤ o.length) : nz o l = o := by
  cases o with
  | nil => exact List.eq_nil_of_length_eq_zero (Nat.le_zero.1 h)
  | cons x r => rfl
theorem SpecOk.mk0 {P : Program} {U : Univ} {fid : FuncId} {S : Spc U} (fn : ∃ fn, P.funcs[fid]? = some fn ∧ (fn.name == "runtime.NumGoroutine") = false ∧ fn.body.isSome = true) (path : ∀ objs args, PathF fun k => S.F objs args k)
    (ok : ∀ (objs : List (TO U)) (args : List (TV U)) (objs' : List (TO U)) (res : TV U), S.F objs args (fun o v => some (o, v)) = some (objs', res) → belL objs.length args = true → (objs.all fun x => x.bel objs.length) = true → objs.all TO.alive = true →
    HCall P fid (objs.map (TO.ob (rlen objs))) (itpL (rlen objs) args) (objs'.map (TO.itp (rlen objs'))) (res.itp (rlen objs')) ∧ objs.length ≤ objs'.length ∧ (∀ i, i < objs.length → rlen objs' i = rlen objs i) ∧ res.bel objs'.length = true ∧
      (objs'.all fun x => x.bel objs'.length) = true) : SpecOk P fid S :=
  ⟨fn, path, fun objs args objs' res h h1 h2 h3 => by
    have hk := ok objs args objs' res h h1 h2 h3
    rw [nz_eq hk.2.1]
    exact hk⟩
/-- A function that leaves all as it was: so it is told. -/
def Spc.ro {U : Univ} (S : Spc U) : Spc U := ⟨fun objs args k => S.F objs args fun _ v => k [] v⟩
theorem SpecOk.ro {P : Program} {U : Univ} {fid : FuncId} {S : Spc U} (h : SpecOk P fid S) (hr : ∀ objs args o v, S.F objs args (fun o v => some (o, v)) = some (o, v) → o = objs) : SpecOk P fid S.ro := by
  refine ⟨h.fn, fun objs args => ?_, fun objs args objs' res hs hb ho ha => ?_⟩
  · intro R k r hk
    obtain ⟨o, v, h1, h2⟩ := h.path objs args _ _ hk
    exact ⟨[], v, h1, fun k' => h2 _⟩
  · obtain ⟨o, v, h1, h2⟩ := h.path objs args _ _ hs
    cases h1
    have hS := h2 (fun o v => some (o, v))
    obtain rfl := hr objs args o res hS
    have := h.ok o args o res hS hb ho ha
    have e : nz o o = o := nz_eq (Nat.le_refl _)
    rw [e] at this
    exact this
/-- WHAT IS WALKED IS SO. -/
theorem specFn_ok (hX : CxOk P X) (hm : P.follows .mixedOrders = true) (hE : ∀ f S, E f = some S → SpecOk P f S) (an : Ann) (lp : Lp X.U) {fid : FuncId} {fn : Func} (hf : P.funcs[fid]? = some fn) (hname : (fn.name == "runtime.NumGoroutine") = false) (hcode : (match fn.body with | some c => codeOk fn.ntmps c | none => false) = true)
    (hL : ∀ c, fn.body = some c → LpOk X E an lp (loops c 0)) : SpecOk P fid (specFn X E an lp fn) := by
  refine SpecOk.mk0 ⟨fn, hf, hname, ?_⟩ (fun objs args => ?_) fun objs args objs' res h hab hob hal => ?_
  · cases hb : fn.body with
    | none => rw [hb] at hcode; cases hcode
    | some c => rfl
  · cases hb : fn.body with
    | none => rw [hb] at hcode; cases hcode
    | some c => exact evFn_path hE (hL c hb).2
  · have h : evFn X E an lp fn objs args (fun o v => some (o, v)) = some (objs', res) := h
    unfold evFn at h
    split at h <;> try (cases h; done)
    rename_i c hc hle
    rw [hc] at hcode
    have hM := init_m hX (n := fn.ntmps - args.length) hab hob hal
    obtain ⟨ex, s', hk, hK⟩ := evC_keeps hX hE (hL c hc) (hM.wf (Nat.le_refl _)) h
    have hstat : objs.length ≤ objs'.length ∧ (∀ i, i < objs.length → rlen objs' i = rlen objs i) ∧ res.bel objs'.length = true ∧ (objs'.all fun x => x.bel objs'.length) = true := by
      have key : evFin X an fn.results.toList s' (fun o v => some (o, v)) = some (objs', res) → _ := fun hk => by
        obtain ⟨q1, q2, q3, q4⟩ := evFin_keeps hK.1 hk
        rw [hK.2.1] at q1 q2
        exact (⟨q1, fun i hi => (q2 i hi).trans (hK.2.2 i hi), q3, q4⟩ : objs.length ≤ objs'.length ∧ (∀ i, i < objs.length → rlen objs' i = rlen objs i) ∧ res.bel objs'.length = true ∧ (objs'.all fun x => x.bel objs'.length) = true)
      cases ex with
      | ret => exact key hk
      | normal => exact key hk
      | _ => cases hk
    refine ⟨fun g w vs hp hrep => ?_, hstat⟩
    refine calls_of_wp hf hc ?_
    have hn : (itpL (rlen objs) args).length ≤ fn.ntmps := by rw [itpL_len]; exact Nat.le_of_ble_eq_true hle
    have hR := init_r hp hrep hn
    refine wp_mono (evC_ok hX hm hE (hL c hc) h hcode (f := ⟨w, HWr (objs.map (TO.ob (rlen objs))) g, g.F, fn.ntmps, g⟩) ⟨⟨_, hM, g, hR⟩, Nat.le_refl _, fun id b hb => ?_⟩ (Q := fun ex a' w' => (ex = .ret ∨ ex = .normal) ∧ ∃ s', TR ⟨w, HWr (objs.map (TO.ob (rlen objs))) g, g.F, fn.ntmps, g⟩ s' a' w' ∧ evFin X an fn.results.toList s' (fun o v => some (o, v)) = some (objs', res)) fun ex s' a' w' hk hT => ?_) fun ex a' w' ⟨hex, s', hT, hk⟩ => ?_
    · rcases Nat.lt_or_ge id objs.length with h1 | h1
      · exact h1
      · have h2 : g.β id = some b := hb
        rw [hp.never id (by rw [List.length_map]; exact h1)] at h2
        cases h2
    · cases ex with
      | ret => exact ⟨.inl rfl, s', hT, hk⟩
      | normal => exact ⟨.inr rfl, s', hT, hk⟩
      | _ => cases hk
    · unfold evFin at hk
      split at hk <;> try (cases hk; done)
      rename_i tvs htvs
      dsimp only at hk
      split at hk <;> try (cases hk; done)
      rename_i tvs2 htvs2
      split at hk <;> try (cases hk; done)
      rename_i s3 tv hn3
      cases hk
      have hT2 : TR ⟨w, HWr (objs.map (TO.ob (rlen objs))) g, g.F, fn.ntmps, g⟩ (match an.own with | true => s' | false => frzs s' (reach s'.objs 1000 (idsL tvs) [])) a' w' := by
        cases an.own
        · exact frzs_ok hX _ hT
        · exact hT
      generalize (match an.own with | true => s' | false => frzs s' (reach s'.objs 1000 (idsL tvs) [])) = s2 at *
      obtain ⟨⟨σ2, hM2, g2, hR2⟩, hin2, hg2⟩ := hT2
      obtain ⟨vs2, k1, k2, k3⟩ := evRVs_ok hX hM2 hR2 htvs2
      obtain ⟨g3, σ3, hR3, hM3, e1, e2, e3, e4⟩ := norm_ok hX.closed hn3 hM2 hR2 hin2 hg2
      obtain ⟨tv1, h1, h2⟩ := e4 0 _ _ rfl (rep_tup k3)
      cases h1
      have hobs : ∀ i o, (s3.objs.map (TO.itp (rlen s3.objs)))[i]? = some (OS.ob o) → σ3.obj i = .ob o := fun i o ho => by
        rw [List.getElem?_map] at ho
        obtain ⟨x, hx, e⟩ := Option.map_eq_some_iff.1 ho
        rw [hM3.ob i x (by rw [nth_eq]; exact hx), e]
      have hpost : HPost (objs.map (TO.ob (rlen objs))) (s3.objs.map (TO.itp (rlen s3.objs))) g g3 w w' :=
        { ob := fun i o ho => hR3.ob i o (hobs i o ho), inj := fun i j o o' b ho ho' => hR3.inj i j o o' b (hobs i o ho) (hobs j o' ho'), own := fun i o b ho => hR3.own i o b (hobs i o ho), base := hR3.base, hsize := hR3.hsize, F0 := hR3.F0, Fold := hR3.Fold, Flt := hR3.Flt, os := hR3.os, tape := hR3.tape, output := hR3.output, gext := hR3.gext, kept := hR3.kept }
      have hfin : a'.defers = [] ∧ ∃ v, (results fn a'.tmps).run P w' = .ok v w' ∧ ∃ v_1 g', Ending.returned v = .returned v_1 ∧ Rep g' w'.heap v_1 (res.itp (rlen s3.objs)) ∧ HPost (objs.map (TO.ob (rlen objs))) (s3.objs.map (TO.itp (rlen s3.objs))) g g' w w' :=
        ⟨hR3.defers, _, run_results k1 k2, _, g3, rfl, h2, hpost⟩
      rcases hex with rfl | rfl
      · exact hfin
      · exact hfin
end
end Go.Proofs.Ytpkgikchphgfaaa.Eng
/- Kinds of elements, and types. -/
namespace Go.Proofs.Ytpkgikchphgfaaa.Fl
open Go Go.RowKit Go.Proofs.Ytpkgikchphgfaaa.Eng
set_option linter.unusedVariables false
set_option linter.unusedSimpArgs false
inductive C where
  | i64
  | bool
  | u8
  | str
  | t39
  | t69
  | t65
  | t53
  | t82
  | t90
  | t114
  | m_str_i64
  deriving DecidableEq
structure R39 where
  Ins : Int
  Write : Bool
  Global : Int
  Base : Int
  Field : Int
structure R69 where
  Name : ByteArray
  Params : List Int
  Ret : Int
  First : Int
  Last : Int
structure R65 where
  Fn : Int
  At : Int
  Op : Int
  A : Int
  B : Int
  C : Int
  Do : Int
  N : Int
  Args : List Int
structure R53 where
  Kind : Int
  At : Int
  N : Int
  S : ByteArray
structure R82 where
  Name : ByteArray
  Type_ : Int
  At : Int
structure R112 where
  Kind : Int
  A : ByteArray
  B : ByteArray
  Op : Int
  N : Int
  Args : List ByteArray
inductive R114 where
  | mk (Kind : Int) (At : Int) (To : ByteArray) (Field : ByteArray) (From : ByteArray) (Expr : R112) (Body : List R114) (Else : List R114)
def R114.Kind : R114 → Int
  | .mk x0 x1 x2 x3 x4 x5 x6 x7 => x0
def R114.At : R114 → Int
  | .mk x0 x1 x2 x3 x4 x5 x6 x7 => x1
def R114.To : R114 → ByteArray
  | .mk x0 x1 x2 x3 x4 x5 x6 x7 => x2
def R114.Field : R114 → ByteArray
  | .mk x0 x1 x2 x3 x4 x5 x6 x7 => x3
def R114.From : R114 → ByteArray
  | .mk x0 x1 x2 x3 x4 x5 x6 x7 => x4
def R114.Expr : R114 → R112
  | .mk x0 x1 x2 x3 x4 x5 x6 x7 => x5
def R114.Body : R114 → List R114
  | .mk x0 x1 x2 x3 x4 x5 x6 x7 => x6
def R114.Else : R114 → List R114
  | .mk x0 x1 x2 x3 x4 x5 x6 x7 => x7
structure R90 where
  Name : ByteArray
  At : Int
  Params : List R82
  Ret : Int
  Vars : List R82
  Body : List R114
abbrev T : C → Type
  | .i64 => Int
  | .bool => Bool
  | .u8 => Int
  | .str => ByteArray
  | .t39 => R39
  | .t69 => R69
  | .t65 => R65
  | .t53 => R53
  | .t82 => R82
  | .t90 => R90
  | .t114 => R114
  | .m_str_i64 => ByteArray × Int
def sz : C → Nat
  | .i64 => 1
  | .bool => 1
  | .u8 => 1
  | .str => 1
  | .t39 => 5
  | .t69 => 5
  | .t65 => 9
  | .t53 => 4
  | .t82 => 3
  | .t90 => 6
  | .t114 => 13
  | .m_str_i64 => 2
def encS_i64 (x : Int) : List SV := [.v (.int .i64 x)]
def encS_bool (x : Bool) : List SV := [.v (.bool x)]
def encS_u8 (x : Int) : List SV := [.v (.int .u8 x)]
def encS_str (x : ByteArray) : List SV := [.v (.string x)]
def encS_t39 (x : R39) : List SV := [.v (.int .i64 x.Ins), .v (.bool x.Write), .v (.int .i64 x.Global), .v (.int .i64 x.Base), .v (.int .i64 x.Field)]
def encS_t69 (x : R69) : List SV := [.v (.string x.Name), .lst (sz .i64) (x.Params.map encS_i64), .v (.int .i64 x.Ret), .v (.int .i64 x.First), .v (.int .i64 x.Last)]
def encS_t65 (x : R65) : List SV := [.v (.int .i64 x.Fn), .v (.int .i64 x.At), .v (.int .i64 x.Op), .v (.int .i64 x.A), .v (.int .i64 x.B), .v (.int .i64 x.C), .v (.int .i64 x.Do), .v (.int .i64 x.N), .lst (sz .i64) (x.Args.map encS_i64)]
def encS_t53 (x : R53) : List SV := [.v (.int .i64 x.Kind), .v (.int .i64 x.At), .v (.int .i64 x.N), .v (.string x.S)]
def encS_t82 (x : R82) : List SV := [.v (.string x.Name), .v (.int .i64 x.Type_), .v (.int .i64 x.At)]
mutual
def encS_t114 : R114 → List SV
  | .mk x0 x1 x2 x3 x4 x5 x6 x7 => [.v (.int .i64 x0), .v (.int .i64 x1), .v (.string x2), .v (.string x3), .v (.string x4), .v (.int .i64 x5.Kind), .v (.string x5.A), .v (.string x5.B), .v (.int .i64 x5.Op), .v (.int .i64 x5.N), .lst (sz .str) (x5.Args.map encS_str), .lst (sz .t114) (encL_t114 x6), .lst (sz .t114) (encL_t114 x7)]
def encL_t114 : List R114 → List (List SV)
  | [] => []
  | x :: l => encS_t114 x :: encL_t114 l
end
theorem encL_t114_eq : ∀ l, encL_t114 l = l.map encS_t114
  | [] => rfl
  | x :: l => by rw [encL_t114, encL_t114_eq l]; rfl
theorem encS_t114_eq (x : R114) : encS_t114 x = [.v (.int .i64 x.Kind), .v (.int .i64 x.At), .v (.string x.To), .v (.string x.Field), .v (.string x.From), .v (.int .i64 x.Expr.Kind), .v (.string x.Expr.A), .v (.string x.Expr.B), .v (.int .i64 x.Expr.Op), .v (.int .i64 x.Expr.N), .lst (sz .str) (x.Expr.Args.map encS_str), .lst (sz .t114) (x.Body.map encS_t114), .lst (sz .t114) (x.Else.map encS_t114)] := by
  cases x
  unfold encS_t114
  rw [encL_t114_eq, encL_t114_eq]
  rfl
def encS_t90 (x : R90) : List SV := [.v (.string x.Name), .v (.int .i64 x.At), .lst (sz .t82) (x.Params.map encS_t82), .v (.int .i64 x.Ret), .lst (sz .t82) (x.Vars.map encS_t82), .lst (sz .t114) (x.Body.map encS_t114)]
def encS_m_str_i64 (x : ByteArray × Int) : List SV := [.v (.string x.1), .v (.int .i64 x.2)]
def encS : (c : C) → T c → List SV
  | .i64, x => encS_i64 x
  | .bool, x => encS_bool x
  | .u8, x => encS_u8 x
  | .str, x => encS_str x
  | .t39, x => encS_t39 x
  | .t69, x => encS_t69 x
  | .t65, x => encS_t65 x
  | .t53, x => encS_t53 x
  | .t82, x => encS_t82 x
  | .t90, x => encS_t90 x
  | .t114, x => encS_t114 x
  | .m_str_i64, x => encS_m_str_i64 x
abbrev U : Univ := ⟨C, inferInstance, T, sz, encS⟩
def enc : (c : C) → T c → List (TV U)
  | .i64, x => [.v (.int .i64 x)]
  | .bool, x => [.v (.bool x)]
  | .u8, x => [.v (.int .u8 x)]
  | .str, x => [.v (.string x)]
  | .t39, x => [.v (.int .i64 x.Ins), .v (.bool x.Write), .v (.int .i64 x.Global), .v (.int .i64 x.Base), .v (.int .i64 x.Field)]
  | .t69, x => [.v (.string x.Name), .lst .i64 x.Params, .v (.int .i64 x.Ret), .v (.int .i64 x.First), .v (.int .i64 x.Last)]
  | .t65, x => [.v (.int .i64 x.Fn), .v (.int .i64 x.At), .v (.int .i64 x.Op), .v (.int .i64 x.A), .v (.int .i64 x.B), .v (.int .i64 x.C), .v (.int .i64 x.Do), .v (.int .i64 x.N), .lst .i64 x.Args]
  | .t53, x => [.v (.int .i64 x.Kind), .v (.int .i64 x.At), .v (.int .i64 x.N), .v (.string x.S)]
  | .t82, x => [.v (.string x.Name), .v (.int .i64 x.Type_), .v (.int .i64 x.At)]
  | .t90, x => [.v (.string x.Name), .v (.int .i64 x.At), .lst .t82 x.Params, .v (.int .i64 x.Ret), .lst .t82 x.Vars, .lst .t114 x.Body]
  | .t114, x => [.v (.int .i64 x.Kind), .v (.int .i64 x.At), .v (.string x.To), .v (.string x.Field), .v (.string x.From), .v (.int .i64 x.Expr.Kind), .v (.string x.Expr.A), .v (.string x.Expr.B), .v (.int .i64 x.Expr.Op), .v (.int .i64 x.Expr.N), .lst .str x.Expr.Args, .lst .t114 x.Body, .lst .t114 x.Else]
  | .m_str_i64, x => [.v (.string x.1), .v (.int .i64 x.2)]
def shape : C → List (Option C)
  | .t69 => [none, some .i64, none, none, none]
  | .t65 => [none, none, none, none, none, none, none, none, some .i64]
  | .t90 => [none, none, some .t82, none, some .t82, some .t114]
  | .t114 => [none, none, none, none, none, none, none, none, none, none, some .str, some .t114, some .t114]
  | _ => []
def dec_i64 : List (TV U) → Option Int
  | [.v (.int .i64 a1)] => some a1
  | _ => none
def dec_bool : List (TV U) → Option Bool
  | [.v (.bool a1)] => some a1
  | _ => none
def dec_u8 : List (TV U) → Option Int
  | [.v (.int .u8 a1)] => some a1
  | _ => none
def dec_str : List (TV U) → Option ByteArray
  | [.v (.string a1)] => some a1
  | _ => none
def dec_t39 : List (TV U) → Option R39
  | [.v (.int .i64 a2), .v (.bool a3), .v (.int .i64 a4), .v (.int .i64 a5), .v (.int .i64 a6)] => some ⟨a2, a3, a4, a5, a6⟩
  | _ => none
def dec_t69 : List (TV U) → Option R69
  | [.v (.string a2), .lst .i64 a3, .v (.int .i64 a4), .v (.int .i64 a5), .v (.int .i64 a6)] => some ⟨a2, a3, a4, a5, a6⟩
  | _ => none
def dec_t65 : List (TV U) → Option R65
  | [.v (.int .i64 a2), .v (.int .i64 a3), .v (.int .i64 a4), .v (.int .i64 a5), .v (.int .i64 a6), .v (.int .i64 a7), .v (.int .i64 a8), .v (.int .i64 a9), .lst .i64 a10] => some ⟨a2, a3, a4, a5, a6, a7, a8, a9, a10⟩
  | _ => none
def dec_t53 : List (TV U) → Option R53
  | [.v (.int .i64 a2), .v (.int .i64 a3), .v (.int .i64 a4), .v (.string a5)] => some ⟨a2, a3, a4, a5⟩
  | _ => none
def dec_t82 : List (TV U) → Option R82
  | [.v (.string a2), .v (.int .i64 a3), .v (.int .i64 a4)] => some ⟨a2, a3, a4⟩
  | _ => none
def dec_t90 : List (TV U) → Option R90
  | [.v (.string a2), .v (.int .i64 a3), .lst .t82 a4, .v (.int .i64 a5), .lst .t82 a6, .lst .t114 a7] => some ⟨a2, a3, a4, a5, a6, a7⟩
  | _ => none
def dec_t114 : List (TV U) → Option R114
  | [.v (.int .i64 a2), .v (.int .i64 a3), .v (.string a4), .v (.string a5), .v (.string a6), .v (.int .i64 a8), .v (.string a9), .v (.string a10), .v (.int .i64 a11), .v (.int .i64 a12), .lst .str a13, .lst .t114 a14, .lst .t114 a15] => some (.mk a2 a3 a4 a5 a6 ⟨a8, a9, a10, a11, a12, a13⟩ a14 a15)
  | _ => none
def dec0 : (c : C) → List (TV U) → Option (T c)
  | .i64, l => dec_i64 l
  | .bool, l => dec_bool l
  | .u8, l => dec_u8 l
  | .str, l => dec_str l
  | .t39, l => dec_t39 l
  | .t69, l => dec_t69 l
  | .t65, l => dec_t65 l
  | .t53, l => dec_t53 l
  | .t82, l => dec_t82 l
  | .t90, l => dec_t90 l
  | .t114, l => dec_t114 l
  | .m_str_i64, l => none
def dec (c : C) (l : List (TV U)) : Option (T c) := dec0 c (prepL (shape c) l)
def elc : Nat → Option C
  | 3 => some .i64
  | 4 => some .bool
  | 5 => some .u8
  | 9 => some .str
  | 33 => some .t39
  | 56 => some .t69
  | 58 => some .t65
  | 76 => some .t53
  | 79 => some .t82
  | 87 => some .t90
  | 169 => some .t114
  | _ => none
def sty : Nat → Bool
  | 9 => true
  | _ => false
def tt : Nat → Option TI
  | 2 => some ⟨false, 1, 8, [.v (.int .i64 0)], [], none, false, false, some .i64⟩
  | 3 => some ⟨false, 1, 8, [.v (.int .i64 0)], [], none, false, false, some .i64⟩
  | 4 => some ⟨false, 1, 1, [.v (.bool false)], [], none, true, false, none⟩
  | 5 => some ⟨false, 1, 1, [.v (.int .u8 0)], [], none, false, false, some .u8⟩
  | 6 => some ⟨false, 1, 1, [.v (.int .u8 0)], [], none, false, false, some .u8⟩
  | 7 => some ⟨true, 4, 24, [.v (.int .i64 0), .v (.int .i64 0), .v (.bool false), .v (.int .u8 0)], [(0, 2), (1, 3), (2, 4), (3, 6)], none, false, false, none⟩
  | 8 => some ⟨true, 4, 24, [.v (.int .i64 0), .v (.int .i64 0), .v (.bool false), .v (.int .u8 0)], [(0, 2), (1, 3), (2, 4), (3, 6)], none, false, false, none⟩
  | 9 => some ⟨false, 1, 16, [.v (.string ⟨#[]⟩)], [], none, false, false, none⟩
  | 12 => some ⟨false, 1, 8, [.v (.int .u64 0)], [], none, false, false, some .u64⟩
  | 15 => some ⟨false, 1, 8, [.v (.pointer none)], [], none, false, true, none⟩
  | 17 => some ⟨false, 1, 8, [.v (.pointer none)], [], none, false, true, none⟩
  | 22 => some ⟨false, 1, 24, [.v (.slice none 0 0)], [], some 3, false, false, none⟩
  | 23 => some ⟨false, 1, 24, [.v (.slice none 0 0)], [], some 56, false, false, none⟩
  | 24 => some ⟨false, 1, 24, [.v (.slice none 0 0)], [], some 58, false, false, none⟩
  | 26 => some ⟨true, 6, 128, [.v (.slice none 0 0), .v (.slice none 0 0), .v (.slice none 0 0), .v (.slice none 0 0), .v (.slice none 0 0), .v (.int .i64 0)], [(0, 22), (1, 22), (2, 22), (3, 23), (4, 24), (5, 3)], none, false, false, none⟩
  | 30 => some ⟨false, 1, 24, [.v (.slice none 0 0)], [], some 33, false, false, none⟩
  | 33 => some ⟨true, 5, 40, [.v (.int .i64 0), .v (.bool false), .v (.int .i64 0), .v (.int .i64 0), .v (.int .i64 0)], [(0, 3), (1, 4), (2, 3), (3, 3), (4, 3)], none, false, false, none⟩
  | 42 => some ⟨false, 1, 24, [.v (.slice none 0 0)], [], some 79, false, false, none⟩
  | 43 => some ⟨false, 1, 24, [.v (.slice none 0 0)], [], some 87, false, false, none⟩
  | 45 => some ⟨true, 3, 72, [.v (.slice none 0 0), .v (.slice none 0 0), .v (.slice none 0 0)], [(0, 42), (1, 42), (2, 43)], none, false, false, none⟩
  | 46 => some ⟨false, 1, 8, [.v (.int .i64 0)], [], none, false, false, some .i64⟩
  | 48 => some ⟨true, 2, 16, [.v (.int .i64 0), .v (.int .i64 0)], [(0, 46), (1, 3)], none, false, false, none⟩
  | 56 => some ⟨true, 5, 64, [.v (.string ⟨#[]⟩), .v (.slice none 0 0), .v (.int .i64 0), .v (.int .i64 0), .v (.int .i64 0)], [(0, 9), (1, 22), (2, 3), (3, 3), (4, 3)], none, false, false, none⟩
  | 58 => some ⟨true, 9, 88, [.v (.int .i64 0), .v (.int .i64 0), .v (.int .i64 0), .v (.int .i64 0), .v (.int .i64 0), .v (.int .i64 0), .v (.int .i64 0), .v (.int .i64 0), .v (.slice none 0 0)], [(0, 3), (1, 3), (2, 3), (3, 3), (4, 3), (5, 3), (6, 3), (7, 2), (8, 22)], none, false, false, none⟩
  | 70 => some ⟨false, 1, 24, [.v (.slice none 0 0)], [], some 76, false, false, none⟩
  | 74 => some ⟨true, 6, 64, [.v (.slice none 0 0), .v (.int .i64 0), .v (.int .i64 0), .v (.int .i64 0), .v (.int .i64 0), .v (.int .i64 0)], [(0, 70), (1, 3), (2, 3), (3, 3), (4, 48)], none, false, false, none⟩
  | 76 => some ⟨true, 4, 40, [.v (.int .i64 0), .v (.int .i64 0), .v (.int .i64 0), .v (.string ⟨#[]⟩)], [(0, 3), (1, 3), (2, 2), (3, 9)], none, false, false, none⟩
  | 79 => some ⟨true, 3, 32, [.v (.string ⟨#[]⟩), .v (.int .i64 0), .v (.int .i64 0)], [(0, 9), (1, 3), (2, 3)], none, false, false, none⟩
  | 85 => some ⟨false, 1, 24, [.v (.slice none 0 0)], [], some 169, false, false, none⟩
  | 87 => some ⟨true, 6, 104, [.v (.string ⟨#[]⟩), .v (.int .i64 0), .v (.slice none 0 0), .v (.int .i64 0), .v (.slice none 0 0), .v (.slice none 0 0)], [(0, 9), (1, 3), (2, 42), (3, 3), (4, 42), (5, 85)], none, false, false, none⟩
  | 90 => some ⟨false, 1, 8, [.v (.pointer none)], [], none, false, true, none⟩
  | 91 => some ⟨false, 1, 8, [.v (.map none)], [], none, false, false, none⟩
  | 93 => some ⟨true, 10, 128, [.v (.slice none 0 0), .v (.slice none 0 0), .v (.slice none 0 0), .v (.map none), .v (.map none), .v (.map none), .v (.map none), .v (.int .i64 0), .v (.int .i64 0), .v (.int .i64 0)], [(0, 45), (3, 91), (4, 91), (5, 91), (6, 91), (7, 3), (8, 48)], none, false, false, none⟩
  | 101 => some ⟨true, 7, 120, [.v (.slice none 0 0), .v (.slice none 0 0), .v (.slice none 0 0), .v (.slice none 0 0), .v (.int .i64 0), .v (.int .i64 0), .v (.int .i64 0)], [(0, 45), (3, 42), (4, 3), (5, 48)], none, false, false, none⟩
  | 106 => some ⟨false, 1, 8, [.v (.pointer none)], [], none, false, true, none⟩
  | 109 => some ⟨true, 11, 168, [.v (.slice none 0 0), .v (.slice none 0 0), .v (.slice none 0 0), .v (.slice none 0 0), .v (.slice none 0 0), .v (.int .i64 0), .v (.map none), .v (.map none), .v (.map none), .v (.map none), .v (.int .i64 0)], [(0, 26), (6, 91), (7, 91), (8, 91), (9, 91), (10, 3)], none, false, false, none⟩
  | 114 => some ⟨true, 8, 144, [.v (.slice none 0 0), .v (.slice none 0 0), .v (.slice none 0 0), .v (.int .i64 0), .v (.slice none 0 0), .v (.int .i64 0), .v (.int .i64 0), .v (.slice none 0 0)], [(0, 45), (3, 3), (4, 42), (5, 3), (6, 3), (7, 24)], none, false, false, none⟩
  | 142 => some ⟨false, 1, 24, [.v (.slice none 0 0)], [], some 5, false, false, none⟩
  | 144 => some ⟨false, 1, 24, [.v (.slice none 0 0)], [], some 4, false, false, none⟩
  | 146 => some ⟨false, 1, 8, [.v (.pointer none)], [], none, false, true, none⟩
  | 149 => some ⟨false, 1, 8, [.v (.int .u64 0)], [], none, false, false, some .u64⟩
  | 165 => some ⟨false, 1, 24, [.v (.slice none 0 0)], [], some 9, false, false, none⟩
  | 167 => some ⟨true, 6, 80, [.v (.int .i64 0), .v (.string ⟨#[]⟩), .v (.string ⟨#[]⟩), .v (.int .i64 0), .v (.int .i64 0), .v (.slice none 0 0)], [(0, 3), (1, 9), (2, 9), (3, 3), (4, 2), (5, 165)], none, false, false, none⟩
  | 169 => some ⟨true, 13, 192, [.v (.int .i64 0), .v (.int .i64 0), .v (.string ⟨#[]⟩), .v (.string ⟨#[]⟩), .v (.string ⟨#[]⟩), .v (.int .i64 0), .v (.string ⟨#[]⟩), .v (.string ⟨#[]⟩), .v (.int .i64 0), .v (.int .i64 0), .v (.slice none 0 0), .v (.slice none 0 0), .v (.slice none 0 0)], [(0, 3), (1, 3), (2, 9), (3, 9), (4, 9), (5, 167), (11, 85), (12, 85)], none, false, false, none⟩
  | 171 => some ⟨false, 1, 8, [.v (.pointer none)], [], none, false, true, none⟩
  | 173 => some ⟨true, 6, 64, [.v (.slice none 0 0), .v (.int .i64 0), .v (.int .i64 0), .v (.int .i64 0), .v (.int .i64 0), .v (.int .i64 0)], [(0, 70), (1, 3), (2, 3), (3, 3), (4, 48)], none, false, false, none⟩
  | 204 => some ⟨true, 2, 24, [.v (.string ⟨#[]⟩), .v (.int .i64 0)], [(0, 9), (1, 46)], none, false, false, none⟩
  | 236 => some ⟨false, 1, 4, [.v (.int .u32 0)], [], none, false, false, some .u32⟩
  | 259 => some ⟨true, 4, 40, [.v (.pointer none), .v (.pointer none), .v (.pointer none), .v (.string ⟨#[]⟩)], [(0, 17), (1, 17), (2, 17), (3, 9)], none, false, false, none⟩
  | 263 => some ⟨false, 1, 1, [.v (.int .u8 0)], [], none, false, false, some .u8⟩
  | 264 => some ⟨false, 1, 1, [.v (.int .u8 0)], [], none, false, false, some .u8⟩
  | 266 => some ⟨false, 1, 8, [.v (.pointer none)], [], none, false, true, none⟩
  | 267 => some ⟨false, 1, 4, [.v (.int .i32 0)], [], none, false, false, some .i32⟩
  | 268 => some ⟨false, 1, 4, [.v (.int .i32 0)], [], none, false, false, some .i32⟩
  | 270 => some ⟨true, 11, 48, [.v (.int .u64 0), .v (.int .u64 0), .v (.int .u32 0), .v (.int .u8 0), .v (.int .u8 0), .v (.int .u8 0), .v (.int .u8 0), .v (.nilFunc), .v (.pointer none), .v (.int .i32 0), .v (.int .i32 0)], [(0, 12), (1, 12), (2, 236), (3, 263), (4, 5), (5, 5), (6, 264), (7, 265), (8, 266), (9, 267), (10, 268)], none, false, false, none⟩
  | _ => none
theorem tt2 : ∀ t, tt 2 = some t → TIok Try.prog 2 t := by
  intro t h
  cases h
  have hu : (Try.prog.underlying 2).isSome = true := by kernel_rfl
  have hi : (Try.prog.info? 2).isSome = true := by kernel_rfl
  have hz : ((Try.prog.info? 2).get hi).zero.isSome = true := by kernel_rfl
  exact ⟨⟨(Try.prog.underlying 2).get hu, (Try.prog.info? 2).get hi, ((Try.prog.info? 2).get hi).zero.get hz, (Option.some_get hu).symm, (Option.some_get hi).symm, (Option.some_get hz).symm, by kernel_rfl, by kernel_rfl, by kernel_rfl, by kernel_rfl, by kernel_rfl, fun h => absurd rfl h, fun e h => (by cases h), fun h => (by cases h), fun h => (by cases h), fun k h => (by cases h; kernel_rfl)⟩⟩
theorem tt3 : ∀ t, tt 3 = some t → TIok Try.prog 3 t := by
  intro t h
  cases h
  have hu : (Try.prog.underlying 3).isSome = true := by kernel_rfl
  have hi : (Try.prog.info? 3).isSome = true := by kernel_rfl
  have hz : ((Try.prog.info? 3).get hi).zero.isSome = true := by kernel_rfl
  exact ⟨⟨(Try.prog.underlying 3).get hu, (Try.prog.info? 3).get hi, ((Try.prog.info? 3).get hi).zero.get hz, (Option.some_get hu).symm, (Option.some_get hi).symm, (Option.some_get hz).symm, by kernel_rfl, by kernel_rfl, by kernel_rfl, by kernel_rfl, by kernel_rfl, fun h => absurd rfl h, fun e h => (by cases h), fun h => (by cases h), fun h => (by cases h), fun k h => (by cases h; kernel_rfl)⟩⟩
theorem tt4 : ∀ t, tt 4 = some t → TIok Try.prog 4 t := by
  intro t h
  cases h
  have hu : (Try.prog.underlying 4).isSome = true := by kernel_rfl
  have hi : (Try.prog.info? 4).isSome = true := by kernel_rfl
  have hz : ((Try.prog.info? 4).get hi).zero.isSome = true := by kernel_rfl
  exact ⟨⟨(Try.prog.underlying 4).get hu, (Try.prog.info? 4).get hi, ((Try.prog.info? 4).get hi).zero.get hz, (Option.some_get hu).symm, (Option.some_get hi).symm, (Option.some_get hz).symm, by kernel_rfl, by kernel_rfl, by kernel_rfl, by kernel_rfl, by kernel_rfl, fun h => absurd rfl h, fun e h => (by cases h), fun _ => (by kernel_rfl), fun h => (by cases h), fun k h => (by cases h)⟩⟩
theorem tt5 : ∀ t, tt 5 = some t → TIok Try.prog 5 t := by
  intro t h
  cases h
  have hu : (Try.prog.underlying 5).isSome = true := by kernel_rfl
  have hi : (Try.prog.info? 5).isSome = true := by kernel_rfl
  have hz : ((Try.prog.info? 5).get hi).zero.isSome = true := by kernel_rfl
  exact ⟨⟨(Try.prog.underlying 5).get hu, (Try.prog.info? 5).get hi, ((Try.prog.info? 5).get hi).zero.get hz, (Option.some_get hu).symm, (Option.some_get hi).symm, (Option.some_get hz).symm, by kernel_rfl, by kernel_rfl, by kernel_rfl, by kernel_rfl, by kernel_rfl, fun h => absurd rfl h, fun e h => (by cases h), fun h => (by cases h), fun h => (by cases h), fun k h => (by cases h; kernel_rfl)⟩⟩
theorem tt6 : ∀ t, tt 6 = some t → TIok Try.prog 6 t := by
  intro t h
  cases h
  have hu : (Try.prog.underlying 6).isSome = true := by kernel_rfl
  have hi : (Try.prog.info? 6).isSome = true := by kernel_rfl
  have hz : ((Try.prog.info? 6).get hi).zero.isSome = true := by kernel_rfl
  exact ⟨⟨(Try.prog.underlying 6).get hu, (Try.prog.info? 6).get hi, ((Try.prog.info? 6).get hi).zero.get hz, (Option.some_get hu).symm, (Option.some_get hi).symm, (Option.some_get hz).symm, by kernel_rfl, by kernel_rfl, by kernel_rfl, by kernel_rfl, by kernel_rfl, fun h => absurd rfl h, fun e h => (by cases h), fun h => (by cases h), fun h => (by cases h), fun k h => (by cases h; kernel_rfl)⟩⟩
theorem tt7 : ∀ t, tt 7 = some t → TIok Try.prog 7 t := by
  intro t h
  cases h
  have hu : (Try.prog.underlying 7).isSome = true := by kernel_rfl
  have hi : (Try.prog.info? 7).isSome = true := by kernel_rfl
  have hz : ((Try.prog.info? 7).get hi).zero.isSome = true := by kernel_rfl
  exact ⟨⟨(Try.prog.underlying 7).get hu, (Try.prog.info? 7).get hi, ((Try.prog.info? 7).get hi).zero.get hz, (Option.some_get hu).symm, (Option.some_get hi).symm, (Option.some_get hz).symm, by kernel_rfl, by kernel_rfl, by kernel_rfl, by kernel_rfl, by kernel_rfl, fun _ => ⟨(match (Try.prog.underlying 7).get hu with | .struct fs => fs | _ => #[]), by kernel_rfl, by kernel_rfl⟩, fun e h => (by cases h), fun h => (by cases h), fun h => (by cases h), fun k h => (by cases h)⟩⟩
theorem tt8 : ∀ t, tt 8 = some t → TIok Try.prog 8 t := by
  intro t h
  cases h
  have hu : (Try.prog.underlying 8).isSome = true := by kernel_rfl
  have hi : (Try.prog.info? 8).isSome = true := by kernel_rfl
  have hz : ((Try.prog.info? 8).get hi).zero.isSome = true := by kernel_rfl
  exact ⟨⟨(Try.prog.underlying 8).get hu, (Try.prog.info? 8).get hi, ((Try.prog.info? 8).get hi).zero.get hz, (Option.some_get hu).symm, (Option.some_get hi).symm, (Option.some_get hz).symm, by kernel_rfl, by kernel_rfl, by kernel_rfl, by kernel_rfl, by kernel_rfl, fun _ => ⟨(match (Try.prog.underlying 8).get hu with | .struct fs => fs | _ => #[]), by kernel_rfl, by kernel_rfl⟩, fun e h => (by cases h), fun h => (by cases h), fun h => (by cases h), fun k h => (by cases h)⟩⟩
theorem tt9 : ∀ t, tt 9 = some t → TIok Try.prog 9 t := by
  intro t h
  cases h
  have hu : (Try.prog.underlying 9).isSome = true := by kernel_rfl
  have hi : (Try.prog.info? 9).isSome = true := by kernel_rfl
  have hz : ((Try.prog.info? 9).get hi).zero.isSome = true := by kernel_rfl
  exact ⟨⟨(Try.prog.underlying 9).get hu, (Try.prog.info? 9).get hi, ((Try.prog.info? 9).get hi).zero.get hz, (Option.some_get hu).symm, (Option.some_get hi).symm, (Option.some_get hz).symm, by kernel_rfl, by kernel_rfl, by kernel_rfl, by kernel_rfl, by kernel_rfl, fun h => absurd rfl h, fun e h => (by cases h), fun h => (by cases h), fun h => (by cases h), fun k h => (by cases h)⟩⟩
theorem tt12 : ∀ t, tt 12 = some t → TIok Try.prog 12 t := by
  intro t h
  cases h
  have hu : (Try.prog.underlying 12).isSome = true := by kernel_rfl
  have hi : (Try.prog.info? 12).isSome = true := by kernel_rfl
  have hz : ((Try.prog.info? 12).get hi).zero.isSome = true := by kernel_rfl
  exact ⟨⟨(Try.prog.underlying 12).get hu, (Try.prog.info? 12).get hi, ((Try.prog.info? 12).get hi).zero.get hz, (Option.some_get hu).symm, (Option.some_get hi).symm, (Option.some_get hz).symm, by kernel_rfl, by kernel_rfl, by kernel_rfl, by kernel_rfl, by kernel_rfl, fun h => absurd rfl h, fun e h => (by cases h), fun h => (by cases h), fun h => (by cases h), fun k h => (by cases h; kernel_rfl)⟩⟩
theorem tt15 : ∀ t, tt 15 = some t → TIok Try.prog 15 t := by
  intro t h
  cases h
  have hu : (Try.prog.underlying 15).isSome = true := by kernel_rfl
  have hi : (Try.prog.info? 15).isSome = true := by kernel_rfl
  have hz : ((Try.prog.info? 15).get hi).zero.isSome = true := by kernel_rfl
  exact ⟨⟨(Try.prog.underlying 15).get hu, (Try.prog.info? 15).get hi, ((Try.prog.info? 15).get hi).zero.get hz, (Option.some_get hu).symm, (Option.some_get hi).symm, (Option.some_get hz).symm, by kernel_rfl, by kernel_rfl, by kernel_rfl, by kernel_rfl, by kernel_rfl, fun h => absurd rfl h, fun e h => (by cases h), fun h => (by cases h), fun _ => (by kernel_rfl), fun k h => (by cases h)⟩⟩
theorem tt17 : ∀ t, tt 17 = some t → TIok Try.prog 17 t := by
  intro t h
  cases h
  have hu : (Try.prog.underlying 17).isSome = true := by kernel_rfl
  have hi : (Try.prog.info? 17).isSome = true := by kernel_rfl
  have hz : ((Try.prog.info? 17).get hi).zero.isSome = true := by kernel_rfl
  exact ⟨⟨(Try.prog.underlying 17).get hu, (Try.prog.info? 17).get hi, ((Try.prog.info? 17).get hi).zero.get hz, (Option.some_get hu).symm, (Option.some_get hi).symm, (Option.some_get hz).symm, by kernel_rfl, by kernel_rfl, by kernel_rfl, by kernel_rfl, by kernel_rfl, fun h => absurd rfl h, fun e h => (by cases h), fun h => (by cases h), fun _ => (by kernel_rfl), fun k h => (by cases h)⟩⟩
theorem tt22 : ∀ t, tt 22 = some t → TIok Try.prog 22 t := by
  intro t h
  cases h
  have hu : (Try.prog.underlying 22).isSome = true := by kernel_rfl
  have hi : (Try.prog.info? 22).isSome = true := by kernel_rfl
  have hz : ((Try.prog.info? 22).get hi).zero.isSome = true := by kernel_rfl
  exact ⟨⟨(Try.prog.underlying 22).get hu, (Try.prog.info? 22).get hi, ((Try.prog.info? 22).get hi).zero.get hz, (Option.some_get hu).symm, (Option.some_get hi).symm, (Option.some_get hz).symm, by kernel_rfl, by kernel_rfl, by kernel_rfl, by kernel_rfl, by kernel_rfl, fun h => absurd rfl h, fun e h => (by cases h; kernel_rfl), fun h => (by cases h), fun h => (by cases h), fun k h => (by cases h)⟩⟩
theorem tt23 : ∀ t, tt 23 = some t → TIok Try.prog 23 t := by
  intro t h
  cases h
  have hu : (Try.prog.underlying 23).isSome = true := by kernel_rfl
  have hi : (Try.prog.info? 23).isSome = true := by kernel_rfl
  have hz : ((Try.prog.info? 23).get hi).zero.isSome = true := by kernel_rfl
  exact ⟨⟨(Try.prog.underlying 23).get hu, (Try.prog.info? 23).get hi, ((Try.prog.info? 23).get hi).zero.get hz, (Option.some_get hu).symm, (Option.some_get hi).symm, (Option.some_get hz).symm, by kernel_rfl, by kernel_rfl, by kernel_rfl, by kernel_rfl, by kernel_rfl, fun h => absurd rfl h, fun e h => (by cases h; kernel_rfl), fun h => (by cases h), fun h => (by cases h), fun k h => (by cases h)⟩⟩
theorem tt24 : ∀ t, tt 24 = some t → TIok Try.prog 24 t := by
  intro t h
  cases h
  have hu : (Try.prog.underlying 24).isSome = true := by kernel_rfl
  have hi : (Try.prog.info? 24).isSome = true := by kernel_rfl
  have hz : ((Try.prog.info? 24).get hi).zero.isSome = true := by kernel_rfl
  exact ⟨⟨(Try.prog.underlying 24).get hu, (Try.prog.info? 24).get hi, ((Try.prog.info? 24).get hi).zero.get hz, (Option.some_get hu).symm, (Option.some_get hi).symm, (Option.some_get hz).symm, by kernel_rfl, by kernel_rfl, by kernel_rfl, by kernel_rfl, by kernel_rfl, fun h => absurd rfl h, fun e h => (by cases h; kernel_rfl), fun h => (by cases h), fun h => (by cases h), fun k h => (by cases h)⟩⟩
theorem tt26 : ∀ t, tt 26 = some t → TIok Try.prog 26 t := by
  intro t h
  cases h
  have hu : (Try.prog.underlying 26).isSome = true := by kernel_rfl
  have hi : (Try.prog.info? 26).isSome = true := by kernel_rfl
  have hz : ((Try.prog.info? 26).get hi).zero.isSome = true := by kernel_rfl
  exact ⟨⟨(Try.prog.underlying 26).get hu, (Try.prog.info? 26).get hi, ((Try.prog.info? 26).get hi).zero.get hz, (Option.some_get hu).symm, (Option.some_get hi).symm, (Option.some_get hz).symm, by kernel_rfl, by kernel_rfl, by kernel_rfl, by kernel_rfl, by kernel_rfl, fun _ => ⟨(match (Try.prog.underlying 26).get hu with | .struct fs => fs | _ => #[]), by kernel_rfl, by kernel_rfl⟩, fun e h => (by cases h), fun h => (by cases h), fun h => (by cases h), fun k h => (by cases h)⟩⟩
theorem tt30 : ∀ t, tt 30 = some t → TIok Try.prog 30 t := by
  intro t h
  cases h
  have hu : (Try.prog.underlying 30).isSome = true := by kernel_rfl
  have hi : (Try.prog.info? 30).isSome = true := by kernel_rfl
  have hz : ((Try.prog.info? 30).get hi).zero.isSome = true := by kernel_rfl
  exact ⟨⟨(Try.prog.underlying 30).get hu, (Try.prog.info? 30).get hi, ((Try.prog.info? 30).get hi).zero.get hz, (Option.some_get hu).symm, (Option.some_get hi).symm, (Option.some_get hz).symm, by kernel_rfl, by kernel_rfl, by kernel_rfl, by kernel_rfl, by kernel_rfl, fun h => absurd rfl h, fun e h => (by cases h; kernel_rfl), fun h => (by cases h), fun h => (by cases h), fun k h => (by cases h)⟩⟩
theorem tt33 : ∀ t, tt 33 = some t → TIok Try.prog 33 t := by
  intro t h
  cases h
  have hu : (Try.prog.underlying 33).isSome = true := by kernel_rfl
  have hi : (Try.prog.info? 33).isSome = true := by kernel_rfl
  have hz : ((Try.prog.info? 33).get hi).zero.isSome = true := by kernel_rfl
  exact ⟨⟨(Try.prog.underlying 33).get hu, (Try.prog.info? 33).get hi, ((Try.prog.info? 33).get hi).zero.get hz, (Option.some_get hu).symm, (Option.some_get hi).symm, (Option.some_get hz).symm, by kernel_rfl, by kernel_rfl, by kernel_rfl, by kernel_rfl, by kernel_rfl, fun _ => ⟨(match (Try.prog.underlying 33).get hu with | .struct fs => fs | _ => #[]), by kernel_rfl, by kernel_rfl⟩, fun e h => (by cases h), fun h => (by cases h), fun h => (by cases h), fun k h => (by cases h)⟩⟩
theorem tt42 : ∀ t, tt 42 = some t → TIok Try.prog 42 t := by
  intro t h
  cases h
  have hu : (Try.prog.underlying 42).isSome = true := by kernel_rfl
  have hi : (Try.prog.info? 42).isSome = true := by kernel_rfl
  have hz : ((Try.prog.info? 42).get hi).zero.isSome = true := by kernel_rfl
  exact ⟨⟨(Try.prog.underlying 42).get hu, (Try.prog.info? 42).get hi, ((Try.prog.info? 42).get hi).zero.get hz, (Option.some_get hu).symm, (Option.some_get hi).symm, (Option.some_get hz).symm, by kernel_rfl, by kernel_rfl, by kernel_rfl, by kernel_rfl, by kernel_rfl, fun h => absurd rfl h, fun e h => (by cases h; kernel_rfl), fun h => (by cases h), fun h => (by cases h), fun k h => (by cases h)⟩⟩
theorem tt43 : ∀ t, tt 43 = some t → TIok Try.prog 43 t := by
  intro t h
  cases h
  have hu : (Try.prog.underlying 43).isSome = true := by kernel_rfl
  have hi : (Try.prog.info? 43).isSome = true := by kernel_rfl
  have hz : ((Try.prog.info? 43).get hi).zero.isSome = true := by kernel_rfl
  exact ⟨⟨(Try.prog.underlying 43).get hu, (Try.prog.info? 43).get hi, ((Try.prog.info? 43).get hi).zero.get hz, (Option.some_get hu).symm, (Option.some_get hi).symm, (Option.some_get hz).symm, by kernel_rfl, by kernel_rfl, by kernel_rfl, by kernel_rfl, by kernel_rfl, fun h => absurd rfl h, fun e h => (by cases h; kernel_rfl), fun h => (by cases h), fun h => (by cases h), fun k h => (by cases h)⟩⟩
theorem tt45 : ∀ t, tt 45 = some t → TIok Try.prog 45 t := by
  intro t h
  cases h
  have hu : (Try.prog.underlying 45).isSome = true := by kernel_rfl
  have hi : (Try.prog.info? 45).isSome = true := by kernel_rfl
  have hz : ((Try.prog.info? 45).get hi).zero.isSome = true := by kernel_rfl
  exact ⟨⟨(Try.prog.underlying 45).get hu, (Try.prog.info? 45).get hi, ((Try.prog.info? 45).get hi).zero.get hz, (Option.some_get hu).symm, (Option.some_get hi).symm, (Option.some_get hz).symm, by kernel_rfl, by kernel_rfl, by kernel_rfl, by kernel_rfl, by kernel_rfl, fun _ => ⟨(match (Try.prog.underlying 45).get hu with | .struct fs => fs | _ => #[]), by kernel_rfl, by kernel_rfl⟩, fun e h => (by cases h), fun h => (by cases h), fun h => (by cases h), fun k h => (by cases h)⟩⟩
theorem tt46 : ∀ t, tt 46 = some t → TIok Try.prog 46 t := by
  intro t h
  cases h
  have hu : (Try.prog.underlying 46).isSome = true := by kernel_rfl
  have hi : (Try.prog.info? 46).isSome = true := by kernel_rfl
  have hz : ((Try.prog.info? 46).get hi).zero.isSome = true := by kernel_rfl
  exact ⟨⟨(Try.prog.underlying 46).get hu, (Try.prog.info? 46).get hi, ((Try.prog.info? 46).get hi).zero.get hz, (Option.some_get hu).symm, (Option.some_get hi).symm, (Option.some_get hz).symm, by kernel_rfl, by kernel_rfl, by kernel_rfl, by kernel_rfl, by kernel_rfl, fun h => absurd rfl h, fun e h => (by cases h), fun h => (by cases h), fun h => (by cases h), fun k h => (by cases h; kernel_rfl)⟩⟩
theorem tt48 : ∀ t, tt 48 = some t → TIok Try.prog 48 t := by
  intro t h
  cases h
  have hu : (Try.prog.underlying 48).isSome = true := by kernel_rfl
  have hi : (Try.prog.info? 48).isSome = true := by kernel_rfl
  have hz : ((Try.prog.info? 48).get hi).zero.isSome = true := by kernel_rfl
  exact ⟨⟨(Try.prog.underlying 48).get hu, (Try.prog.info? 48).get hi, ((Try.prog.info? 48).get hi).zero.get hz, (Option.some_get hu).symm, (Option.some_get hi).symm, (Option.some_get hz).symm, by kernel_rfl, by kernel_rfl, by kernel_rfl, by kernel_rfl, by kernel_rfl, fun _ => ⟨(match (Try.prog.underlying 48).get hu with | .struct fs => fs | _ => #[]), by kernel_rfl, by kernel_rfl⟩, fun e h => (by cases h), fun h => (by cases h), fun h => (by cases h), fun k h => (by cases h)⟩⟩
theorem tt56 : ∀ t, tt 56 = some t → TIok Try.prog 56 t := by
  intro t h
  cases h
  have hu : (Try.prog.underlying 56).isSome = true := by kernel_rfl
  have hi : (Try.prog.info? 56).isSome = true := by kernel_rfl
  have hz : ((Try.prog.info? 56).get hi).zero.isSome = true := by kernel_rfl
  exact ⟨⟨(Try.prog.underlying 56).get hu, (Try.prog.info? 56).get hi, ((Try.prog.info? 56).get hi).zero.get hz, (Option.some_get hu).symm, (Option.some_get hi).symm, (Option.some_get hz).symm, by kernel_rfl, by kernel_rfl, by kernel_rfl, by kernel_rfl, by kernel_rfl, fun _ => ⟨(match (Try.prog.underlying 56).get hu with | .struct fs => fs | _ => #[]), by kernel_rfl, by kernel_rfl⟩, fun e h => (by cases h), fun h => (by cases h), fun h => (by cases h), fun k h => (by cases h)⟩⟩
theorem tt58 : ∀ t, tt 58 = some t → TIok Try.prog 58 t := by
  intro t h
  cases h
  have hu : (Try.prog.underlying 58).isSome = true := by kernel_rfl
  have hi : (Try.prog.info? 58).isSome = true := by kernel_rfl
  have hz : ((Try.prog.info? 58).get hi).zero.isSome = true := by kernel_rfl
  exact ⟨⟨(Try.prog.underlying 58).get hu, (Try.prog.info? 58).get hi, ((Try.prog.info? 58).get hi).zero.get hz, (Option.some_get hu).symm, (Option.some_get hi).symm, (Option.some_get hz).symm, by kernel_rfl, by kernel_rfl, by kernel_rfl, by kernel_rfl, by kernel_rfl, fun _ => ⟨(match (Try.prog.underlying 58).get hu with | .struct fs => fs | _ => #[]), by kernel_rfl, by kernel_rfl⟩, fun e h => (by cases h), fun h => (by cases h), fun h => (by cases h), fun k h => (by cases h)⟩⟩
theorem tt70 : ∀ t, tt 70 = some t → TIok Try.prog 70 t := by
  intro t h
  cases h
  have hu : (Try.prog.underlying 70).isSome = true := by kernel_rfl
  have hi : (Try.prog.info? 70).isSome = true := by kernel_rfl
  have hz : ((Try.prog.info? 70).get hi).zero.isSome = true := by kernel_rfl
  exact ⟨⟨(Try.prog.underlying 70).get hu, (Try.prog.info? 70).get hi, ((Try.prog.info? 70).get hi).zero.get hz, (Option.some_get hu).symm, (Option.some_get hi).symm, (Option.some_get hz).symm, by kernel_rfl, by kernel_rfl, by kernel_rfl, by kernel_rfl, by kernel_rfl, fun h => absurd rfl h, fun e h => (by cases h; kernel_rfl), fun h => (by cases h), fun h => (by cases h), fun k h => (by cases h)⟩⟩
theorem tt74 : ∀ t, tt 74 = some t → TIok Try.prog 74 t := by
  intro t h
  cases h
  have hu : (Try.prog.underlying 74).isSome = true := by kernel_rfl
  have hi : (Try.prog.info? 74).isSome = true := by kernel_rfl
  have hz : ((Try.prog.info? 74).get hi).zero.isSome = true := by kernel_rfl
  exact ⟨⟨(Try.prog.underlying 74).get hu, (Try.prog.info? 74).get hi, ((Try.prog.info? 74).get hi).zero.get hz, (Option.some_get hu).symm, (Option.some_get hi).symm, (Option.some_get hz).symm, by kernel_rfl, by kernel_rfl, by kernel_rfl, by kernel_rfl, by kernel_rfl, fun _ => ⟨(match (Try.prog.underlying 74).get hu with | .struct fs => fs | _ => #[]), by kernel_rfl, by kernel_rfl⟩, fun e h => (by cases h), fun h => (by cases h), fun h => (by cases h), fun k h => (by cases h)⟩⟩
theorem tt76 : ∀ t, tt 76 = some t → TIok Try.prog 76 t := by
  intro t h
  cases h
  have hu : (Try.prog.underlying 76).isSome = true := by kernel_rfl
  have hi : (Try.prog.info? 76).isSome = true := by kernel_rfl
  have hz : ((Try.prog.info? 76).get hi).zero.isSome = true := by kernel_rfl
  exact ⟨⟨(Try.prog.underlying 76).get hu, (Try.prog.info? 76).get hi, ((Try.prog.info? 76).get hi).zero.get hz, (Option.some_get hu).symm, (Option.some_get hi).symm, (Option.some_get hz).symm, by kernel_rfl, by kernel_rfl, by kernel_rfl, by kernel_rfl, by kernel_rfl, fun _ => ⟨(match (Try.prog.underlying 76).get hu with | .struct fs => fs | _ => #[]), by kernel_rfl, by kernel_rfl⟩, fun e h => (by cases h), fun h => (by cases h), fun h => (by cases h), fun k h => (by cases h)⟩⟩
theorem tt79 : ∀ t, tt 79 = some t → TIok Try.prog 79 t := by
  intro t h
  cases h
  have hu : (Try.prog.underlying 79).isSome = true := by kernel_rfl
  have hi : (Try.prog.info? 79).isSome = true := by kernel_rfl
  have hz : ((Try.prog.info? 79).get hi).zero.isSome = true := by kernel_rfl
  exact ⟨⟨(Try.prog.underlying 79).get hu, (Try.prog.info? 79).get hi, ((Try.prog.info? 79).get hi).zero.get hz, (Option.some_get hu).symm, (Option.some_get hi).symm, (Option.some_get hz).symm, by kernel_rfl, by kernel_rfl, by kernel_rfl, by kernel_rfl, by kernel_rfl, fun _ => ⟨(match (Try.prog.underlying 79).get hu with | .struct fs => fs | _ => #[]), by kernel_rfl, by kernel_rfl⟩, fun e h => (by cases h), fun h => (by cases h), fun h => (by cases h), fun k h => (by cases h)⟩⟩
theorem tt85 : ∀ t, tt 85 = some t → TIok Try.prog 85 t := by
  intro t h
  cases h
  have hu : (Try.prog.underlying 85).isSome = true := by kernel_rfl
  have hi : (Try.prog.info? 85).isSome = true := by kernel_rfl
  have hz : ((Try.prog.info? 85).get hi).zero.isSome = true := by kernel_rfl
  exact ⟨⟨(Try.prog.underlying 85).get hu, (Try.prog.info? 85).get hi, ((Try.prog.info? 85).get hi).zero.get hz, (Option.some_get hu).symm, (Option.some_get hi).symm, (Option.some_get hz).symm, by kernel_rfl, by kernel_rfl, by kernel_rfl, by kernel_rfl, by kernel_rfl, fun h => absurd rfl h, fun e h => (by cases h; kernel_rfl), fun h => (by cases h), fun h => (by cases h), fun k h => (by cases h)⟩⟩
theorem tt87 : ∀ t, tt 87 = some t → TIok Try.prog 87 t := by
  intro t h
  cases h
  have hu : (Try.prog.underlying 87).isSome = true := by kernel_rfl
  have hi : (Try.prog.info? 87).isSome = true := by kernel_rfl
  have hz : ((Try.prog.info? 87).get hi).zero.isSome = true := by kernel_rfl
  exact ⟨⟨(Try.prog.underlying 87).get hu, (Try.prog.info? 87).get hi, ((Try.prog.info? 87).get hi).zero.get hz, (Option.some_get hu).symm, (Option.some_get hi).symm, (Option.some_get hz).symm, by kernel_rfl, by kernel_rfl, by kernel_rfl, by kernel_rfl, by kernel_rfl, fun _ => ⟨(match (Try.prog.underlying 87).get hu with | .struct fs => fs | _ => #[]), by kernel_rfl, by kernel_rfl⟩, fun e h => (by cases h), fun h => (by cases h), fun h => (by cases h), fun k h => (by cases h)⟩⟩
theorem tt90 : ∀ t, tt 90 = some t → TIok Try.prog 90 t := by
  intro t h
  cases h
  have hu : (Try.prog.underlying 90).isSome = true := by kernel_rfl
  have hi : (Try.prog.info? 90).isSome = true := by kernel_rfl
  have hz : ((Try.prog.info? 90).get hi).zero.isSome = true := by kernel_rfl
  exact ⟨⟨(Try.prog.underlying 90).get hu, (Try.prog.info? 90).get hi, ((Try.prog.info? 90).get hi).zero.get hz, (Option.some_get hu).symm, (Option.some_get hi).symm, (Option.some_get hz).symm, by kernel_rfl, by kernel_rfl, by kernel_rfl, by kernel_rfl, by kernel_rfl, fun h => absurd rfl h, fun e h => (by cases h), fun h => (by cases h), fun _ => (by kernel_rfl), fun k h => (by cases h)⟩⟩
theorem tt91 : ∀ t, tt 91 = some t → TIok Try.prog 91 t := by
  intro t h
  cases h
  have hu : (Try.prog.underlying 91).isSome = true := by kernel_rfl
  have hi : (Try.prog.info? 91).isSome = true := by kernel_rfl
  have hz : ((Try.prog.info? 91).get hi).zero.isSome = true := by kernel_rfl
  exact ⟨⟨(Try.prog.underlying 91).get hu, (Try.prog.info? 91).get hi, ((Try.prog.info? 91).get hi).zero.get hz, (Option.some_get hu).symm, (Option.some_get hi).symm, (Option.some_get hz).symm, by kernel_rfl, by kernel_rfl, by kernel_rfl, by kernel_rfl, by kernel_rfl, fun h => absurd rfl h, fun e h => (by cases h), fun h => (by cases h), fun h => (by cases h), fun k h => (by cases h)⟩⟩
theorem tt93 : ∀ t, tt 93 = some t → TIok Try.prog 93 t := by
  intro t h
  cases h
  have hu : (Try.prog.underlying 93).isSome = true := by kernel_rfl
  have hi : (Try.prog.info? 93).isSome = true := by kernel_rfl
  have hz : ((Try.prog.info? 93).get hi).zero.isSome = true := by kernel_rfl
  exact ⟨⟨(Try.prog.underlying 93).get hu, (Try.prog.info? 93).get hi, ((Try.prog.info? 93).get hi).zero.get hz, (Option.some_get hu).symm, (Option.some_get hi).symm, (Option.some_get hz).symm, by kernel_rfl, by kernel_rfl, by kernel_rfl, by kernel_rfl, by kernel_rfl, fun _ => ⟨(match (Try.prog.underlying 93).get hu with | .struct fs => fs | _ => #[]), by kernel_rfl, by kernel_rfl⟩, fun e h => (by cases h), fun h => (by cases h), fun h => (by cases h), fun k h => (by cases h)⟩⟩
theorem tt101 : ∀ t, tt 101 = some t → TIok Try.prog 101 t := by
  intro t h
  cases h
  have hu : (Try.prog.underlying 101).isSome = true := by kernel_rfl
  have hi : (Try.prog.info? 101).isSome = true := by kernel_rfl
  have hz : ((Try.prog.info? 101).get hi).zero.isSome = true := by kernel_rfl
  exact ⟨⟨(Try.prog.underlying 101).get hu, (Try.prog.info? 101).get hi, ((Try.prog.info? 101).get hi).zero.get hz, (Option.some_get hu).symm, (Option.some_get hi).symm, (Option.some_get hz).symm, by kernel_rfl, by kernel_rfl, by kernel_rfl, by kernel_rfl, by kernel_rfl, fun _ => ⟨(match (Try.prog.underlying 101).get hu with | .struct fs => fs | _ => #[]), by kernel_rfl, by kernel_rfl⟩, fun e h => (by cases h), fun h => (by cases h), fun h => (by cases h), fun k h => (by cases h)⟩⟩
theorem tt106 : ∀ t, tt 106 = some t → TIok Try.prog 106 t := by
  intro t h
  cases h
  have hu : (Try.prog.underlying 106).isSome = true := by kernel_rfl
  have hi : (Try.prog.info? 106).isSome = true := by kernel_rfl
  have hz : ((Try.prog.info? 106).get hi).zero.isSome = true := by kernel_rfl
  exact ⟨⟨(Try.prog.underlying 106).get hu, (Try.prog.info? 106).get hi, ((Try.prog.info? 106).get hi).zero.get hz, (Option.some_get hu).symm, (Option.some_get hi).symm, (Option.some_get hz).symm, by kernel_rfl, by kernel_rfl, by kernel_rfl, by kernel_rfl, by kernel_rfl, fun h => absurd rfl h, fun e h => (by cases h), fun h => (by cases h), fun _ => (by kernel_rfl), fun k h => (by cases h)⟩⟩
theorem tt109 : ∀ t, tt 109 = some t → TIok Try.prog 109 t := by
  intro t h
  cases h
  have hu : (Try.prog.underlying 109).isSome = true := by kernel_rfl
  have hi : (Try.prog.info? 109).isSome = true := by kernel_rfl
  have hz : ((Try.prog.info? 109).get hi).zero.isSome = true := by kernel_rfl
  exact ⟨⟨(Try.prog.underlying 109).get hu, (Try.prog.info? 109).get hi, ((Try.prog.info? 109).get hi).zero.get hz, (Option.some_get hu).symm, (Option.some_get hi).symm, (Option.some_get hz).symm, by kernel_rfl, by kernel_rfl, by kernel_rfl, by kernel_rfl, by kernel_rfl, fun _ => ⟨(match (Try.prog.underlying 109).get hu with | .struct fs => fs | _ => #[]), by kernel_rfl, by kernel_rfl⟩, fun e h => (by cases h), fun h => (by cases h), fun h => (by cases h), fun k h => (by cases h)⟩⟩
theorem tt114 : ∀ t, tt 114 = some t → TIok Try.prog 114 t := by
  intro t h
  cases h
  have hu : (Try.prog.underlying 114).isSome = true := by kernel_rfl
  have hi : (Try.prog.info? 114).isSome = true := by kernel_rfl
  have hz : ((Try.prog.info? 114).get hi).zero.isSome = true := by kernel_rfl
  exact ⟨⟨(Try.prog.underlying 114).get hu, (Try.prog.info? 114).get hi, ((Try.prog.info? 114).get hi).zero.get hz, (Option.some_get hu).symm, (Option.some_get hi).symm, (Option.some_get hz).symm, by kernel_rfl, by kernel_rfl, by kernel_rfl, by kernel_rfl, by kernel_rfl, fun _ => ⟨(match (Try.prog.underlying 114).get hu with | .struct fs => fs | _ => #[]), by kernel_rfl, by kernel_rfl⟩, fun e h => (by cases h), fun h => (by cases h), fun h => (by cases h), fun k h => (by cases h)⟩⟩
theorem tt142 : ∀ t, tt 142 = some t → TIok Try.prog 142 t := by
  intro t h
  cases h
  have hu : (Try.prog.underlying 142).isSome = true := by kernel_rfl
  have hi : (Try.prog.info? 142).isSome = true := by kernel_rfl
  have hz : ((Try.prog.info? 142).get hi).zero.isSome = true := by kernel_rfl
  exact ⟨⟨(Try.prog.underlying 142).get hu, (Try.prog.info? 142).get hi, ((Try.prog.info? 142).get hi).zero.get hz, (Option.some_get hu).symm, (Option.some_get hi).symm, (Option.some_get hz).symm, by kernel_rfl, by kernel_rfl, by kernel_rfl, by kernel_rfl, by kernel_rfl, fun h => absurd rfl h, fun e h => (by cases h; kernel_rfl), fun h => (by cases h), fun h => (by cases h), fun k h => (by cases h)⟩⟩
theorem tt144 : ∀ t, tt 144 = some t → TIok Try.prog 144 t := by
  intro t h
  cases h
  have hu : (Try.prog.underlying 144).isSome = true := by kernel_rfl
  have hi : (Try.prog.info? 144).isSome = true := by kernel_rfl
  have hz : ((Try.prog.info? 144).get hi).zero.isSome = true := by kernel_rfl
  exact ⟨⟨(Try.prog.underlying 144).get hu, (Try.prog.info? 144).get hi, ((Try.prog.info? 144).get hi).zero.get hz, (Option.some_get hu).symm, (Option.some_get hi).symm, (Option.some_get hz).symm, by kernel_rfl, by kernel_rfl, by kernel_rfl, by kernel_rfl, by kernel_rfl, fun h => absurd rfl h, fun e h => (by cases h; kernel_rfl), fun h => (by cases h), fun h => (by cases h), fun k h => (by cases h)⟩⟩
theorem tt146 : ∀ t, tt 146 = some t → TIok Try.prog 146 t := by
  intro t h
  cases h
  have hu : (Try.prog.underlying 146).isSome = true := by kernel_rfl
  have hi : (Try.prog.info? 146).isSome = true := by kernel_rfl
  have hz : ((Try.prog.info? 146).get hi).zero.isSome = true := by kernel_rfl
  exact ⟨⟨(Try.prog.underlying 146).get hu, (Try.prog.info? 146).get hi, ((Try.prog.info? 146).get hi).zero.get hz, (Option.some_get hu).symm, (Option.some_get hi).symm, (Option.some_get hz).symm, by kernel_rfl, by kernel_rfl, by kernel_rfl, by kernel_rfl, by kernel_rfl, fun h => absurd rfl h, fun e h => (by cases h), fun h => (by cases h), fun _ => (by kernel_rfl), fun k h => (by cases h)⟩⟩
theorem tt149 : ∀ t, tt 149 = some t → TIok Try.prog 149 t := by
  intro t h
  cases h
  have hu : (Try.prog.underlying 149).isSome = true := by kernel_rfl
  have hi : (Try.prog.info? 149).isSome = true := by kernel_rfl
  have hz : ((Try.prog.info? 149).get hi).zero.isSome = true := by kernel_rfl
  exact ⟨⟨(Try.prog.underlying 149).get hu, (Try.prog.info? 149).get hi, ((Try.prog.info? 149).get hi).zero.get hz, (Option.some_get hu).symm, (Option.some_get hi).symm, (Option.some_get hz).symm, by kernel_rfl, by kernel_rfl, by kernel_rfl, by kernel_rfl, by kernel_rfl, fun h => absurd rfl h, fun e h => (by cases h), fun h => (by cases h), fun h => (by cases h), fun k h => (by cases h; kernel_rfl)⟩⟩
theorem tt165 : ∀ t, tt 165 = some t → TIok Try.prog 165 t := by
  intro t h
  cases h
  have hu : (Try.prog.underlying 165).isSome = true := by kernel_rfl
  have hi : (Try.prog.info? 165).isSome = true := by kernel_rfl
  have hz : ((Try.prog.info? 165).get hi).zero.isSome = true := by kernel_rfl
  exact ⟨⟨(Try.prog.underlying 165).get hu, (Try.prog.info? 165).get hi, ((Try.prog.info? 165).get hi).zero.get hz, (Option.some_get hu).symm, (Option.some_get hi).symm, (Option.some_get hz).symm, by kernel_rfl, by kernel_rfl, by kernel_rfl, by kernel_rfl, by kernel_rfl, fun h => absurd rfl h, fun e h => (by cases h; kernel_rfl), fun h => (by cases h), fun h => (by cases h), fun k h => (by cases h)⟩⟩
theorem tt167 : ∀ t, tt 167 = some t → TIok Try.prog 167 t := by
  intro t h
  cases h
  have hu : (Try.prog.underlying 167).isSome = true := by kernel_rfl
  have hi : (Try.prog.info? 167).isSome = true := by kernel_rfl
  have hz : ((Try.prog.info? 167).get hi).zero.isSome = true := by kernel_rfl
  exact ⟨⟨(Try.prog.underlying 167).get hu, (Try.prog.info? 167).get hi, ((Try.prog.info? 167).get hi).zero.get hz, (Option.some_get hu).symm, (Option.some_get hi).symm, (Option.some_get hz).symm, by kernel_rfl, by kernel_rfl, by kernel_rfl, by kernel_rfl, by kernel_rfl, fun _ => ⟨(match (Try.prog.underlying 167).get hu with | .struct fs => fs | _ => #[]), by kernel_rfl, by kernel_rfl⟩, fun e h => (by cases h), fun h => (by cases h), fun h => (by cases h), fun k h => (by cases h)⟩⟩
theorem tt169 : ∀ t, tt 169 = some t → TIok Try.prog 169 t := by
  intro t h
  cases h
  have hu : (Try.prog.underlying 169).isSome = true := by kernel_rfl
  have hi : (Try.prog.info? 169).isSome = true := by kernel_rfl
  have hz : ((Try.prog.info? 169).get hi).zero.isSome = true := by kernel_rfl
  exact ⟨⟨(Try.prog.underlying 169).get hu, (Try.prog.info? 169).get hi, ((Try.prog.info? 169).get hi).zero.get hz, (Option.some_get hu).symm, (Option.some_get hi).symm, (Option.some_get hz).symm, by kernel_rfl, by kernel_rfl, by kernel_rfl, by kernel_rfl, by kernel_rfl, fun _ => ⟨(match (Try.prog.underlying 169).get hu with | .struct fs => fs | _ => #[]), by kernel_rfl, by kernel_rfl⟩, fun e h => (by cases h), fun h => (by cases h), fun h => (by cases h), fun k h => (by cases h)⟩⟩
theorem tt171 : ∀ t, tt 171 = some t → TIok Try.prog 171 t := by
  intro t h
  cases h
  have hu : (Try.prog.underlying 171).isSome = true := by kernel_rfl
  have hi : (Try.prog.info? 171).isSome = true := by kernel_rfl
  have hz : ((Try.prog.info? 171).get hi).zero.isSome = true := by kernel_rfl
  exact ⟨⟨(Try.prog.underlying 171).get hu, (Try.prog.info? 171).get hi, ((Try.prog.info? 171).get hi).zero.get hz, (Option.some_get hu).symm, (Option.some_get hi).symm, (Option.some_get hz).symm, by kernel_rfl, by kernel_rfl, by kernel_rfl, by kernel_rfl, by kernel_rfl, fun h => absurd rfl h, fun e h => (by cases h), fun h => (by cases h), fun _ => (by kernel_rfl), fun k h => (by cases h)⟩⟩
theorem tt173 : ∀ t, tt 173 = some t → TIok Try.prog 173 t := by
  intro t h
  cases h
  have hu : (Try.prog.underlying 173).isSome = true := by kernel_rfl
  have hi : (Try.prog.info? 173).isSome = true := by kernel_rfl
  have hz : ((Try.prog.info? 173).get hi).zero.isSome = true := by kernel_rfl
  exact ⟨⟨(Try.prog.underlying 173).get hu, (Try.prog.info? 173).get hi, ((Try.prog.info? 173).get hi).zero.get hz, (Option.some_get hu).symm, (Option.some_get hi).symm, (Option.some_get hz).symm, by kernel_rfl, by kernel_rfl, by kernel_rfl, by kernel_rfl, by kernel_rfl, fun _ => ⟨(match (Try.prog.underlying 173).get hu with | .struct fs => fs | _ => #[]), by kernel_rfl, by kernel_rfl⟩, fun e h => (by cases h), fun h => (by cases h), fun h => (by cases h), fun k h => (by cases h)⟩⟩
theorem tt204 : ∀ t, tt 204 = some t → TIok Try.prog 204 t := by
  intro t h
  cases h
  have hu : (Try.prog.underlying 204).isSome = true := by kernel_rfl
  have hi : (Try.prog.info? 204).isSome = true := by kernel_rfl
  have hz : ((Try.prog.info? 204).get hi).zero.isSome = true := by kernel_rfl
  exact ⟨⟨(Try.prog.underlying 204).get hu, (Try.prog.info? 204).get hi, ((Try.prog.info? 204).get hi).zero.get hz, (Option.some_get hu).symm, (Option.some_get hi).symm, (Option.some_get hz).symm, by kernel_rfl, by kernel_rfl, by kernel_rfl, by kernel_rfl, by kernel_rfl, fun _ => ⟨(match (Try.prog.underlying 204).get hu with | .struct fs => fs | _ => #[]), by kernel_rfl, by kernel_rfl⟩, fun e h => (by cases h), fun h => (by cases h), fun h => (by cases h), fun k h => (by cases h)⟩⟩
theorem tt236 : ∀ t, tt 236 = some t → TIok Try.prog 236 t := by
  intro t h
  cases h
  have hu : (Try.prog.underlying 236).isSome = true := by kernel_rfl
  have hi : (Try.prog.info? 236).isSome = true := by kernel_rfl
  have hz : ((Try.prog.info? 236).get hi).zero.isSome = true := by kernel_rfl
  exact ⟨⟨(Try.prog.underlying 236).get hu, (Try.prog.info? 236).get hi, ((Try.prog.info? 236).get hi).zero.get hz, (Option.some_get hu).symm, (Option.some_get hi).symm, (Option.some_get hz).symm, by kernel_rfl, by kernel_rfl, by kernel_rfl, by kernel_rfl, by kernel_rfl, fun h => absurd rfl h, fun e h => (by cases h), fun h => (by cases h), fun h => (by cases h), fun k h => (by cases h; kernel_rfl)⟩⟩
theorem tt259 : ∀ t, tt 259 = some t → TIok Try.prog 259 t := by
  intro t h
  cases h
  have hu : (Try.prog.underlying 259).isSome = true := by kernel_rfl
  have hi : (Try.prog.info? 259).isSome = true := by kernel_rfl
  have hz : ((Try.prog.info? 259).get hi).zero.isSome = true := by kernel_rfl
  exact ⟨⟨(Try.prog.underlying 259).get hu, (Try.prog.info? 259).get hi, ((Try.prog.info? 259).get hi).zero.get hz, (Option.some_get hu).symm, (Option.some_get hi).symm, (Option.some_get hz).symm, by kernel_rfl, by kernel_rfl, by kernel_rfl, by kernel_rfl, by kernel_rfl, fun _ => ⟨(match (Try.prog.underlying 259).get hu with | .struct fs => fs | _ => #[]), by kernel_rfl, by kernel_rfl⟩, fun e h => (by cases h), fun h => (by cases h), fun h => (by cases h), fun k h => (by cases h)⟩⟩
theorem tt263 : ∀ t, tt 263 = some t → TIok Try.prog 263 t := by
  intro t h
  cases h
  have hu : (Try.prog.underlying 263).isSome = true := by kernel_rfl
  have hi : (Try.prog.info? 263).isSome = true := by kernel_rfl
  have hz : ((Try.prog.info? 263).get hi).zero.isSome = true := by kernel_rfl
  exact ⟨⟨(Try.prog.underlying 263).get hu, (Try.prog.info? 263).get hi, ((Try.prog.info? 263).get hi).zero.get hz, (Option.some_get hu).symm, (Option.some_get hi).symm, (Option.some_get hz).symm, by kernel_rfl, by kernel_rfl, by kernel_rfl, by kernel_rfl, by kernel_rfl, fun h => absurd rfl h, fun e h => (by cases h), fun h => (by cases h), fun h => (by cases h), fun k h => (by cases h; kernel_rfl)⟩⟩
theorem tt264 : ∀ t, tt 264 = some t → TIok Try.prog 264 t := by
  intro t h
  cases h
  have hu : (Try.prog.underlying 264).isSome = true := by kernel_rfl
  have hi : (Try.prog.info? 264).isSome = true := by kernel_rfl
  have hz : ((Try.prog.info? 264).get hi).zero.isSome = true := by kernel_rfl
  exact ⟨⟨(Try.prog.underlying 264).get hu, (Try.prog.info? 264).get hi, ((Try.prog.info? 264).get hi).zero.get hz, (Option.some_get hu).symm, (Option.some_get hi).symm, (Option.some_get hz).symm, by kernel_rfl, by kernel_rfl, by kernel_rfl, by kernel_rfl, by kernel_rfl, fun h => absurd rfl h, fun e h => (by cases h), fun h => (by cases h), fun h => (by cases h), fun k h => (by cases h; kernel_rfl)⟩⟩
theorem tt266 : ∀ t, tt 266 = some t → TIok Try.prog 266 t := by
  intro t h
  cases h
  have hu : (Try.prog.underlying 266).isSome = true := by kernel_rfl
  have hi : (Try.prog.info? 266).isSome = true := by kernel_rfl
  have hz : ((Try.prog.info? 266).get hi).zero.isSome = true := by kernel_rfl
  exact ⟨⟨(Try.prog.underlying 266).get hu, (Try.prog.info? 266).get hi, ((Try.prog.info? 266).get hi).zero.get hz, (Option.some_get hu).symm, (Option.some_get hi).symm, (Option.some_get hz).symm, by kernel_rfl, by kernel_rfl, by kernel_rfl, by kernel_rfl, by kernel_rfl, fun h => absurd rfl h, fun e h => (by cases h), fun h => (by cases h), fun _ => (by kernel_rfl), fun k h => (by cases h)⟩⟩
theorem tt267 : ∀ t, tt 267 = some t → TIok Try.prog 267 t := by
  intro t h
  cases h
  have hu : (Try.prog.underlying 267).isSome = true := by kernel_rfl
  have hi : (Try.prog.info? 267).isSome = true := by kernel_rfl
  have hz : ((Try.prog.info? 267).get hi).zero.isSome = true := by kernel_rfl
  exact ⟨⟨(Try.prog.underlying 267).get hu, (Try.prog.info? 267).get hi, ((Try.prog.info? 267).get hi).zero.get hz, (Option.some_get hu).symm, (Option.some_get hi).symm, (Option.some_get hz).symm, by kernel_rfl, by kernel_rfl, by kernel_rfl, by kernel_rfl, by kernel_rfl, fun h => absurd rfl h, fun e h => (by cases h), fun h => (by cases h), fun h => (by cases h), fun k h => (by cases h; kernel_rfl)⟩⟩
theorem tt268 : ∀ t, tt 268 = some t → TIok Try.prog 268 t := by
  intro t h
  cases h
  have hu : (Try.prog.underlying 268).isSome = true := by kernel_rfl
  have hi : (Try.prog.info? 268).isSome = true := by kernel_rfl
  have hz : ((Try.prog.info? 268).get hi).zero.isSome = true := by kernel_rfl
  exact ⟨⟨(Try.prog.underlying 268).get hu, (Try.prog.info? 268).get hi, ((Try.prog.info? 268).get hi).zero.get hz, (Option.some_get hu).symm, (Option.some_get hi).symm, (Option.some_get hz).symm, by kernel_rfl, by kernel_rfl, by kernel_rfl, by kernel_rfl, by kernel_rfl, fun h => absurd rfl h, fun e h => (by cases h), fun h => (by cases h), fun h => (by cases h), fun k h => (by cases h; kernel_rfl)⟩⟩
theorem tt270 : ∀ t, tt 270 = some t → TIok Try.prog 270 t := by
  intro t h
  cases h
  have hu : (Try.prog.underlying 270).isSome = true := by kernel_rfl
  have hi : (Try.prog.info? 270).isSome = true := by kernel_rfl
  have hz : ((Try.prog.info? 270).get hi).zero.isSome = true := by kernel_rfl
  exact ⟨⟨(Try.prog.underlying 270).get hu, (Try.prog.info? 270).get hi, ((Try.prog.info? 270).get hi).zero.get hz, (Option.some_get hu).symm, (Option.some_get hi).symm, (Option.some_get hz).symm, by kernel_rfl, by kernel_rfl, by kernel_rfl, by kernel_rfl, by kernel_rfl, fun _ => ⟨(match (Try.prog.underlying 270).get hu with | .struct fs => fs | _ => #[]), by kernel_rfl, by kernel_rfl⟩, fun e h => (by cases h), fun h => (by cases h), fun h => (by cases h), fun k h => (by cases h)⟩⟩
theorem tab : Tab Try.prog tt := by
  intro T t h
  have h0 := h
  unfold tt at h
  split at h
  · exact tt2 t h0
  · exact tt3 t h0
  · exact tt4 t h0
  · exact tt5 t h0
  · exact tt6 t h0
  · exact tt7 t h0
  · exact tt8 t h0
  · exact tt9 t h0
  · exact tt12 t h0
  · exact tt15 t h0
  · exact tt17 t h0
  · exact tt22 t h0
  · exact tt23 t h0
  · exact tt24 t h0
  · exact tt26 t h0
  · exact tt30 t h0
  · exact tt33 t h0
  · exact tt42 t h0
  · exact tt43 t h0
  · exact tt45 t h0
  · exact tt46 t h0
  · exact tt48 t h0
  · exact tt56 t h0
  · exact tt58 t h0
  · exact tt70 t h0
  · exact tt74 t h0
  · exact tt76 t h0
  · exact tt79 t h0
  · exact tt85 t h0
  · exact tt87 t h0
  · exact tt90 t h0
  · exact tt91 t h0
  · exact tt93 t h0
  · exact tt101 t h0
  · exact tt106 t h0
  · exact tt109 t h0
  · exact tt114 t h0
  · exact tt142 t h0
  · exact tt144 t h0
  · exact tt146 t h0
  · exact tt149 t h0
  · exact tt165 t h0
  · exact tt167 t h0
  · exact tt169 t h0
  · exact tt171 t h0
  · exact tt173 t h0
  · exact tt204 t h0
  · exact tt236 t h0
  · exact tt259 t h0
  · exact tt263 t h0
  · exact tt264 t h0
  · exact tt266 t h0
  · exact tt267 t h0
  · exact tt268 t h0
  · exact tt270 t h0
  cases h
def eqt : Nat → Option (List EK)
  | 7 => some [.i, .i, .b, .i]
  | 8 => some [.i, .i, .b, .i]
  | 33 => some [.i, .b, .i, .i, .i]
  | 48 => some [.i, .i]
  | 76 => some [.i, .i, .i, .s]
  | 79 => some [.s, .i, .i]
  | 204 => some [.s, .i]
  | _ => none
def dk_m_str_i64 : TV U → Option ByteArray
  | .v (.string k) => some k
  | _ => none
def dv_m_str_i64 : TV U → Option Int
  | .v (.int .i64 a1) => some a1
  | _ => none
def k_m_str_i64 : MK U := ⟨.m_str_i64, ByteArray, Int, keS, fun l => l, fun l => l, dk_m_str_i64, dv_m_str_i64, fun x => .v (.int .i64 x), 0⟩
def mt : Nat → Option (MK U)
  | 91 => some k_m_str_i64
  | _ => none
def u8k : Option (U8 U) := some ⟨.u8, fun l => l⟩
abbrev X : Cx := ⟨U, tt, sty, enc, dec, elc, eqt, mt, u8k⟩
theorem cl_i64 (x : Int) : closedL (encS_i64 x) = true := by
  unfold encS_i64
  simp [closedL, SV.closed]
theorem cl_bool (x : Bool) : closedL (encS_bool x) = true := by
  unfold encS_bool
  simp [closedL, SV.closed]
theorem cl_u8 (x : Int) : closedL (encS_u8 x) = true := by
  unfold encS_u8
  simp [closedL, SV.closed]
theorem cl_str (x : ByteArray) : closedL (encS_str x) = true := by
  unfold encS_str
  simp [closedL, SV.closed]
theorem cl_t39 (x : R39) : closedL (encS_t39 x) = true := by
  unfold encS_t39
  simp [closedL, SV.closed]
theorem cl_t69 (x : R69) : closedL (encS_t69 x) = true := by
  unfold encS_t69
  simp [closedL, SV.closed, closedR_map _ cl_i64]
theorem cl_t65 (x : R65) : closedL (encS_t65 x) = true := by
  unfold encS_t65
  simp [closedL, SV.closed, closedR_map _ cl_i64]
theorem cl_t53 (x : R53) : closedL (encS_t53 x) = true := by
  unfold encS_t53
  simp [closedL, SV.closed]
theorem cl_t82 (x : R82) : closedL (encS_t82 x) = true := by
  unfold encS_t82
  simp [closedL, SV.closed]
mutual
theorem cl_t114 : ∀ x, closedL (encS_t114 x) = true
  | .mk .. => by
    unfold encS_t114
    simp [closedL, SV.closed, clL_t114, closedR_map _ cl_str]
theorem clL_t114 : ∀ l, closedR (encL_t114 l) = true
  | [] => rfl
  | x :: l => by
    unfold encL_t114
    simp [closedR, cl_t114 x, clL_t114 l]
end
theorem cl_t90 (x : R90) : closedL (encS_t90 x) = true := by
  unfold encS_t90
  simp [closedL, SV.closed, closedR_map _ cl_t114, closedR_map _ cl_t82]
theorem cl_m_str_i64 (x : ByteArray × Int) : closedL (encS_m_str_i64 x) = true := by
  unfold encS_m_str_i64
  simp [closedL, SV.closed]
theorem mt91 : MKok Try.prog 91 k_m_str_i64 := ⟨by
  have hi : (Try.prog.info? 3).isSome = true := by kernel_rfl
  have hz : ((Try.prog.info? 3).get hi).zero.isSome = true := by kernel_rfl
  refine ⟨9, 3, .string, (Try.prog.info? 3).get hi, ((Try.prog.info? 3).get hi).zero.get hz, fun k => .string k, fun x => .v (.int .i64 x), by kernel_rfl, by kernel_rfl, keyS, (Option.some_get hi).symm, (Option.some_get hz).symm, ?_, rfl, fun l => rfl, fun l => rfl, ?_, ?_, fun b rl => rfl, fun b n => rfl⟩
  · have e : ((Try.prog.info? 3).get hi).zero.get hz = .int .i64 0 := by kernel_rfl
    rw [e]
    exact fun g H => .v _
  · exact fun tv k h => by
      unfold k_m_str_i64 dk_m_str_i64 at h
      dsimp only at h
      split at h <;> try (cases h; done)
      cases h
      exact ⟨by simp, fun rl g H v hv => rep_v hv⟩
  · exact fun tv b h => by
      unfold k_m_str_i64 dv_m_str_i64 at h
      dsimp only at h
      split at h <;> try (cases h; done)
      cases h
      exact ⟨by simp, fun rl g H v hv => hv⟩⟩
theorem enc_ok : ∀ (c : C) (x : T c) (rl : Nat → Nat), itpL rl (enc c x) = encS c x
  | .i64, x, rl => rfl
  | .bool, x, rl => rfl
  | .u8, x, rl => rfl
  | .str, x, rl => rfl
  | .t39, x, rl => rfl
  | .t69, x, rl => rfl
  | .t65, x, rl => rfl
  | .t53, x, rl => rfl
  | .t82, x, rl => rfl
  | .t90, x, rl => rfl
  | .t114, x, rl => (encS_t114_eq x).symm
  | .m_str_i64, x, rl => rfl
theorem dec_ok : ∀ (c : C) (l : List (TV U)) (x : T c) (rl : Nat → Nat), dec0 c l = some x → itpL rl l = encS c x
  | .i64, l, x, rl, h => by
    have h : dec_i64 l = some x := h
    unfold dec_i64 at h
    split at h
    · cases h; rfl
    · cases h
  | .bool, l, x, rl, h => by
    have h : dec_bool l = some x := h
    unfold dec_bool at h
    split at h
    · cases h; rfl
    · cases h
  | .u8, l, x, rl, h => by
    have h : dec_u8 l = some x := h
    unfold dec_u8 at h
    split at h
    · cases h; rfl
    · cases h
  | .str, l, x, rl, h => by
    have h : dec_str l = some x := h
    unfold dec_str at h
    split at h
    · cases h; rfl
    · cases h
  | .t39, l, x, rl, h => by
    have h : dec_t39 l = some x := h
    unfold dec_t39 at h
    split at h
    · cases h; rfl
    · cases h
  | .t69, l, x, rl, h => by
    have h : dec_t69 l = some x := h
    unfold dec_t69 at h
    split at h
    · cases h; rfl
    · cases h
  | .t65, l, x, rl, h => by
    have h : dec_t65 l = some x := h
    unfold dec_t65 at h
    split at h
    · cases h; rfl
    · cases h
  | .t53, l, x, rl, h => by
    have h : dec_t53 l = some x := h
    unfold dec_t53 at h
    split at h
    · cases h; rfl
    · cases h
  | .t82, l, x, rl, h => by
    have h : dec_t82 l = some x := h
    unfold dec_t82 at h
    split at h
    · cases h; rfl
    · cases h
  | .t90, l, x, rl, h => by
    have h : dec_t90 l = some x := h
    unfold dec_t90 at h
    split at h
    · cases h; rfl
    · cases h
  | .t114, l, x, rl, h => by
    have h : dec_t114 l = some x := h
    unfold dec_t114 at h
    split at h
    · cases h; show itpL rl _ = encS_t114 _; rw [encS_t114_eq]; rfl
    · cases h
  | .m_str_i64, l, x, rl, h => by cases h
theorem X_ok : CxOk Try.prog X where
  eqt := fun T ks h => by
    have h : eqt T = some ks := h
    unfold eqt at h
    split at h <;> first | (cases h; done) | (cases h; show eqTb _ _ _ = true; kernel_rfl)
  tab := tab
  str := fun T h => by
    have h : sty T = true := h
    unfold sty at h
    split at h <;> first | (cases h; done) | exact Try.underlying9
  enc := fun c x rl => enc_ok c x rl
  encb := fun c x => by cases c <;> rfl
  dec := fun c l x rl h g H vs hv => by
    have h : dec0 c (prepL (shape c) l) = some x := h
    have := repL_prep (shape c) l hv
    rw [dec_ok c _ x rl h] at this
    exact this
  len := fun c x => by cases c <;> first | rfl | (cases x; rfl)
  pos := fun c => by cases c <;> decide
  one := fun c x => by cases c <;> first | rfl | (cases x; rfl)
  closed := fun c x => by
    cases c
    · exact cl_i64 x
    · exact cl_bool x
    · exact cl_u8 x
    · exact cl_str x
    · exact cl_t39 x
    · exact cl_t69 x
    · exact cl_t65 x
    · exact cl_t53 x
    · exact cl_t82 x
    · exact cl_t90 x
    · exact cl_t114 x
    · exact cl_m_str_i64 x
  mt := fun T m h => by
    have h : mt T = some m := h
    unfold mt at h
    split at h <;> first | (cases h; done) | (cases h; exact mt91)
  u8k := fun q h => by
    have h : u8k = some q := h
    cases h
    exact ⟨rfl, fun l => rfl⟩
theorem mixed : Try.prog.follows .mixedOrders = true := rfl
end Go.Proofs.Ytpkgikchphgfaaa.Fl
/- Told states, told briefly. -/
namespace Go.Proofs.Ytpkgikchphgfaaa.Eng
open Go Go.RowKit
set_option linter.unusedVariables false
set_option linter.unusedSimpArgs false
section
variable {U : Univ}
def unsp : Nat → Nat → List (Nat × TV U) → List (TV U)
  | _, 0, _ => []
  | k, n + 1, [] => .junk :: unsp (k + 1) n []
  | k, n + 1, (i, x) :: r => match Nat.beq i k with
    | true => x :: unsp (k + 1) n r
    | false => .junk :: unsp (k + 1) n ((i, x) :: r)
/-- A state by the slots of which something is told. -/
def mkS (n : Nat) (l : List (Nat × TV U)) (objs : List (TO U)) (hin : Nat) : TS U := ⟨unsp 0 n l, objs, hin⟩
def nonJ : Nat → List (TV U) → List (Nat × TV U)
  | _, [] => []
  | k, x :: l => match x.isJunk with
    | true => nonJ (k + 1) l
    | false => (k, x) :: nonJ (k + 1) l
theorem nonJ_ge : ∀ (k : Nat) (l : List (TV U)), ∀ p ∈ nonJ k l, k ≤ p.1
  | k, [], p, h => by cases h
  | k, x :: l, p, h => by
    have ih := nonJ_ge (k + 1) l p
    unfold nonJ at h
    split at h
    · have := ih h
      omega
    · rcases List.mem_cons.1 h with rfl | h
      · exact Nat.le_refl _
      · have := ih h
        omega
theorem junk_of {x : TV U} (h : x.isJunk = true) : x = .junk := by cases x <;> first | rfl | cases h
theorem unsp_nonJ : ∀ (l : List (TV U)) (k : Nat), unsp k l.length (nonJ k l) = l
  | [], k => rfl
  | x :: l, k => by
    have ih := unsp_nonJ l (k + 1)
    have hg := nonJ_ge (k + 1) l
    rw [List.length_cons]
    unfold nonJ
    split
    · rename_i e
      obtain rfl := junk_of e
      cases hq : nonJ (k + 1) l with
      | nil =>
        rw [hq] at ih
        show TV.junk :: unsp (k + 1) l.length [] = _
        rw [ih]
      | cons p r =>
        obtain ⟨i, y⟩ := p
        have h1 : k + 1 ≤ i := hg (i, y) (by rw [hq]; exact List.mem_cons_self)
        have hb : Nat.beq i k = false := by
          cases hb : Nat.beq i k with
          | false => rfl
          | true => have := Nat.eq_of_beq_eq_true hb; omega
        rw [hq] at ih
        unfold unsp
        rw [hb]
        dsimp only
        rw [ih]
    · unfold unsp
      rw [Nat.beq_refl]
      dsimp only
      rw [ih]
/-- The slots of which something is told, if it is just these. -/
def told (s : TS U) (n : Nat) (ix : List Nat) (hin : Nat) : Option (List (TV U)) :=
  match Nat.beq s.slots.length n && eqN ((nonJ 0 s.slots).map (·.1)) ix && Nat.beq s.hin hin with
  | true => some ((nonJ 0 s.slots).map (·.2))
  | false => none
theorem told_ok {s : TS U} {n : Nat} {ix : List Nat} {hin : Nat} {vs : List (TV U)} (h : told s n ix hin = some vs) : s = mkS n (ix.zip vs) s.objs hin := by
  unfold told at h
  split at h <;> try (cases h; done)
  rename_i hc
  cases h
  simp only [Bool.and_eq_true] at hc
  obtain ⟨⟨h1, h2⟩, h3⟩ := hc
  have e1 := Nat.eq_of_beq_eq_true h1
  have e2 := eqN_ok h2
  have e3 := Nat.eq_of_beq_eq_true h3
  have hz : ∀ l : List (Nat × TV U), (l.map (·.1)).zip (l.map (·.2)) = l := by
    intro l
    induction l with
    | nil => rfl
    | cons p l ih => rw [List.map_cons, List.map_cons, List.zip_cons_cons, ih]
  subst e1 e3
  rw [← e2, hz]
  unfold mkS
  rw [unsp_nonJ]
/-- The body of the loop of a block. -/
def loopAt (fn : Func) (b : Nat) : Code := match fn.body with
  | none => .skip
  | some c => ((loops c 0).find? fun q => Nat.beq q.1 b).elim .skip (·.2)
end
/-- The rounds of a function's loop. -/
def fnLoop (X : Cx) (E : FuncId → Option (Spc X.U)) (an : Ann) (lp : Lp X.U) (fn : Func) (b n : Nat) (s : TS X.U) : Option (Exit × TS X.U) :=
  loopR (an.live b) (an.out b) (fun s K => evC X E an lp (loopAt fn b) b s K) n s
/-- What is told of loops, block by block. -/
theorem LpOk.of {X : Cx} {E : FuncId → Option (Spc X.U)} {an : Ann} {lp : Lp X.U} {fn : Func} {c : Code} (hc : fn.body = some c) (hnd : nodupN ((loops c 0).map (·.1)) = true)
    (h : ∀ b s p, memN b ((loops c 0).map (·.1)) = true → lp.F b s (fun ex s' => some (ex, s')) = some p → ∃ n, fnLoop X E an lp fn b n s = some p)
    (hP : ∀ (b : Nat) (s : TS X.U) (R : Type) (K : Exit → TS X.U → Option R) (r : R), lp.F b s K = some r → ∃ ex s', K ex s' = some r ∧ ∀ {R' : Type} (K' : Exit → TS X.U → Option R'), lp.F b s K' = K' ex s') : LpOk X E an lp (loops c 0) := by
  refine ⟨fun q hq s p hs => ?_, hP⟩
  obtain ⟨n, hn⟩ := h q.1 s p (memN_iff.2 (List.mem_map.2 ⟨q, hq, rfl⟩)) hs
  refine ⟨n, ?_⟩
  have hl : loopAt fn q.1 = q.2 := by
    unfold loopAt
    rw [hc]
    dsimp only
    have key : ∀ l : List (Nat × Code), nodupN (l.map (·.1)) = true → q ∈ l → l.find? (fun p => Nat.beq p.1 q.1) = some q := by
      intro l
      induction l with
      | nil => intro _ h; cases h
      | cons p l ih =>
        intro hnd hm
        have hnd : (!memN p.1 (l.map (·.1)) && nodupN (l.map (·.1))) = true := hnd
        rw [Bool.and_eq_true] at hnd
        rw [List.find?_cons]
        rcases List.mem_cons.1 hm with rfl | hm
        · rw [Nat.beq_refl]
        · have hne : Nat.beq p.1 q.1 = false := by
            cases hb : Nat.beq p.1 q.1 with
            | false => rfl
            | true =>
              have e := Nat.eq_of_beq_eq_true hb
              have : memN p.1 (l.map (·.1)) = true := memN_iff.2 (List.mem_map.2 ⟨q, hm, e.symm⟩)
              rw [this] at hnd
              cases hnd.1
          rw [hne]
          exact ih hnd.2 hm
    rw [key _ hnd hq]
    rfl
  unfold fnLoop at hn
  rw [hl] at hn
  exact hn
def lp0 {U : Univ} : Lp U := ⟨fun _ _ _ => none⟩
theorem lp0_ok {X : Cx} {E : FuncId → Option (Spc X.U)} {an : Ann} {fn : Func} (h : (match fn.body with | some c => (loops c 0).isEmpty | none => true) = true) : ∀ c, fn.body = some c → LpOk X E an lp0 (loops c 0) := fun c hc => by
  rw [hc] at h
  have : loops c 0 = [] := by simpa using h
  rw [this]
  exact ⟨fun q hq => (by cases hq), fun b s R K r h => (by cases h)⟩
theorem SpecOk.of_ev {P : Program} {U : Univ} {fid : FuncId} {S S0 : Spc U} (h0 : SpecOk P fid S0) (hp : ∀ objs args, PathF fun k => S.F objs args k) (h : ∀ objs args o v, S.F objs args (fun o v => some (o, v)) = some (o, v) → S0.F objs args (fun o v => some (o, v)) = some (o, v)) : SpecOk P fid S :=
  ⟨h0.fn, hp, fun objs args o v hs => h0.ok objs args o v (h _ _ _ _ hs)⟩
/-- What a function comes to, of what it takes: if `pre` holds, then it leaves `o` and hands back `v`. -/
def Spc.of {U : Univ} {A : Type} (d : List (TO U) → List (TV U) → Option A) (pre : A → Prop) [DecidablePred pre] (o : A → List (TO U)) (v : A → TV U) : Spc U := ⟨fun objs args k => match d objs args with
  | some x => if pre x then k (o x) (v x) else none
  | none => none⟩
theorem SpecOk.of {P : Program} {U : Univ} {fid : FuncId} {S0 : Spc U} (h0 : SpecOk P fid S0) {A : Type} {d : List (TO U) → List (TV U) → Option A} {pre : A → Prop} [DecidablePred pre] {o : A → List (TO U)} {v : A → TV U}
    (h : ∀ objs args x, d objs args = some x → pre x → S0.F objs args (fun o v => some (o, v)) = some (o x, v x)) : SpecOk P fid (Spc.of d pre o v) := by
  refine SpecOk.of_ev h0 (fun objs args => ?_) fun objs args o' v' h' => ?_
  · intro R k r h'
    unfold Spc.of at h' ⊢
    dsimp only at h' ⊢
    cases hd : d objs args with
    | none => rw [hd] at h'; cases h'
    | some x =>
      rw [hd] at h'
      dsimp only at h' ⊢
      split at h' <;> try (cases h'; done)
      rename_i hp
      exact ⟨_, _, h', fun k' => by rw [if_pos hp]⟩
  · unfold Spc.of at h'
    dsimp only at h'
    cases hd : d objs args with
    | none => rw [hd] at h'; cases h'
    | some x =>
      rw [hd] at h'
      dsimp only at h'
      split at h' <;> try (cases h'; done)
      rename_i hp
      cases h'
      exact h _ _ _ hd hp
/-- A function that was walked comes to what is told of it. -/
theorem fn_ok {P : Program} {X : Cx} (hX : CxOk P X) (hm : P.follows .mixedOrders = true) {E : FuncId → Option (Spc X.U)} (hE : ∀ f S, E f = some S → SpecOk P f S) (an : Ann) (lp : Lp X.U) {fid : FuncId} {fn : Func} (hf : P.funcs[fid]? = some fn) (hname : (fn.name == "runtime.NumGoroutine") = false) (hcode : (match fn.body with | some c => codeOk fn.ntmps c | none => false) = true)
    (hL : ∀ c, fn.body = some c → LpOk X E an lp (loops c 0)) {A : Type} {d : List (TO X.U) → List (TV X.U) → Option A} {pre : A → Prop} [DecidablePred pre] {o : A → List (TO X.U)} {v : A → TV X.U}
    (h : ∀ objs args x, d objs args = some x → pre x → evFn X E an lp fn objs args (fun o v => some (o, v)) = some (o x, v x)) : SpecOk P fid (Spc.of d pre o v) :=
  SpecOk.of (specFn_ok hX hm hE an lp hf hname hcode hL) h
end Go.Proofs.Ytpkgikchphgfaaa.Eng
/- What loops come to. -/
namespace Go.Proofs.Ytpkgikchphgfaaa.Eng
open Go Go.RowKit
set_option linter.unusedVariables false
set_option linter.unusedSimpArgs false
/-- What a loop comes to. -/
structure LC (U : Univ) where
  F : {R : Type} → TS U → (Exit → TS U → Option R) → Option R
  path : ∀ {R : Type} (s : TS U) (K : Exit → TS U → Option R) (r : R), F s K = some r → ∃ ex s', K ex s' = some r ∧ ∀ {R' : Type} (K' : Exit → TS U → Option R'), F s K' = K' ex s'
/-- One way out. -/
def LC.of {U : Univ} {A : Type} (d : TS U → Option A) (pre : A → Prop) [DecidablePred pre] (ex : Exit) (s' : A → TS U) : LC U := ⟨fun s K => match d s with
  | some x => if pre x then K ex (s' x) else none
  | none => none, fun s K r h => by
  split at h <;> try (cases h; done)
  rename_i x hx
  split at h <;> try (cases h; done)
  rename_i hp
  exact ⟨_, _, h, fun K' => if_pos hp⟩⟩
theorem LC.of_some {U : Univ} {A : Type} {d : TS U → Option A} {pre : A → Prop} [DecidablePred pre] {ex : Exit} {s' : A → TS U} {s : TS U} {p : Exit × TS U} (h : (LC.of d pre ex s').F s (fun e s => some (e, s)) = some p) : ∃ x, d s = some x ∧ pre x ∧ p = (ex, s' x) := by
  unfold LC.of at h
  dsimp only at h
  split at h <;> try (cases h; done)
  rename_i x hx
  split at h <;> try (cases h; done)
  rename_i hp
  cases h
  exact ⟨x, hx, hp, rfl⟩
/-- Two ways out. -/
def LC.of2 {U : Univ} {A : Type} (d : TS U → Option A) (pre : A → Prop) [DecidablePred pre] (c : A → Bool) (ex : Exit) (s' : A → TS U) (ex2 : Exit) (s2 : A → TS U) : LC U := ⟨fun s K => match d s with
  | some x => if pre x then cond (c x) (K ex (s' x)) (K ex2 (s2 x)) else none
  | none => none, fun s K r h => by
  split at h <;> try (cases h; done)
  rename_i x hx
  split at h <;> try (cases h; done)
  rename_i hp
  cases hc : c x with
  | true =>
    rw [hc] at h
    exact ⟨_, _, h, fun K' => by rw [if_pos hp]; rfl⟩
  | false =>
    rw [hc] at h
    exact ⟨_, _, h, fun K' => by rw [if_pos hp]; rfl⟩⟩
theorem LC.of2_some {U : Univ} {A : Type} {d : TS U → Option A} {pre : A → Prop} [DecidablePred pre] {c : A → Bool} {ex : Exit} {s' : A → TS U} {ex2 : Exit} {s2 : A → TS U} {s : TS U} {p : Exit × TS U} (h : (LC.of2 d pre c ex s' ex2 s2).F s (fun e s => some (e, s)) = some p) :
    ∃ x, d s = some x ∧ pre x ∧ p = cond (c x) (ex, s' x) (ex2, s2 x) := by
  unfold LC.of2 at h
  dsimp only at h
  split at h <;> try (cases h; done)
  rename_i x hx
  split at h <;> try (cases h; done)
  rename_i hp
  refine ⟨x, hx, hp, ?_⟩
  cases hc : c x <;> rw [hc] at h <;> (cases h; rfl)
def lpLF {U : Univ} : List (Nat × LC U) → {R : Type} → Nat → TS U → (Exit → TS U → Option R) → Option R
  | [], _, _, _, _ => none
  | (c, L) :: l, _, b, s, K => match Nat.beq b c with
    | true => L.F s K
    | false => lpLF l b s K
def lpL {U : Univ} (l : List (Nat × LC U)) : Lp U := ⟨lpLF l⟩
theorem lpLF_some {U : Univ} {l : List (Nat × LC U)} {R : Type} {b : Nat} {s : TS U} {K : Exit → TS U → Option R} {r : R} (h : lpLF l b s K = some r) :
    ∃ L, (b, L) ∈ l ∧ L.F s K = some r ∧ ∀ {R' : Type} (K' : Exit → TS U → Option R'), lpLF l b s K' = L.F s K' := by
  induction l with
  | nil => cases h
  | cons p l ih =>
    obtain ⟨c, L⟩ := p
    unfold lpLF at h
    split at h
    · rename_i hb
      obtain rfl := Nat.eq_of_beq_eq_true hb
      exact ⟨L, .head _, h, fun K' => by rw [lpLF, Nat.beq_refl]⟩
    · rename_i hb
      obtain ⟨L', hm, h1, h2⟩ := ih h
      exact ⟨L', .tail _ hm, h1, fun K' => by rw [lpLF, hb]; exact h2 K'⟩
theorem lpL_ok {X : Cx} {E : FuncId → Option (Spc X.U)} {an : Ann} {fn : Func} {l : List (Nat × LC X.U)}
    (hb : (match fn.body with | some c => nodupN ((loops c 0).map (·.1)) | none => true) = true)
    (h : ∀ b L, (b, L) ∈ l → ∀ s p, L.F s (fun e s => some (e, s)) = some p → ∃ n, fnLoop X E an (lpL l) fn b n s = some p) : ∀ c, fn.body = some c → LpOk X E an (lpL l) (loops c 0) := fun c hc => by
  rw [hc] at hb
  refine LpOk.of hc hb (fun b' s p hm hs => ?_) fun b' s R K r h' => ?_
  · obtain ⟨L, hL, h1, h2⟩ := lpLF_some hs
    exact h b' L hL s p h1
  · obtain ⟨L, hL, h1, h2⟩ := lpLF_some h'
    obtain ⟨ex, s', hk, hall⟩ := L.path s K r h1
    exact ⟨ex, s', hk, fun K' => by show lpLF l b' s K' = _; rw [h2]; exact hall K'⟩
end Go.Proofs.Ytpkgikchphgfaaa.Eng
/- Pieces of code. -/
namespace Go.Proofs.Ytpkgikchphgfaaa.Eng
open Go Go.RowKit
set_option linter.unusedVariables false
def sL : Code → Code
  | .seq x _ => x
  | c => c
def sR : Code → Code
  | .seq _ y => y
  | c => c
def bB : Code → Code
  | .block _ x => x
  | c => c
def cT : Code → Code
  | .cond _ x _ => x
  | c => c
def cF : Code → Code
  | .cond _ _ x => x
  | c => c
section
variable {P : Program} {X : Cx} {E : FuncId → Option (Spc X.U)} {an : Ann} {lp : Lp X.U} {R : Type}
theorem evC_seq {x y : Code} {b : Nat} {s : TS X.U} {K : Exit → TS X.U → Option R} : evC X E an lp (.seq x y) b s K = evC X E an lp x b s fun ex s' => match ex with
    | .normal => evC X E an lp y b s' K
    | e => K e s' := rfl
theorem evC_block {id b : Nat} {x : Code} {s : TS X.U} {K : Exit → TS X.U → Option R} : evC X E an lp (.block id x) b s K = evC X E an lp x id s fun ex s' => match ex with
    | .exit i => match Nat.beq i id with
      | true => K .normal s'
      | false => K (.exit i) s'
    | e => K e s' := rfl
theorem fnLoop_succ {fn : Func} {b n : Nat} {s : TS X.U} : fnLoop X E an lp fn b (n + 1) s = evC X E an lp (loopAt fn b) b s fun ex s' => match ex with
    | .normal => match evNorm (an.live b) s' with
      | some s1 => fnLoop X E an lp fn b n s1
      | none => none
    | e => match evNorm (an.out b) s' with
      | some s1 => some (e, s1)
      | none => none := rfl
end
end Go.Proofs.Ytpkgikchphgfaaa.Eng
/- What a function comes to, for all sizes: functions that call themselves. -/
namespace Go.Proofs.Ytpkgikchphgfaaa.Eng
open Go Go.RowKit
set_option linter.unusedVariables false
theorem Spc.of_path {U : Univ} {A : Type} {d : List (TO U) → List (TV U) → Option A} {pre : A → Prop} [DecidablePred pre] {o : A → List (TO U)} {v : A → TV U} (objs : List (TO U)) (args : List (TV U)) : PathF fun k => (Spc.of d pre o v).F objs args k := by
  intro R k r h'
  unfold Spc.of at h' ⊢
  dsimp only at h' ⊢
  cases hd : d objs args with
  | none => rw [hd] at h'; cases h'
  | some x =>
    rw [hd] at h'
    dsimp only at h' ⊢
    split at h' <;> try (cases h'; done)
    rename_i hp
    exact ⟨_, _, h', fun k' => by rw [if_pos hp]⟩
theorem Spc.of_some {U : Univ} {A : Type} {d : List (TO U) → List (TV U) → Option A} {pre : A → Prop} [DecidablePred pre] {o : A → List (TO U)} {v : A → TV U} {objs : List (TO U)} {args : List (TV U)} {p : List (TO U) × TV U} (h : (Spc.of d pre o v).F objs args (fun o v => some (o, v)) = some p) :
    ∃ x, d objs args = some x ∧ pre x ∧ p = (o x, v x) := by
  unfold Spc.of at h
  dsimp only at h
  split at h <;> try (cases h; done)
  rename_i x hx
  split at h <;> try (cases h; done)
  rename_i hp
  cases h
  exact ⟨x, hx, hp, rfl⟩
/-- If it holds below every size, then it holds. -/
theorem SpecOk.lim {P : Program} {U : Univ} {fid : FuncId} {A : Type} {d : List (TO U) → List (TV U) → Option A} {pre : A → Prop} [DecidablePred pre] {o : A → List (TO U)} {v : A → TV U} (μ : A → Nat)
    (h : ∀ n, SpecOk P fid (Spc.of d (fun x => pre x ∧ μ x < n) o v)) : SpecOk P fid (Spc.of d pre o v) := by
  refine ⟨(h 0).fn, Spc.of_path, fun objs args objs' res hs => ?_⟩
  obtain ⟨x, hx, hp, he⟩ := Spc.of_some hs
  cases he
  refine (h (μ x + 1)).ok objs args (o x) (v x) ?_
  unfold Spc.of
  dsimp only
  rw [hx]
  dsimp only
  rw [if_pos ⟨hp, Nat.lt_succ_self _⟩]
end Go.Proofs.Ytpkgikchphgfaaa.Eng
/- The references' lexer and parser: the small ones. -/
namespace Go.Proofs.Ytpkgikchphgfaaa.Fl
open Go Go.RowKit Go.Proofs.Ytpkgikchphgfaaa.Eng
set_option linter.unusedVariables false
set_option linter.unusedSimpArgs false
set_option maxRecDepth 20000
def an0 : Ann := ⟨fun _ => 0, fun _ => 0, fun _ => [], false⟩
theorem E0_ok : ∀ (f : FuncId) (S : Spc U), (fun _ => none : FuncId → Option (Spc U)) f = some S → SpecOk Try.prog f S := fun f S h => by cases h
def an31 : Ann := ⟨fun | 0 => 25 | _ => 0, fun | 0 => 4 | _ => 0, fun _ => [], false⟩
def letter (c : Int) : Int := if 97 ≤ c ∧ c ≤ 122 ∨ 65 ≤ c ∧ c ≤ 90 ∨ c = 95 then 1 else if 48 ≤ c ∧ c ≤ 57 then 2 else 0
theorem e44 (c : Int) : (evFn X (fun (x : FuncId) => none) an0 lp0 Try.f92 [] [TV.v (Value.int IntKind.u8 c)] fun (o : List (TO X.U)) (v : TV X.U) => some (o, v)) = bif decide (97 ≤ c) then bif decide (c ≤ 122) then some ([], TV.v (Value.int IntKind.i64 1)) else bif decide (65 ≤ c) then bif decide (c ≤ 90) then some ([], TV.v (Value.int IntKind.i64 1)) else bif decide (c = 95) then some ([], TV.v (Value.int IntKind.i64 1)) else bif decide (48 ≤ c) then bif decide (c ≤ 57) then some ([], TV.v (Value.int IntKind.i64 2)) else some ([], TV.v (Value.int IntKind.i64 0)) else some ([], TV.v (Value.int IntKind.i64 0)) else bif decide (c = 95) then some ([], TV.v (Value.int IntKind.i64 1)) else bif decide (48 ≤ c) then bif decide (c ≤ 57) then some ([], TV.v (Value.int IntKind.i64 2)) else some ([], TV.v (Value.int IntKind.i64 0)) else some ([], TV.v (Value.int IntKind.i64 0)) else bif decide (65 ≤ c) then bif decide (c ≤ 90) then some ([], TV.v (Value.int IntKind.i64 1)) else bif decide (c = 95) then some ([], TV.v (Value.int IntKind.i64 1)) else bif decide (48 ≤ c) then bif decide (c ≤ 57) then some ([], TV.v (Value.int IntKind.i64 2)) else some ([], TV.v (Value.int IntKind.i64 0)) else some ([], TV.v (Value.int IntKind.i64 0)) else bif decide (c = 95) then some ([], TV.v (Value.int IntKind.i64 1)) else bif decide (48 ≤ c) then bif decide (c ≤ 57) then some ([], TV.v (Value.int IntKind.i64 2)) else some ([], TV.v (Value.int IntKind.i64 0)) else some ([], TV.v (Value.int IntKind.i64 0)) := by kernel_rfl
def du8 (objs : List (TO U)) (args : List (TV U)) : Option (Int) := match objs, args with
  | [], [a0] =>
    match a0 with
    | .v (.int .u8 c) =>
      some c
    | _ => none
  | _, _ => none
theorem du8_ok {objs : List (TO U)} {args : List (TV U)} {c : Int} (h : du8 objs args = some c) : objs = [] ∧ args = [.v (.int .u8 c)] := by
  unfold du8 at h
  repeat' split at h
  all_goals first | (cases h; done) | (cases h; exact ⟨rfl, rfl⟩)
def sLetter : Spc U := .of du8 (fun x => True) (fun x => []) fun x => .v (.int .i64 (letter x))
theorem sLetter_ok : SpecOk Try.prog 92 sLetter := by
  refine fn_ok X_ok mixed E0_ok an0 lp0 Try.func92 (by kernel_rfl) (by kernel_rfl) (lp0_ok (by kernel_rfl)) fun objs args c hx hp => ?_
  obtain ⟨rfl, rfl⟩ := du8_ok hx
  dsimp only
  rw [e44]
  unfold letter
  by_cases h1 : 97 ≤ c <;> by_cases h2 : c ≤ 122 <;> by_cases h3 : 65 ≤ c <;> by_cases h4 : c ≤ 90 <;> by_cases h5 : c = 95 <;> by_cases h6 : 48 ≤ c <;> by_cases h7 : c ≤ 57 <;> first | (exfalso; omega) | simp [h1, h2, h3, h4, h5, h6, h7]
def wds : List ByteArray := [⟨#[103, 108, 111, 98, 97, 108]⟩, ⟨#[102, 105, 101, 108, 100]⟩, ⟨#[102, 110]⟩, ⟨#[118, 97, 114]⟩, ⟨#[105, 110, 116]⟩, ⟨#[114, 101, 102]⟩, ⟨#[102, 117, 110]⟩, ⟨#[105, 102]⟩, ⟨#[101, 108, 115, 101]⟩, ⟨#[119, 104, 105, 108, 101]⟩, ⟨#[108, 111, 99, 107]⟩, ⟨#[117, 110, 108, 111, 99, 107]⟩, ⟨#[115, 112, 97, 119, 110]⟩, ⟨#[114, 101, 116, 117, 114, 110]⟩, ⟨#[115, 107, 105, 112]⟩, ⟨#[110, 101, 119]⟩, ⟨#[110, 117, 108, 108]⟩]
theorem e46 : evFn X (fun _ => none) an0 lp0 Try.f132 [] [] (fun o v => some (o, v)) = some ([], .lst .str wds) := by kernel_rfl
def d0 (objs : List (TO U)) (args : List (TV U)) : Option (Unit) := match objs, args with
  | [], [] =>
    some ()
  | _, _ => none
theorem d0_ok {objs : List (TO U)} {args : List (TV U)} (h : d0 objs args = some ()) : objs = [] ∧ args = [] := by
  unfold d0 at h
  repeat' split at h
  all_goals first | (cases h; done) | (cases h; exact ⟨rfl, rfl⟩)
def sWords : Spc U := .of d0 (fun x => True) (fun x => []) fun x => .lst .str wds
theorem sWords_ok : SpecOk Try.prog 132 sWords := by
  refine fn_ok X_ok mixed E0_ok an0 lp0 Try.func132 (by kernel_rfl) (by kernel_rfl) (lp0_ok (by kernel_rfl)) fun objs args x hx hp => ?_
  obtain ⟨rfl, rfl⟩ := d0_ok hx
  exact e46
noncomputable def E31 : FuncId → Option (Spc U)
  | 132 => some sWords
  | _ => none
theorem E31_ok : ∀ f S, E31 f = some S → SpecOk Try.prog f S := fun f S h => by
  unfold E31 at h
  split at h
  · cases h; exact sWords_ok
  · cases h
def g31_S0 (s : ByteArray) (v2 : Int) : TS U := mkS 18
  [(0, TV.v (Value.string s)), (3, TV.lst C.str wds), (4, TV.v (Value.int IntKind.i64 v2))] [] 0
theorem g31_e0 (lp : Lp U) (s : ByteArray) (N : Nat) (v2 : Int) : fnLoop X E31 an31 lp Try.f93 0 N.succ (g31_S0 s v2) = bif decide (v2 < (↑wds.length : Int)) then (getI wds v2).bind fun (z : X.U.T C.str) => bif ByteArray.toList z == s.toList then some (Exit.ret, mkS 18 [(2, TV.v (Value.bool true))] [] 0) else fnLoop X E31 an31 lp Try.f93 0 N (g31_S0 s (IntKind.i64.wrap (v2 + 1))) else some (Exit.exit 0, mkS 18 [] [] 0) := by kernel_rfl
end Go.Proofs.Ytpkgikchphgfaaa.Fl
/- The references' parser: steps. -/
namespace Go.Proofs.Ytpkgikchphgfaaa.Fl
open Go Go.RowKit Go.Proofs.Ytpkgikchphgfaaa.Eng
set_option linter.unusedVariables false
set_option linter.unusedSimpArgs false
set_option maxRecDepth 20000
/-- Where one stands. -/
def pv (l : List R53) (p d m c f : Int) : TV U := .agg [.lst .t53 l, .v (.int .i64 p), .v (.int .i64 d), .v (.int .i64 m), .v (.int .i64 c), .v (.int .i64 f)]
structure PS where
  L : List R53
  At : Int
  Deep : Int
  Many : Int
  Code : Int
  FAt : Int
def PS.tv (p : PS) : TV U := pv p.L p.At p.Deep p.Many p.Code p.FAt
def tok0 : R53 := ⟨0, 0, 0, ⟨#[]⟩⟩
def tkv (z : R53) : TV U := .agg [.v (.int .i64 z.Kind), .v (.int .i64 z.At), .v (.int .i64 z.N), .v (.string z.S)]
/-- The words end with one that is none, and one stands at one of them, if nothing is wrong. -/
structure PS.Ok (p : PS) : Prop where
  len : p.L.length ≤ 1000000
  last : ∃ z, p.L[p.L.length - 1]? = some z ∧ z.Kind = 0
  here : p.Code = 0 → 0 ≤ p.At ∧ p.At < p.L.length
noncomputable instance (p : PS) : Decidable p.Ok := Classical.propDecidable _
def PS.now (p : PS) : R53 := if p.Code = 0 then (getI p.L p.At).getD tok0 else tok0
def PS.next (p : PS) : PS := if p.Code = 0 ∧ p.now.Kind ≠ 0 then { p with At := p.At + 1 } else p
def PS.fail (p : PS) (c a : Int) : PS := if p.Code = 0 then { p with Code := c, FAt := a } else p
theorem PS.Ok.next {p : PS} (h : p.Ok) : p.next.Ok := by
  unfold PS.next
  split
  · rename_i hc
    refine ⟨h.len, h.last, fun _ => ?_⟩
    obtain ⟨h0, h1⟩ := h.here hc.1
    refine ⟨by show 0 ≤ p.At + 1; omega, ?_⟩
    show p.At + 1 < p.L.length
    obtain ⟨z, hz, hk⟩ := h.last
    have hne : p.At.toNat ≠ p.L.length - 1 := fun he => hc.2 (by
      unfold PS.now getI
      rw [if_pos hc.1, if_pos h0, he, hz]
      exact hk)
    omega
  · exact h
theorem PS.Ok.fail {p : PS} (h : p.Ok) {c : Int} (hc : c ≠ 0) (a : Int) : (p.fail c a).Ok := by
  unfold PS.fail
  split
  · exact ⟨h.len, h.last, fun h0 => absurd h0 hc⟩
  · exact h
theorem PS.Ok.at_ {p : PS} (h : p.Ok) (hc : p.Code = 0) : getI p.L p.At = some p.now := by
  obtain ⟨h0, h1⟩ := h.here hc
  have hx : p.L[p.At.toNat]? = some p.L[p.At.toNat] := List.getElem?_eq_getElem (by omega)
  unfold PS.now getI
  rw [if_pos hc, if_pos h0, hx]
  rfl
theorem e48 (l : List R53) (p : Int) (d : Int) (m : Int) (c : Int) (f : Int) : (evFn X (fun (x : FuncId) => none) an0 lp0 Try.f42 [] [pv l p d m c f] fun (o : List (TO X.U)) (v : TV X.U) => some (o, v)) = bif !decide (c = 0) then some ([], TV.agg [TV.v (Value.int IntKind.i64 0), TV.v (Value.int IntKind.i64 0), TV.v (Value.int IntKind.i64 0), TV.v (Value.string (⟨#[]⟩ : ByteArray))]) else (getI l p).bind fun (z : X.U.T C.t53) => some ([], TV.agg [TV.v (Value.int IntKind.i64 z.Kind), TV.v (Value.int IntKind.i64 z.At), TV.v (Value.int IntKind.i64 z.N), TV.v (Value.string z.S)]) := by kernel_rfl
def dP0 (objs : List (TO U)) (args : List (TV U)) : Option (List R53 × Int × Int × Int × Int × Int) := match objs, args with
  | [], [a0] =>
    match a0 with
    | .agg [q0, q1, q2, q3, q4, q5] =>
      match q0 with
      | .lst .t53 l =>
        match q1 with
        | .v (.int .i64 p) =>
          match q2 with
          | .v (.int .i64 d) =>
            match q3 with
            | .v (.int .i64 m) =>
              match q4 with
              | .v (.int .i64 c) =>
                match q5 with
                | .v (.int .i64 f) =>
                  some (l, p, d, m, c, f)
                | _ => none
              | _ => none
            | _ => none
          | _ => none
        | _ => none
      | _ => none
    | _ => none
  | _, _ => none
theorem dP0_ok {objs : List (TO U)} {args : List (TV U)} {l : List R53} {p : Int} {d : Int} {m : Int} {c : Int} {f : Int} (h : dP0 objs args = some (l, p, d, m, c, f)) : objs = [] ∧ args = [.agg [.lst .t53 l, .v (.int .i64 p), .v (.int .i64 d), .v (.int .i64 m), .v (.int .i64 c), .v (.int .i64 f)]] := by
  unfold dP0 at h
  repeat' split at h
  all_goals first | (cases h; done) | (cases h; exact ⟨rfl, rfl⟩)
def dP (objs : List (TO U)) (args : List (TV U)) : Option PS := (dP0 objs args).map fun (l, p, d, m, c, f) => ⟨l, p, d, m, c, f⟩
theorem dP_ok {objs : List (TO U)} {args : List (TV U)} {p : PS} (h : dP objs args = some p) : objs = [] ∧ args = [p.tv] := by
  unfold dP at h
  rw [Option.map_eq_some_iff] at h
  obtain ⟨⟨l, a, d, m, c, f⟩, h1, rfl⟩ := h
  exact dP0_ok h1
noncomputable def sNow : Spc U := .of dP (fun p => p.Ok) (fun _ => []) fun p => tkv p.now
theorem sNow_ok : SpecOk Try.prog 42 sNow := by
  refine fn_ok X_ok mixed E0_ok an0 lp0 Try.func42 (by kernel_rfl) (by kernel_rfl) (lp0_ok (by kernel_rfl)) fun objs args p hx hp => ?_
  obtain ⟨rfl, rfl⟩ := dP_ok hx
  show evFn X (fun _ => none) an0 lp0 Try.f42 [] [pv p.L p.At p.Deep p.Many p.Code p.FAt] (fun o v => some (o, v)) = _
  rw [e48]
  by_cases hc : p.Code = 0
  · rw [hp.at_ hc, hc]
    rfl
  · have : p.now = tok0 := if_neg hc
    rw [this]
    simp only [hc, decide_false, Bool.not_false, cond_true]
    rfl
end Go.Proofs.Ytpkgikchphgfaaa.Fl

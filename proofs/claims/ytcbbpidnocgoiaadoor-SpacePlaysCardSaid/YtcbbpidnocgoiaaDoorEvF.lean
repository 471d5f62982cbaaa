/- Regions, and what is told with fewer names. -/
import Derived.Test.YtcbbpidnocgoiaaDoorEvE
namespace Go.Proofs.YtcbbpidnocgoiaaDoor.Eng
open Go Go.RowKit
set_option linter.unusedVariables false
set_option linter.unusedSimpArgs false
section
variable {P : Program} {X : Cx} {E : FuncId → Option (Spc X.U)} {R : Type} {r : R}
def evBuiltin (X : Cx) (s : TS X.U) (b : Builtin) (xs : List Operand) (ts : List TypeId) (k : List Loc → TEff X.U → Option R) : Option R :=
  match b with
  | .len => match xs, ts with
    | [x], [T] => evLen X s T x k
    | _, _ => none
  | .append => match xs, ts with
    | [x, y], [T, Ty] => evAppend X s T Ty x y k
    | _, _ => none
  | .max => match xs with
    | [x, y] => evMM X s true x y k
    | _ => none
  | .min => match xs with
    | [x, y] => evMM X s false x y k
    | _ => none
  | _ => none
def ev1 (X : Cx) (E : FuncId → Option (Spc X.U)) (s : TS X.U) (o : Oper) (k : List Loc → TEff X.U → Option R) : Option R :=
  match o.op with
  | .move x => evMv X s x k
  | .assign x => evMv X s x k
  | .pick c x y => evPick X s c x y k
  | .binOp op T x y _ => evBin X s op T x y k
  | .unOp op _ x => evUn X s op x k
  | .convert T1 T2 x => evConv X s T1 T2 x k
  | .load T x => evLoad X s T x k
  | .store T x y => evStore X s T x y k
  | .fieldAddr T x f => evFieldAddr X s T x f k
  | .field T x f => evField X s T x f k
  | .nilCheck x => evNil X s x k
  | .extract x n => evExtract X s x n k
  | .indexAddr T x y => evIndexAddr X s T x y k
  | .index T x y => evIndex X s T x y k
  | .alloc T => evAlloc X s T k
  | .box _ x => evBox X s x k
  | .build T parts => evBuild X s T parts.toList k
  | .buildSlice T n parts => evSliceLit X s T n parts.toList k
  | .makeSlice T x y => evMake X s T x y k
  | .slice T x lo hi none => evCut X s T x lo hi k
  | .call c => match c.callee with
    | .value (.func f) => evCall X E s f c.args.toList k
    | .builtin b => evBuiltin X s b c.args.toList c.argTypes.toList k
    | _ => none
  | _ => none
variable {s : TS X.U} {o : Oper} {σ : St}
theorem arr1 {α : Type} {a : Array α} {x : α} (h : a.toList = [x]) : a = #[x] := by apply Array.ext'; exact h
theorem arr2 {α : Type} {a : Array α} {x y : α} (h : a.toList = [x, y]) : a = #[x, y] := by apply Array.ext'; exact h
theorem ev1_ok (hX : CxOk P X) (hE : ∀ f S, E f = some S → SpecOk P f S) {k : List Loc → TEff X.U → Option R} (h : ev1 X E s o k = some r) (hM : M s σ) : ∃ L e, k L e = some r ∧ Fit P s o σ L e := by
  unfold ev1 at h
  split at h <;> try (cases h; done)
  · rename_i ho; exact evMv_ok h hM (.inl ho)
  · rename_i ho; exact evMv_ok h hM (.inr ho)
  · rename_i ho; exact evPick_ok h hM ho
  · rename_i ho; exact evBin_ok hX h hM ho
  · rename_i ho; exact evUn_ok h hM ho
  · rename_i ho; exact evConv_ok hX h hM ho
  · rename_i ho; exact evLoad_ok hX h hM ho
  · rename_i ho; exact evStore_ok hX h hM ho
  · rename_i ho; exact evFieldAddr_ok hX h hM ho
  · rename_i ho; exact evField_ok hX h hM ho
  · rename_i ho; exact evNil_ok h hM ho
  · rename_i ho; exact evExtract_ok h hM ho
  · rename_i ho; exact evIndexAddr_ok hX h hM ho
  · rename_i ho; exact evIndex_ok hX h hM ho
  · rename_i ho; exact evAlloc_ok hX h hM ho
  · rename_i ho; exact evBox_ok h hM ho
  · rename_i ho; exact evBuild_ok hX h hM ho
  · rename_i ho; exact evSliceLit_ok hX h hM ho
  · rename_i ho; exact evMake_ok hX h hM ho
  · rename_i ho; exact evCut_ok hX h hM ho
  · rename_i c ho
    obtain ⟨callee, args, ts⟩ := c
    dsimp only at h
    split at h <;> try (cases h; done)
    · exact evCall_ok hX hE h hM ho
    · rename_i b
      unfold evBuiltin at h
      split at h <;> try (cases h; done)
      · split at h <;> try (cases h; done)
        rename_i h1 h2
        obtain rfl := arr1 h1
        obtain rfl := arr1 h2
        exact evLen_ok hX h hM ho
      · split at h <;> try (cases h; done)
        rename_i h1 h2
        obtain rfl := arr2 h1
        obtain rfl := arr2 h2
        exact evAppend_ok hX h hM ho
      · split at h <;> try (cases h; done)
        rename_i h1
        obtain rfl := arr2 h1
        exact evMax_ok h hM ho
      · split at h <;> try (cases h; done)
        rename_i h1
        obtain rfl := arr2 h1
        exact evMin_ok h hM ho
/-! ### Regions -/
def dstL : Option Nat → List Loc
  | some d => [.slot d]
  | none => []
def foot {U : Univ} (L : List Loc) (e : TEff U) (d : Option Nat) : List Loc × List Loc := (L, dstL d ++ e.ob.map fun x => .obj x.1)
def accA (dr : Bool) (acc l : List (List Loc × List Loc)) : List (List Loc × List Loc) := match dr with
  | true => acc ++ l
  | false => acc
def evOps (X : Cx) (E : FuncId → Option (Spc X.U)) (dr : Bool) (al : List Oper) : List Oper → TS X.U → List (List Loc × List Loc) → (TS X.U → List (List Loc × List Loc) → Option R) → Option R
  | [], s, acc, k => k s acc
  | o :: rest, s, acc, k => match o.guard with
    | none => ev1 X E s o fun L e => evOps X E dr al rest (s.app o.dst e) (match dr with | true => acc ++ [foot L e o.dst] | false => acc) k
    | some (j, b) => match (nth al j).bind (·.dst) with
      | none => none
      | some t0 => match getN s.slots t0 with
        | .v (.bool c) => match b with
          | true => cond c (ev1 X E ⟨setN s.slots t0 (.v (.bool true)), s.objs, s.hin⟩ o fun L e => evOps X E dr al rest (TS.app ⟨setN s.slots t0 (.v (.bool true)), s.objs, s.hin⟩ o.dst e) (accA dr acc [foot (.slot t0 :: L) e o.dst]) k)
              (evOps X E dr al rest (TS.app ⟨setN s.slots t0 (.v (.bool false)), s.objs, s.hin⟩ o.dst ⟨.v undef, []⟩) (accA dr acc [([.slot t0], dstL o.dst)]) k)
          | false => cond c (evOps X E dr al rest (TS.app ⟨setN s.slots t0 (.v (.bool true)), s.objs, s.hin⟩ o.dst ⟨.v undef, []⟩) (accA dr acc [([.slot t0], dstL o.dst)]) k)
              (ev1 X E ⟨setN s.slots t0 (.v (.bool false)), s.objs, s.hin⟩ o fun L e => evOps X E dr al rest (TS.app ⟨setN s.slots t0 (.v (.bool false)), s.objs, s.hin⟩ o.dst e) (accA dr acc [foot (.slot t0 :: L) e o.dst]) k)
        | _ => none
theorem M.same {t0 : Nat} {x : TV X.U} (hM : M s σ) (h : getN s.slots t0 = x) : M ⟨setN s.slots t0 x, s.objs, s.hin⟩ σ := by
  have hg : ∀ t, getN (setN s.slots t0 x) t = getN s.slots t := fun t => by
    rw [getN_set]
    split
    · rename_i e; rw [e.1, h]
    · rfl
  exact ⟨fun t ht => by rw [hg] at ht; show σ.slot t = (getN (setN s.slots t0 x) t).itp _; rw [hg]; exact hM.slot t ht, hM.ob, hM.fresh, fun t => by show (getN (setN s.slots t0 x) t).bel _ = true; rw [hg]; exact hM.sb t, hM.obb⟩
def footS (p : List Loc × Eff) : List Loc × List Loc := (p.1, p.2.locs)
theorem footS_itp {L : List Loc} {e : TEff X.U} {d : Option Nat} {rl : Nat → Nat} : footS (L, e.itp rl d) = foot L e d := by
  unfold footS foot TEff.itp Eff.locs dstL
  dsimp only
  rw [List.map_map]
  cases d <;> rfl
theorem accL {dr : Bool} {acc l : List (List Loc × List Loc)} {x : List Loc × List Loc} : accA dr (accA dr acc [x]) l = accA dr acc (x :: l) := by
  unfold accA
  cases dr
  · rfl
  · show acc ++ [x] ++ l = _
    rw [List.append_assoc]
    rfl
theorem evOps_ok (hX : CxOk P X) (hE : ∀ f S, E f = some S → SpecOk P f S) {dr : Bool} {all : Array Oper} : ∀ {ops : List Oper} {i : Nat} {s : TS X.U} {σ : St} {acc : List (List Loc × List Loc)} {k : TS X.U → List (List Loc × List Loc) → Option R},
    evOps X E dr all.toList ops s acc k = some r → M s σ → ∃ l s' σ', ChainL P all ops i σ l σ' ∧ M s' σ' ∧ k s' (accA dr acc (l.map footS)) = some r ∧ s'.hin = s.hin ∧ s.objs.length ≤ s'.objs.length ∧ ∀ i, i < s.objs.length → rlen s'.objs i = rlen s.objs i
  | [], i, s, σ, acc, k, h, hM => ⟨[], s, σ, .nil, hM, by
      show k s (accA dr acc []) = some r
      have e : accA dr acc [] = acc := by
        unfold accA
        split
        · exact List.append_nil _
        · rfl
      rw [e]
      exact h, rfl, Nat.le_refl _, fun _ _ => rfl⟩
  | o :: rest, i, s, σ, acc, k, h, hM => by
    have run : ∀ (s : TS X.U) (σ : St) (L0 : List Loc), M s σ → ev1 X E s o (fun L e => evOps X E dr all.toList rest (s.app o.dst e) (accA dr acc [foot (L0 ++ L) e o.dst]) k) = some r → (∀ L e σ' l, Step P o L ⟨o.dst, e, l⟩ σ → ∀ l' , ChainL P all rest (i + 1) (σ.app ⟨o.dst, e, l⟩) l' σ' → ChainL P all (o :: rest) i σ ((L0 ++ L, ⟨o.dst, e, l⟩) :: l') σ') →
        ∃ l s' σ', ChainL P all (o :: rest) i σ l σ' ∧ M s' σ' ∧ k s' (accA dr acc (l.map footS)) = some r ∧ s'.hin = s.hin ∧ s.objs.length ≤ s'.objs.length ∧ ∀ i, i < s.objs.length → rlen s'.objs i = rlen s.objs i := fun s σ L0 hM h hc => by
      obtain ⟨L, e, hk, hst, hobs, hvb, hobb⟩ := ev1_ok hX hE h hM
      obtain ⟨l, s', σ', q1, q2, q3, q4, q5, q6⟩ := evOps_ok hX hE (i := i + 1) hk (hM.app o.dst e hobs hvb hobb)
      refine ⟨_, s', σ', hc _ _ _ _ hst _ q1, q2, ?_, q4, Nat.le_trans (updO_len _ _) q5, fun i hi => (q6 i (Nat.lt_of_lt_of_le hi (updO_len _ _))).trans (updO_rlen _ _ hobs i hi)⟩
      rw [List.map_cons]
      have := footS_itp (L := L0 ++ L) (e := e) (d := o.dst) (rl := rlen (updO s.objs e.ob))
      unfold TEff.itp at this
      rw [this]
      rw [accL] at q3
      exact q3
    have skip : ∀ (s : TS X.U) (σ : St) (t0 j : Nat) (b : Bool), o.guard = some (j, b) → (all[j]?).bind (·.dst) = some t0 → σ.slot t0 = .v (.bool !b) → M s σ → evOps X E dr all.toList rest (s.app o.dst ⟨.v undef, []⟩) (accA dr acc [([.slot t0], dstL o.dst)]) k = some r →
        ∃ l s' σ', ChainL P all (o :: rest) i σ l σ' ∧ M s' σ' ∧ k s' (accA dr acc (l.map footS)) = some r ∧ s'.hin = s.hin ∧ s.objs.length ≤ s'.objs.length ∧ ∀ i, i < s.objs.length → rlen s'.objs i = rlen s.objs i := fun s σ t0 j b hg ht hs hM h => by
      obtain ⟨l, s', σ', q1, q2, q3, q4, q5, q6⟩ := evOps_ok hX hE (i := i + 1) h (hM.app o.dst ⟨.v undef, []⟩ trivial rfl rfl)
      refine ⟨_, s', σ', .off o.dst j t0 b hg ht rfl hs q1, q2, ?_, q4, q5, q6⟩
      rw [List.map_cons]
      have e : footS ([Loc.slot t0], ⟨o.dst, .v undef, []⟩) = ([.slot t0], dstL o.dst) := by
        unfold footS Eff.locs dstL
        cases o.dst <;> rfl
      rw [e]
      rw [accL] at q3
      exact q3
    unfold evOps at h
    split at h
    · rename_i hg
      exact run s σ [] hM h fun L e σ' l hst l' hc => .of o.dst hg rfl hst hc
    · rename_i j b hg
      split at h <;> try (cases h; done)
      rename_i t0 ht
      rw [nth_eq] at ht
      have ht : (all[j]?).bind (·.dst) = some t0 := by simpa using ht
      split at h <;> try (cases h; done)
      rename_i c hs
      have hσ : σ.slot t0 = .v (.bool c) := by rw [hM.slot t0 (by rw [hs]; simp), hs]; rfl
      cases b with
      | true =>
        cases c with
        | true => exact run ⟨setN s.slots t0 (.v (.bool true)), s.objs, s.hin⟩ σ [.slot t0] (hM.same hs) h fun L e σ' l hst l' hc => .on o.dst j t0 true hg ht rfl hσ hst hc
        | false => exact skip ⟨setN s.slots t0 (.v (.bool false)), s.objs, s.hin⟩ σ t0 j true hg ht hσ (hM.same hs) h
      | false =>
        cases c with
        | true => exact skip ⟨setN s.slots t0 (.v (.bool true)), s.objs, s.hin⟩ σ t0 j false hg ht hσ (hM.same hs) h
        | false => exact run ⟨setN s.slots t0 (.v (.bool false)), s.objs, s.hin⟩ σ [.slot t0] (hM.same hs) h fun L e σ' l hst l' hc => .on o.dst j t0 false hg ht rfl hσ hst hc
def indepF (B : List Nat) (l : List (List Loc × List Loc)) : Bool := (List.range l.length).all fun k => (List.range k).all fun i => (B.getD k 0).testBit i ||
  match l[i]?, l[k]? with
  | some (Li, ei), some (Lk, ek) => disj ei Lk && disj ei ek && disj ek Li
  | _, _ => true
theorem indepF_ok {B : List Nat} {l : List (List Loc × Eff)} (h : indepF B (l.map footS) = true) : indepOk B l = true := by
  unfold indepF at h
  unfold indepOk
  rw [List.length_map] at h
  refine List.all_eq_true.2 fun k hk => List.all_eq_true.2 fun i hi => ?_
  have := List.all_eq_true.1 (List.all_eq_true.1 h k hk) i hi
  rw [List.getElem?_map, List.getElem?_map] at this
  cases h1 : l[i]? with
  | none => simp
  | some p =>
    cases h2 : l[k]? with
    | none => simp
    | some q =>
      rw [h1, h2] at this
      exact this
def tabOf (ops : List Oper) : List Nat := ops.foldl (fun B o => B ++ [o.after.toList.foldl (fun b e => match Region.binds .any e with | true => b ||| (1 <<< e.on) ||| B.getD e.on 0 | false => b) 0]) []
def evReg (X : Cx) (E : FuncId → Option (Spc X.U)) (ops : Array Oper) (dr : Bool) (s : TS X.U) (k : TS X.U → Option R) : Option R :=
  evOps X E dr ops.toList ops.toList s [] fun s' l => match dr with
    | false => k s'
    | true => match okTab ops (tabOf ops.toList) && indepF (tabOf ops.toList) l with
      | true => k s'
      | false => none
/-- What is told of a state of the machine. -/
structure TR (f : Fr) (s : TS X.U) (a : Act) (w : World) : Prop where
  ex : ∃ σ, M s σ ∧ Eng.R f σ a w
  hin : s.hin ≤ s.objs.length
  g0 : ∀ id b, f.g0.β id = some b → id < s.hin
theorem evReg_ok (hX : CxOk P X) (hm : P.follows .mixedOrders = true) (hE : ∀ f S, E f = some S → SpecOk P f S) {ops : Array Oper} {dr : Bool} {id : Nat} {k : TS X.U → Option R} (h : evReg X E ops dr s k = some r) {f : Fr} {a : Act} {w : World} (hok : codeOk f.N (.region id ops dr) = true) (hT : TR f s a w)
    {Q : Exit → Act → World → Prop} (hQ : ∀ s' a' w', k s' = some r → TR f s' a' w' → Q .normal a' w') : (Code.region id ops dr).wp P Q a w := by
  obtain ⟨⟨σ, hM, hR⟩, hin, hg0⟩ := hT
  unfold evReg at h
  obtain ⟨l, s', σ', hc, hM', hk, e1, e2, _⟩ := evOps_ok hX hE (i := 0) h hM
  obtain ⟨k1, k2⟩ := hc.chain rfl
  have hT' : ∀ a' w', Eng.R f σ' a' w' → TR f s' a' w' := fun a' w' hR' => ⟨⟨σ', hM', hR'⟩, by omega, fun id b hb => by rw [e1]; exact hg0 id b hb⟩
  have hl : l.length = ops.size := by rw [k2]; simp
  cases dr with
  | false =>
    have hk : k s' = some r := hk
    exact wp_mono (cwp_region (id := id) (Q := fun e s => e = .normal ∧ s = σ') k1 hl ⟨rfl, rfl⟩ f a w hok hR) fun e a' w' ⟨s1, ⟨h1, h2⟩, hR'⟩ => by
      subst h1 h2
      exact hQ s' a' w' hk (hT' a' w' hR')
  | true =>
    dsimp only at hk
    split at hk <;> try (cases hk; done)
    rename_i hchk
    rw [Bool.and_eq_true] at hchk
    exact wp_mono (cwp_region_draw (id := id) (Q := fun e s => e = .normal ∧ s = σ') (tabOf ops.toList) hm k1 hl hchk.1 (indepF_ok hchk.2) ⟨rfl, rfl⟩ f a w hok hR) fun e a' w' ⟨s1, ⟨h1, h2⟩, hR'⟩ => by
      subst h1 h2
      exact hQ s' a' w' hk (hT' a' w' hR')
end
end Go.Proofs.YtcbbpidnocgoiaaDoor.Eng

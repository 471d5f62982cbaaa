/- Texts of this claim, put together: part 5. -/
import Derived.Laws.Sem
import Derived.Test.YtmcflglkfgnbbaaDoorMzD
/- What is told goes one way. -/
namespace Go.Proofs.YtmcflglkfgnbbaaDoor.Eng
open Go Go.RowKit
set_option linter.unusedVariables false
set_option linter.unusedSimpArgs false
def Path {U : Univ} (F : {R : Type} → (List Loc → TEff U → Option R) → Option R) : Prop := ∀ {R : Type} (k : List Loc → TEff U → Option R) (r : R), F k = some r → ∃ L e, k L e = some r ∧ ∀ {R' : Type} (k' : List Loc → TEff U → Option R'), F k' = k' L e
section
variable {X : Cx} {s : TS X.U} {R : Type}
theorem evMv_path {x : Operand} : Path fun k => evMv X s x k := by
  intro R k r h
  unfold evMv at h
  split at h <;> first | (cases h; done) | exact ⟨_, _, h, fun k' => by simp [evMv, *]⟩
theorem evPick_path {c x y : Operand} : Path fun k => evPick X s c x y k := by
  intro R k r h
  unfold evPick at h
  split at h <;> try (cases h; done)
  rename_i b hc
  cases b
  · simp only [cond_false] at h
    split at h <;> first | (cases h; done) | exact ⟨_, _, h, fun k' => by simp [evPick, *]⟩
  · simp only [cond_true] at h
    split at h <;> first | (cases h; done) | exact ⟨_, _, h, fun k' => by simp [evPick, *]⟩
theorem tbin_path {op : BinOp} {x y : Value} {k : Value → Option R} {r : R} (h : tbin op x y k = some r) : ∃ v, k v = some r ∧ ∀ {R' : Type} (k' : Value → Option R'), tbin op x y k' = k' v := by
  unfold tbin at h
  split at h
  · cases op <;> simp only at h <;> (repeat' split at h) <;> first | (cases h; done) | exact ⟨_, h, fun k' => by simp [tbin, *]⟩
  · cases op <;> simp only at h <;> (repeat' split at h) <;> first | (cases h; done) | exact ⟨_, h, fun k' => by simp [tbin, *]⟩
  · cases h
theorem evBin0_path {op : BinOp} {T : TypeId} {x y : Operand} : Path fun k => evBin0 X s op T x y k := by
  intro R k r h
  unfold evBin0 at h
  split at h
  · repeat' split at h
    all_goals first | (cases h; done) | exact ⟨_, _, h, fun k' => by simp [evBin0, *]⟩
  · repeat' split at h
    all_goals first | (cases h; done) | exact ⟨_, _, h, fun k' => by simp [evBin0, *]⟩
  · repeat' split at h
    all_goals first | (cases h; done) | exact ⟨_, _, h, fun k' => by simp [evBin0, *]⟩
  · repeat' split at h
    all_goals first | (cases h; done) | exact ⟨_, _, h, fun k' => by simp [evBin0, *]⟩
  · rename_i a b h1 h2 h3 h4
    obtain ⟨v, hv, hk⟩ := tbin_path h
    refine ⟨_, _, hv, fun k' => ?_⟩
    rw [← hk fun v => k' (locO x ++ locO y) ⟨.v v, []⟩]
    unfold evBin0
    simp only [h3, h4]
  · rename_i l m h1 h2
    split at h <;> try (cases h; done)
    rename_i ks hks
    split at h
    · obtain ⟨q, h3, h4, _⟩ := tvEq_path _ _ _ h
      exact ⟨_, _, h3, fun k' => by unfold evBin0; simp only [h1, h2, hks]; exact h4 fun r => k' (locO x ++ locO y) ⟨.v (.bool r), []⟩⟩
    · obtain ⟨q, h3, h4, _⟩ := tvEq_path _ _ _ h
      exact ⟨_, _, h3, fun k' => by unfold evBin0; simp only [h1, h2, hks]; exact h4 fun r => k' (locO x ++ locO y) ⟨.v (.bool !r), []⟩⟩
    · cases h
  · cases h
theorem evBin_path {op : BinOp} {T : TypeId} {x y : Operand} : Path fun k => evBin X s op T x y k := by
  intro R k r h
  unfold evBin at h
  split at h
  · rename_i hy
    obtain ⟨L, e, hv, hk⟩ := evBin0_path k r h
    exact ⟨L, e, hv, fun k' => by show evBin X s op T x y k' = _; unfold evBin; simp only [hy]; exact hk k'⟩
  · repeat' split at h
    all_goals first | (cases h; done) | exact ⟨_, _, h, fun k' => by simp [evBin, *]⟩
theorem evUn_path {op : UnOp} {x : Operand} : Path fun k => evUn X s op x k := by
  intro R k r h
  unfold evUn at h
  split at h
  · split at h <;> first | (cases h; done) | exact ⟨_, _, h, fun k' => by simp [evUn, *]⟩
  · split at h
    · obtain ⟨v, hv, hk⟩ := tbin_path h
      exact ⟨_, _, hv, fun k' => by simp [evUn, *]⟩
    · obtain ⟨v, hv, hk⟩ := tbin_path h
      exact ⟨_, _, hv, fun k' => by simp [evUn, *]⟩
    · cases h
  · cases h
theorem evConv_path {T1 T2 : TypeId} {x : Operand} : Path fun k => evConv X s T1 T2 x k := by
  intro R k r h
  unfold evConv at h
  repeat' split at h
  all_goals first | (cases h; done) | exact ⟨_, _, h, fun k' => by simp [evConv, *]⟩
theorem cellsAt_path {U : Univ} {t : TI} {l : List (TV U)} {j : Nat} {k : TV U → Option R} {r : R} (h : cellsAt t l j k = some r) : ∃ tv, k tv = some r ∧ ∀ {R' : Type} (k' : TV U → Option R'), cellsAt t l j k' = k' tv := by
  unfold cellsAt at h
  repeat' split at h
  all_goals first | (cases h; done) | exact ⟨_, h, fun k' => by simp [cellsAt, *]⟩
theorem evLoad_path {T : TypeId} {x : Operand} : Path fun k => evLoad X s T x k := by
  intro R k r h
  unfold evLoad at h
  repeat' split at h
  all_goals try (cases h; done)
  · obtain ⟨tv, hv, hk⟩ := cellsAt_path h
    exact ⟨_, _, hv, fun k' => by simp [evLoad, *]⟩
  · obtain ⟨y, hy, h⟩ := Option.bind_eq_some_iff.1 h
    obtain ⟨tv, hv, hk⟩ := cellsAt_path h
    exact ⟨_, _, hv, fun k' => by simp [evLoad, *]⟩
  · obtain ⟨tv, hv, hk⟩ := cellsAt_path h
    exact ⟨_, _, hv, fun k' => by simp [evLoad, *]⟩
theorem evStore_path {T : TypeId} {x y : Operand} : Path fun k => evStore X s T x y k := by
  intro R k r h
  unfold evStore at h
  repeat' split at h
  all_goals try (cases h; done)
  · exact ⟨_, _, h, fun k' => by simp [evStore, *]⟩
  · obtain ⟨z, hz, h⟩ := Option.bind_eq_some_iff.1 h
    split at h <;> try (cases h; done)
    exact ⟨_, _, h, fun k' => by simp [evStore, *]⟩
theorem evFieldAddr_path {T : TypeId} {x : Operand} {f : Nat} : Path fun k => evFieldAddr X s T x f k := by
  intro R k r h
  unfold evFieldAddr at h
  repeat' split at h
  all_goals first | (cases h; done) | exact ⟨_, _, h, fun k' => by simp [evFieldAddr, *]⟩
theorem evField_path {T : TypeId} {x : Operand} {f : Nat} : Path fun k => evField X s T x f k := by
  intro R k r h
  unfold evField at h
  repeat' split at h
  all_goals try (cases h; done)
  obtain ⟨tv, hv, hk⟩ := cellsAt_path h
  exact ⟨_, _, hv, fun k' => by simp [evField, *]⟩
theorem evNil_path {x : Operand} : Path fun k => evNil X s x k := by
  intro R k r h
  unfold evNil at h
  repeat' split at h
  all_goals first | (cases h; done) | exact ⟨_, _, h, fun k' => by simp [evNil, *]⟩
theorem evExtract_path {x : Operand} {n : Nat} : Path fun k => evExtract X s x n k := by
  intro R k r h
  unfold evExtract at h
  repeat' split at h
  all_goals first | (cases h; done) | exact ⟨_, _, h, fun k' => by simp [evExtract, *]⟩
theorem evIndexAddr_path {T : TypeId} {x y : Operand} : Path fun k => evIndexAddr X s T x y k := by
  intro R k r h
  unfold evIndexAddr at h
  repeat' split at h
  all_goals try (cases h; done)
  · exact ⟨_, _, h, fun k' => by simp [evIndexAddr, *]⟩
  · exact ⟨_, _, h, fun k' => by simp [evIndexAddr, *]⟩
  · obtain ⟨z, hz, h⟩ := Option.bind_eq_some_iff.1 h
    exact ⟨_, _, h, fun k' => by simp [evIndexAddr, *]⟩
theorem evIndex_path {T : TypeId} {x y : Operand} : Path fun k => evIndex X s T x y k := by
  intro R k r h
  unfold evIndex at h
  repeat' split at h
  all_goals try (cases h; done)
  obtain ⟨z, hz, h⟩ := Option.bind_eq_some_iff.1 h
  exact ⟨_, _, h, fun k' => by simp [evIndex, *]⟩
theorem evLen_path {T : TypeId} {x : Operand} : Path fun k => evLen X s T x k := by
  intro R k r h
  unfold evLen at h
  repeat' split at h
  all_goals first | (cases h; done) | exact ⟨_, _, h, fun k' => by simp [evLen, *]⟩
theorem evMM_path {mx : Bool} {x y : Operand} : Path fun k => evMM X s mx x y k := by
  intro R k r h
  unfold evMM at h
  split at h <;> try (cases h; done)
  split at h <;> try (cases h; done)
  exact ⟨_, _, h, fun k' => by simp [evMM, *]⟩
theorem evAlloc_path {T : TypeId} : Path fun k => evAlloc X s T k := by
  intro R k r h
  unfold evAlloc at h
  repeat' split at h
  all_goals first | (cases h; done) | exact ⟨_, _, h, fun k' => by simp [evAlloc, *]⟩
theorem evBox_path {x : Operand} : Path fun k => evBox X s x k := by
  intro R k r h
  unfold evBox at h
  repeat' split at h
  all_goals first | (cases h; done) | exact ⟨_, _, h, fun k' => by simp [evBox, *]⟩
theorem evBuild_path {T : TypeId} {parts : List (Nat × Operand)} : Path fun k => evBuild X s T parts k := by
  intro R k r h
  unfold evBuild at h
  repeat' split at h
  all_goals first | (cases h; done) | exact ⟨_, _, h, fun k' => by simp [evBuild, *]⟩
theorem evMake_path {T : TypeId} {x y : Operand} : Path fun k => evMake X s T x y k := by
  intro R k r h
  unfold evMake at h
  repeat' split at h
  all_goals first | (cases h; done) | exact ⟨_, _, h, fun k' => by simp [evMake, *]⟩
theorem evSliceLit_path {T : TypeId} {n : Nat} {parts : List (Nat × Operand)} : Path fun k => evSliceLit X s T n parts k := by
  intro R k r h
  unfold evSliceLit at h
  repeat' split at h
  all_goals first | (cases h; done) | exact ⟨_, _, h, fun k' => by simp [evSliceLit, *]⟩
theorem evCut_path {T : TypeId} {x : Operand} {lo hi : Option Operand} : Path fun k => evCut X s T x lo hi k := by
  intro R k r h
  unfold evCut at h
  repeat' split at h
  all_goals try (cases h; done)
  all_goals
    obtain ⟨z, hz, h⟩ := Option.bind_eq_some_iff.1 h
    exact ⟨_, _, h, fun k' => by simp [evCut, *]⟩
theorem evStr_path {T1 T2 : TypeId} {x : Operand} : Path fun k => evStr X s T1 T2 x k := by
  intro R k r h
  unfold evStr at h
  split at h <;> try (cases h; done)
  split at h <;> try (cases h; done)
  split at h <;> try (cases h; done)
  exact ⟨_, _, h, fun k' => by simp only [evStr, *]⟩
theorem evCv_path {T1 T2 : TypeId} {x : Operand} : Path fun k => evCv X s T1 T2 x k := by
  intro R k r h
  unfold evCv at h ⊢
  split at h
  · obtain ⟨L, e, h1, h2⟩ := evConv_path k r h
    exact ⟨L, e, h1, h2⟩
  · obtain ⟨L, e, h1, h2⟩ := evStr_path k r h
    exact ⟨L, e, h1, h2⟩
theorem evMakeMap_path {T : TypeId} : Path fun k => evMakeMap X s T k := by
  intro R k r h
  unfold evMakeMap at h
  split at h <;> try (cases h; done)
  exact ⟨_, _, h, fun k' => by simp [evMakeMap, *]⟩
theorem evLookup_path {T : TypeId} {x y : Operand} {ok : Bool} : Path fun k => evLookup X s T x y ok k := by
  intro R k r h
  unfold evLookup at h
  split at h <;> try (cases h; done)
  split at h <;> try (cases h; done)
  split at h <;> try (cases h; done)
  exact ⟨_, _, h, fun k' => by simp only [evLookup, *]⟩
theorem evMapUpdate_path {T : TypeId} {x y z : Operand} : Path fun k => evMapUpdate X s T x y z k := by
  intro R k r h
  unfold evMapUpdate at h
  repeat' split at h
  all_goals try (cases h; done)
  exact ⟨_, _, h, fun k' => by simp only [evMapUpdate, *]⟩
theorem evAppend_path {T Ty : TypeId} {x y : Operand} : Path fun k => evAppend X s T Ty x y k := by
  intro R k r h
  unfold evAppend at h
  repeat' split at h
  all_goals try (cases h; done)
  · exact ⟨_, _, h, fun k' => by simp only [evAppend, *, and_self, if_true, cond_true, cond_false]⟩
  all_goals
    rename_i ys L hys hsz hzz
    cases hq : ys.isEmpty with
    | true =>
      rw [hq] at h
      exact ⟨_, _, h, fun k' => by simp only [evAppend, *, and_self, if_true, cond_true, cond_false]⟩
    | false =>
      rw [hq] at h
      first | (cases h; done) | exact ⟨_, _, h, fun k' => by simp only [evAppend, *, and_self, if_true, cond_true, cond_false]⟩
end
end Go.Proofs.YtmcflglkfgnbbaaDoor.Eng

/- Code, and functions. -/
namespace Go.Proofs.YtmcflglkfgnbbaaDoor.Eng
open Go Go.RowKit
set_option linter.unusedVariables false
set_option linter.unusedSimpArgs false
theorem evCall_path {P : Program} {X : Cx} {E : FuncId → Option (Spc X.U)} (hE : ∀ f S, E f = some S → SpecOk P f S) {s : TS X.U} {f : FuncId} {xs : List Operand} : Path fun k => evCall X E s f xs k := by
  intro R k r h
  unfold evCall at h
  split at h <;> try (cases h; done)
  rename_i S hS
  dsimp only at h
  split at h <;> try (cases h; done)
  rename_i hj
  split at h <;> try (cases h; done)
  rename_i os hos
  split at h <;> try (cases h; done)
  rename_i hchk
  obtain ⟨o, v, hk, hp⟩ := (hE f S hS).path _ _ _ _ h
  cases o with
  | nil =>
    refine ⟨_, _, hk, fun k' => ?_⟩
    show evCall X E s f xs k' = _
    unfold evCall
    simp only [hS, hj, hos, hchk]
    exact hp _
  | cons x0 r0 =>
    refine ⟨_, _, hk, fun k' => ?_⟩
    show evCall X E s f xs k' = _
    unfold evCall
    simp only [hS, hj, hos, hchk]
    exact hp _
theorem evCallV_path {P : Program} {X : Cx} {E : FuncId → Option (Spc X.U)} (hE : ∀ f S, E f = some S → SpecOk P f S) {s : TS X.U} {x : Operand} {xs : List Operand} : Path fun k => evCallV X E s x xs k := by
  intro R k r h
  unfold evCallV at h
  split at h <;> try (cases h; done)
  rename_i f hf
  obtain ⟨L, e, h1, h2⟩ := evCall_path hE _ r h
  exact ⟨_, _, h1, fun k' => by unfold evCallV; rw [hf]; exact h2 _⟩
theorem ev1_path {P : Program} {X : Cx} {E : FuncId → Option (Spc X.U)} (hE : ∀ f S, E f = some S → SpecOk P f S) {s : TS X.U} {o : Oper} : Path fun k => ev1 X E s o k := by
  intro R k r h
  unfold ev1 at h ⊢
  split at h <;> try (cases h; done)
  · exact evMv_path k r h
  · exact evMv_path k r h
  · exact evPick_path k r h
  · exact evBin_path k r h
  · exact evUn_path k r h
  · exact evCv_path k r h
  · exact evLoad_path k r h
  · exact evStore_path k r h
  · exact evFieldAddr_path k r h
  · exact evField_path k r h
  · exact evNil_path k r h
  · exact evExtract_path k r h
  · exact evIndexAddr_path k r h
  · exact evIndex_path k r h
  · exact evAlloc_path k r h
  · exact evBox_path k r h
  · exact evBuild_path k r h
  · exact evSliceLit_path k r h
  · exact evMake_path k r h
  · exact evCut_path k r h
  · exact evMakeMap_path k r h
  · exact evLookup_path k r h
  · exact evMapUpdate_path k r h
  · split at h <;> try (cases h; done)
    · exact evCall_path hE k r h
    · exact evCallV_path hE k r h
    · unfold evBuiltin at h ⊢
      split at h <;> try (cases h; done)
      · split at h <;> try (cases h; done)
        exact evLen_path k r h
      · split at h <;> try (cases h; done)
        exact evAppend_path k r h
      · split at h <;> try (cases h; done)
        exact evMM_path k r h
      · split at h <;> try (cases h; done)
        exact evMM_path k r h
section
variable {P : Program} {X : Cx} {E : FuncId → Option (Spc X.U)} {R : Type} {r : R}
theorem evOps_path (hE : ∀ f S, E f = some S → SpecOk P f S) {dr : Bool} {al : List Oper} : ∀ {ops : List Oper} {s : TS X.U} {acc : List (List Loc × List Loc)} {k : TS X.U → List (List Loc × List Loc) → Option R},
    evOps X E dr al ops s acc k = some r → ∃ s' l, k s' l = some r ∧ ∀ {R' : Type} (k' : TS X.U → List (List Loc × List Loc) → Option R'), evOps X E dr al ops s acc k' = k' s' l
  | [], s, acc, k, h => ⟨s, acc, h, fun _ => rfl⟩
  | o :: rest, s, acc, k, h => by
    unfold evOps at h
    split at h
    · rename_i hg
      obtain ⟨L, e, hk, hp⟩ := ev1_path hE _ _ h
      obtain ⟨s', l, hk', hp'⟩ := evOps_path hE hk
      refine ⟨s', l, hk', fun k' => ?_⟩
      unfold evOps
      simp only [hg]
      exact (hp _).trans (hp' k')
    · rename_i j b hg
      split at h <;> try (cases h; done)
      rename_i t0 ht
      split at h <;> try (cases h; done)
      case h_2 xs hs =>
        obtain ⟨s', l, hk', hp'⟩ := evOps_path hE h
        refine ⟨s', l, hk', fun k' => ?_⟩
        unfold evOps
        simp only [hg, ht, hs]
        exact hp' k'
      rename_i c hs
      cases b with
      | true =>
        cases c with
        | true =>
          obtain ⟨L, e, hk, hp⟩ := ev1_path hE _ _ h
          obtain ⟨s', l, hk', hp'⟩ := evOps_path hE hk
          refine ⟨s', l, hk', fun k' => ?_⟩
          unfold evOps
          simp only [hg, ht, hs]
          exact (hp _).trans (hp' k')
        | false =>
          obtain ⟨s', l, hk', hp'⟩ := evOps_path hE h
          refine ⟨s', l, hk', fun k' => ?_⟩
          unfold evOps
          simp only [hg, ht, hs]
          exact hp' k'
      | false =>
        cases c with
        | false =>
          obtain ⟨L, e, hk, hp⟩ := ev1_path hE _ _ h
          obtain ⟨s', l, hk', hp'⟩ := evOps_path hE hk
          refine ⟨s', l, hk', fun k' => ?_⟩
          unfold evOps
          simp only [hg, ht, hs]
          exact (hp _).trans (hp' k')
        | true =>
          obtain ⟨s', l, hk', hp'⟩ := evOps_path hE h
          refine ⟨s', l, hk', fun k' => ?_⟩
          unfold evOps
          simp only [hg, ht, hs]
          exact hp' k'
theorem evReg_path (hE : ∀ f S, E f = some S → SpecOk P f S) {ops : Array Oper} {dr : Bool} {s : TS X.U} {k : TS X.U → Option R} (h : evReg X E ops dr s k = some r) :
    ∃ s', k s' = some r ∧ ∀ {R' : Type} (k' : TS X.U → Option R'), evReg X E ops dr s k' = k' s' := by
  unfold evReg at h
  obtain ⟨s', l, hk, hp⟩ := evOps_path hE h
  cases dr with
  | false => exact ⟨s', hk, fun k' => by unfold evReg; rw [hp]⟩
  | true =>
    dsimp only at hk
    split at hk <;> try (cases hk; done)
    rename_i hc
    exact ⟨s', hk, fun k' => by unfold evReg; rw [hp]; simp only [hc]⟩
/-! ### Code -/
/-- What is told to the walk: which slots live at the head of a block's loop, and behind it; of which objects a region no longer writes; whether what is handed back is to be one's own. -/
structure Ann where
  live : Nat → Nat
  out : Nat → Nat
  fz : Nat → List Nat
  own : Bool
def evNorm (mask : Nat) (s : TS X.U) : Option (TS X.U) := match norm mask s [] with
  | some (s1, _) => some s1
  | none => none
/-- A loop, so many rounds at most: by which exit it ends, and what is told then. -/
def loopR (live out : Nat) (body : TS X.U → (Exit → TS X.U → Option (Exit × TS X.U)) → Option (Exit × TS X.U)) : Nat → TS X.U → Option (Exit × TS X.U)
  | 0, _ => none
  | n + 1, s => body s fun ex s' => match ex with
    | .normal => match evNorm live s' with
      | some s1 => loopR live out body n s1
      | none => none
    | e => match evNorm out s' with
      | some s1 => some (e, s1)
      | none => none
/-- What is told of loops, block by block. -/
structure Lp (U : Univ) where
  F : {R : Type} → Nat → TS U → (Exit → TS U → Option R) → Option R
def refineS {U : Univ} (s : TS U) (c : Operand) (b : Bool) : TS U := match c with
  | .tmp t => ⟨setN s.slots t (.v (.bool b)), s.objs, s.hin⟩
  | _ => s
/-- The objects that slots lead to. -/
def fzKids {U : Univ} (s : TS U) (k : Nat) : List Nat := match getN s.slots k with
  | .ref id _ _ => (match nth s.objs id with
    | some o => o.ids
    | none => [])
  | _ => []
/-- Slots; from a thousand on, what the cells hold that a slot points to. -/
def fzRoots {U : Univ} (s : TS U) : List Nat → List Nat
  | [] => []
  | k :: l => (match Nat.ble 1000 k with
    | true => fzKids s (k - 1000)
    | false => (getN s.slots k).ids) ++ fzRoots s l
def fzIds {U : Univ} (s : TS U) (l : List Nat) : List Nat := match l with
  | [] => []
  | l => reach s.objs 1000 (fzRoots s l) []
/-- Behind a region what is told may be cut down: by the mask at a thousand and its number. -/
def cutS {X : Cx} (mask : Nat) (s : TS X.U) : TS X.U := match mask with
  | 0 => s
  | m + 1 => match evNorm (m + 1) s with
    | some s1 => s1
    | none => s
def evC (X : Cx) (E : FuncId → Option (Spc X.U)) (an : Ann) (lp : Lp X.U) : Code → Nat → TS X.U → (Exit → TS X.U → Option R) → Option R
  | .skip, _, s, K => K .normal s
  | .region id ops dr, _, s, K => evReg X E ops dr (frzs s (fzIds s (an.fz id))) fun s' => K .normal (cutS (an.live (1000 + id)) s')
  | .seq x y, b, s, K => evC X E an lp x b s fun ex s' => match ex with
    | .normal => evC X E an lp y b s' K
    | e => K e s'
  | .cond c x y, b, s, K => match evO s c with
    | .v (.bool p) => cond p (evC X E an lp x b (refineS s c true) K) (evC X E an lp y b (refineS s c false) K)
    | _ => none
  | .block id x, _, s, K => evC X E an lp x id s fun ex s' => match ex with
    | .exit i => match Nat.beq i id with
      | true => K .normal s'
      | false => K (.exit i) s'
    | e => K e s'
  | .loop x, b, s, K => match evNorm (an.live b) s with
    | some s1 => lp.F b s1 K
    | none => none
  | .exit id, _, s, K => K (.exit id) s
  | .ret, _, s, K => K .ret s
  | _, _, _, _ => none
/-- The loops of a text, with their blocks. -/
def loops : Code → Nat → List (Nat × Code)
  | .seq x y, b => loops x b ++ loops y b
  | .cond _ x y, b => loops x b ++ loops y b
  | .block id x, _ => loops x id
  | .loop x, b => (b, x) :: loops x b
  | _, _ => []
/-- What is told of a loop is what its rounds come to. -/
def LpOk (X : Cx) (E : FuncId → Option (Spc X.U)) (an : Ann) (lp : Lp X.U) (l : List (Nat × Code)) : Prop :=
  (∀ q ∈ l, ∀ s p, lp.F q.1 s (fun ex s' => some (ex, s')) = some p → ∃ n, loopR (an.live q.1) (an.out q.1) (fun s K => evC X E an lp q.2 q.1 s K) n s = some p) ∧
  ∀ (b : Nat) (s : TS X.U) (R : Type) (K : Exit → TS X.U → Option R) (r : R), lp.F b s K = some r → ∃ ex s', K ex s' = some r ∧ ∀ {R' : Type} (K' : Exit → TS X.U → Option R'), lp.F b s K' = K' ex s'
theorem LpOk.mono {X : Cx} {E : FuncId → Option (Spc X.U)} {an : Ann} {lp : Lp X.U} {l l' : List (Nat × Code)} (h : LpOk X E an lp l) (hs : ∀ q ∈ l', q ∈ l) : LpOk X E an lp l' := ⟨fun q hq => h.1 q (hs q hq), h.2⟩
theorem evC_path (hE : ∀ f S, E f = some S → SpecOk P f S) {an : Ann} {lp : Lp X.U} (hP : ∀ (b : Nat) (s : TS X.U) (R : Type) (K : Exit → TS X.U → Option R) (r : R), lp.F b s K = some r → ∃ ex s', K ex s' = some r ∧ ∀ {R' : Type} (K' : Exit → TS X.U → Option R'), lp.F b s K' = K' ex s') : ∀ {c : Code} {R : Type} {r : R} {b : Nat} {s : TS X.U} {K : Exit → TS X.U → Option R}, evC X E an lp c b s K = some r →
    ∃ ex s', K ex s' = some r ∧ ∀ {R' : Type} (K' : Exit → TS X.U → Option R'), evC X E an lp c b s K' = K' ex s' := by
  intro c
  induction c with
  | skip => intro R r b s K h; exact ⟨_, _, h, fun _ => rfl⟩
  | exit id => intro R r b s K h; exact ⟨_, _, h, fun _ => rfl⟩
  | ret => intro R r b s K h; exact ⟨_, _, h, fun _ => rfl⟩
  | region id ops dr =>
    intro R r b s K h
    obtain ⟨s', hk, hp⟩ := evReg_path hE h
    exact ⟨_, _, hk, fun K' => hp _⟩
  | seq x y ihx ihy =>
    intro R r b s K h
    obtain ⟨ex, s', hk, hp⟩ := ihx h
    cases ex with
    | normal =>
      obtain ⟨ex2, s2, hk2, hp2⟩ := ihy hk
      exact ⟨ex2, s2, hk2, fun K' => (hp _).trans (hp2 K')⟩
    | _ => exact ⟨_, s', hk, fun K' => hp _⟩
  | cond c x y ihx ihy =>
    intro R r b s K h
    unfold evC at h
    split at h <;> try (cases h; done)
    rename_i p hc
    cases p with
    | true =>
      obtain ⟨ex, s', hk, hp⟩ := ihx h
      exact ⟨ex, s', hk, fun K' => by unfold evC; simp only [hc]; exact hp K'⟩
    | false =>
      obtain ⟨ex, s', hk, hp⟩ := ihy h
      exact ⟨ex, s', hk, fun K' => by unfold evC; simp only [hc]; exact hp K'⟩
  | block id x ih =>
    intro R r b s K h
    obtain ⟨ex, s', hk, hp⟩ := ih h
    cases ex with
    | exit i =>
      dsimp only at hk
      split at hk
      · rename_i e
        exact ⟨_, s', hk, fun K' => by unfold evC; rw [hp]; simp only [e]⟩
      · rename_i e
        exact ⟨_, s', hk, fun K' => by unfold evC; rw [hp]; simp only [e]⟩
    | _ => exact ⟨_, s', hk, fun K' => hp _⟩
  | loop x ih =>
    intro R r b s K h
    unfold evC at h
    split at h <;> try (cases h; done)
    rename_i s1 hs1
    obtain ⟨ex, s', hk, hp⟩ := hP _ _ _ _ _ h
    exact ⟨_, _, hk, fun K' => by unfold evC; simp only [hs1]; exact hp K'⟩
  | _ => intro R r b s K h; cases h
theorem wp_loop_ix {c : Code} {Q : Exit → Act → World → Prop} (I : Nat → Act → World → Prop) {n : Nat} {a : Act} {w : World} (h0 : I n a w) (hr : ∀ n a w, I n a w → c.wp P (fun e a' w' => match e with | .normal => ∃ m, m < n ∧ I m a' w' | e => Q e a' w') a w) : (Code.loop c).wp P Q a w := by
  intro b k cs
  have key : ∀ n a w, I n a w → ∃ e a' w', Q e a' w' ∧ Arrives P (lone (b.at a (.code c :: .inLoop c :: k)) cs w) b k cs e a' w' := by
    intro n
    induction n using Nat.strongRecOn with
    | _ n ih =>
      intro a w hI
      obtain ⟨e, a₁, w₁, hq, harr⟩ := hr n a w hI b (.inLoop c :: k) cs
      cases e with
      | normal =>
        obtain ⟨m, hlt, hI₁⟩ := hq
        obtain ⟨e₂, a₂, w₂, hq₂, harr₂⟩ := ih m hlt a₁ w₁ hI₁
        exact ⟨e₂, a₂, w₂, hq₂, .of_steps (Steps.trans harr (.one step_inLoop)) harr₂⟩
      | exit id => exact ⟨_, a₁, w₁, hq, .pass (x := .inLoop c) rfl (fun _ _ => .inl (by simp)) harr⟩
      | goto l => exact ⟨_, a₁, w₁, hq, .pass (x := .inLoop c) rfl (fun _ _ => .inl (by simp)) harr⟩
      | ret => exact ⟨_, a₁, w₁, hq, .pass (x := .inLoop c) rfl (fun _ _ => .inl (by simp)) harr⟩
      | panic ch => exact ⟨_, a₁, w₁, hq, .pass (x := .inLoop c) rfl (fun _ _ => .inl (by simp)) harr⟩
      | outgrown => exact ⟨_, a₁, w₁, hq, .pass (x := .inLoop c) rfl (fun _ _ => .inl (by simp)) harr⟩
  obtain ⟨e, a', w', hq, harr⟩ := key n a w h0
  exact ⟨e, a', w', hq, .of_steps (.one step_loop) harr⟩
theorem evNorm_ok (hX : CxOk P X) {mask : Nat} {s s1 : TS X.U} (hn : evNorm mask s = some s1) {f : Fr} {a : Act} {w : World} (hT : TR f s a w) : TR f s1 a w := by
  unfold evNorm at hn
  split at hn <;> try (cases hn; done)
  rename_i s2 xs2 hs2
  cases hn
  obtain ⟨⟨σ, hM, g, hR⟩, hin, hg0⟩ := hT
  obtain ⟨g1, σ1, h1, h2, h3, h4, _⟩ := norm_ok hX.closed hs2 hM hR hin hg0
  exact ⟨⟨σ1, h2, g1, h1⟩, h4, fun id b hb => by rw [h3]; exact hg0 id b hb⟩
theorem cutS_ok (hX : CxOk P X) {mask : Nat} {s : TS X.U} {f : Fr} {a : Act} {w : World} (hT : TR f s a w) : TR f (cutS mask s) a w := by
  unfold cutS
  split
  · exact hT
  · split
    · rename_i h; exact evNorm_ok hX h hT
    · exact hT
theorem refineS_ok {s : TS X.U} {c : Operand} {p : Bool} (hc : evO s c = .v (.bool p)) {f : Fr} {a : Act} {w : World} (hT : TR f s a w) : TR f (refineS s c p) a w := by
  cases c with
  | tmp t =>
    obtain ⟨⟨σ, hM, hR⟩, hin, hg0⟩ := hT
    exact ⟨⟨σ, hM.same hc, hR⟩, hin, hg0⟩
  | _ => exact hT
theorem evC_ok (hX : CxOk P X) (hm : P.follows .mixedOrders = true) (hE : ∀ f S, E f = some S → SpecOk P f S) {an : Ann} {lp : Lp X.U} {f : Fr} : ∀ {c : Code} {R : Type} {r : R} {b : Nat} {s : TS X.U} {K : Exit → TS X.U → Option R}, LpOk X E an lp (loops c b) → evC X E an lp c b s K = some r →
    ∀ {a : Act} {w : World}, codeOk f.N c = true → TR f s a w → ∀ {Q : Exit → Act → World → Prop}, (∀ ex s' a' w', K ex s' = some r → TR f s' a' w' → Q ex a' w') → c.wp P Q a w := by
  intro c
  induction c with
  | skip => intro R r b s K hL h a w hok hT Q hQ; exact wp_skip (hQ _ _ _ _ h hT)
  | exit id => intro R r b s K hL h a w hok hT Q hQ; exact wp_exit (hQ _ _ _ _ h hT)
  | ret => intro R r b s K hL h a w hok hT Q hQ; exact wp_ret (hQ _ _ _ _ h hT)
  | region id ops dr =>
    intro R r b s K hL h a w hok hT Q hQ
    exact evReg_ok hX hm hE h hok (frzs_ok hX _ hT) fun s' a' w' hk hT' => hQ _ _ _ _ hk (cutS_ok hX hT')
  | seq x y ihx ihy =>
    intro R r b s K hL h a w hok hT Q hQ
    have hok : (codeOk f.N x && codeOk f.N y) = true := hok
    rw [Bool.and_eq_true] at hok
    refine wp_seq (ihx (hL.mono fun q hq => List.mem_append_left _ hq) h hok.1 hT fun ex s' a' w' hk hT' => ?_)
    cases ex with
    | normal => exact ihy (hL.mono fun q hq => List.mem_append_right _ hq) hk hok.2 hT' hQ
    | _ => exact hQ _ _ _ _ hk hT'
  | cond c x y ihx ihy =>
    intro R r b s K hL h a w hok hT Q hQ
    have hok : (codeOk f.N x && codeOk f.N y) = true := hok
    rw [Bool.and_eq_true] at hok
    unfold evC at h
    split at h <;> try (cases h; done)
    rename_i p hc
    have hT0 := hT
    obtain ⟨⟨σ, hM, g, hR⟩, _, _⟩ := hT0
    refine wp_cond_split (ev_v hR (Agree.refl _ _) (by rw [hM.ev hc (by simp)]; rfl)) (fun e => ?_) (fun e => ?_)
    · subst e; exact ihx (hL.mono fun q hq => List.mem_append_left _ hq) h hok.1 (refineS_ok hc hT) hQ
    · subst e; exact ihy (hL.mono fun q hq => List.mem_append_right _ hq) h hok.2 (refineS_ok hc hT) hQ
  | block id x ih =>
    intro R r b s K hL h a w hok hT Q hQ
    refine wp_block (ih hL h hok hT fun ex s' a' w' hk hT' => ?_)
    cases ex with
    | exit i =>
      dsimp only at hk
      show (if i = id then _ else _)
      split at hk
      · rename_i e
        rw [if_pos (Nat.eq_of_beq_eq_true e)]
        exact hQ _ _ _ _ hk hT'
      · rename_i e
        rw [if_neg (fun h => by rw [h, Nat.beq_refl] at e; cases e)]
        exact hQ _ _ _ _ hk hT'
    | _ => exact hQ _ _ _ _ hk hT'
  | loop x ih =>
    intro R r b s K hL h a w hok hT Q hQ
    unfold evC at h
    split at h <;> try (cases h; done)
    rename_i s1 hs1
    obtain ⟨ex0, s0, hk, hpk⟩ := hL.2 _ _ _ _ _ h
    obtain ⟨p, hpe⟩ : ∃ p : Exit × TS X.U, p = (ex0, s0) := ⟨_, rfl⟩
    obtain ⟨N, hN⟩ := hL.1 (b, x) List.mem_cons_self s1 p (by rw [hpk, hpe])
    have hk : K p.1 p.2 = some r := by rw [hpe]; exact hk
    refine wp_loop_ix (fun n a w => ∃ s, loopR (an.live b) (an.out b) (fun s K => evC X E an lp x b s K) n s = some p ∧ TR f s a w) (n := N) ⟨s1, hN, evNorm_ok hX hs1 hT⟩ fun n a w ⟨s, hs, hT⟩ => ?_
    cases n with
    | zero => cases hs
    | succ n =>
      refine ih (hL.mono fun q hq => List.mem_cons_of_mem _ hq) hs hok hT fun ex s' a' w' hk2 hT' => ?_
      cases ex with
      | normal =>
        dsimp only at hk2
        split at hk2 <;> try (cases hk2; done)
        rename_i s2 hs2
        exact ⟨n, Nat.lt_succ_self n, s2, hk2, evNorm_ok hX hs2 hT'⟩
      | _ =>
        dsimp only at hk2
        split at hk2 <;> try (cases hk2; done)
        rename_i s2 hs2
        cases hk2
        exact hQ _ _ _ _ hk (evNorm_ok hX hs2 hT')
  | _ => intro R r b s K hL h; cases h
end
end Go.Proofs.YtmcflglkfgnbbaaDoor.Eng

/- Functions: what they come to. -/
namespace Go.Proofs.YtmcflglkfgnbbaaDoor.Eng
open Go Go.RowKit
set_option linter.unusedVariables false
set_option linter.unusedSimpArgs false
def resSem (tmps : Array Value) : ResultVar → Sem Value
  | .tmp t => pure (tmps.getD t undef)
  | .cell a t => do loadVar t (← asAddr (tmps.getD a undef))
theorem run_listM {P : Program} {w : World} {f : ResultVar → Sem Value} : ∀ {l : List ResultVar} {vs : List Value}, l.length = vs.length → (∀ (i : Nat) (r : ResultVar) (v : Value), l[i]? = some r → vs[i]? = some v → (f r).run P w = .ok v w) → (l.mapM f).run P w = .ok vs w
  | [], [], _, _ => by simp
  | r :: l, v :: vs, hl, h => by
    have h0 := h 0 r v rfl rfl
    have ih := run_listM (f := f) (l := l) (vs := vs) (by simpa using hl) fun i r v h1 h2 => h (i + 1) r v (by simpa using h1) (by simpa using h2)
    simp only [List.mapM_cons, Sem.run_bind, h0, Result.andThen_ok, ih]
    simp
  | [], _ :: _, h, _ => by cases h
  | _ :: _, [], h, _ => by cases h
def tupV : List Value → Value
  | [x] => x
  | l => .tuple l.toArray
theorem run_results {P : Program} {w : World} {fn : Func} {tmps : Array Value} {vs : List Value} (hl : fn.results.toList.length = vs.length) (h : ∀ (i : Nat) (r : ResultVar) (v : Value), fn.results.toList[i]? = some r → vs[i]? = some v → (resSem tmps r).run P w = .ok v w) :
    (results fn tmps).run P w = .ok (tupV vs) w := by
  have hm := run_listM (f := resSem tmps) hl h
  have he : (fn.results.mapM (resSem tmps)).run P w = .ok vs.toArray w := by
    rw [Array.mapM_eq_mapM_toList]
    rw [map_eq_pure_bind, Sem.run_bind, hm]
    rfl
  have hr : results fn tmps = (do
      let vs ← fn.results.mapM (resSem tmps)
      pure (if h : vs.size = 1 then vs[0] else .tuple vs)) := rfl
  rw [hr, Sem.run_bind, he, Result.andThen_ok]
  clear hm he hr h hl
  match vs with
  | [] => rfl
  | [x] => rfl
  | x :: y :: l => simp [tupV]
section
variable {P : Program} {X : Cx} {E : FuncId → Option (Spc X.U)} {R : Type} {r : R}
def evRV (X : Cx) (s : TS X.U) : ResultVar → Option (TV X.U)
  | .tmp t => match (getN s.slots t).isJunk with
    | true => none
    | false => some (getN s.slots t)
  | .cell t T => match getN s.slots t with
    | .ref id 0 j => match nth s.objs id with
      | some (.cells l _) => match X.tt T with
        | some u => match u.row with
          | true => if ((l.drop j).take u.size).length = u.size then some (.agg ((l.drop j).take u.size)) else none
          | false => nth l j
        | none => none
      | _ => none
    | _ => none
theorem evRV_ok (hX : CxOk P X) {s : TS X.U} {rv : ResultVar} {tv : TV X.U} (h : evRV X s rv = some tv) {σ : St} (hM : M s σ) {f : Fr} {g : Gh} {a : Act} {w : World} (hR : Rel f g σ a w) : ∃ v, (resSem a.tmps rv).run P w = .ok v w ∧ Rep g w.heap v (tv.itp (rlen s.objs)) := by
  unfold evRV at h
  split at h
  · rename_i t
    split at h <;> try (cases h; done)
    rename_i hj
    cases h
    refine ⟨a.tmps.getD t undef, by simp [resSem], ?_⟩
    rw [← hM.slot t (not_junk hj)]
    exact hR.slot t
  · rename_i t T
    split at h <;> try (cases h; done)
    rename_i id j hs
    split at h <;> try (cases h; done)
    rename_i l fz hob
    split at h <;> try (cases h; done)
    rename_i u hu
    have hx : σ.slot t = .ref id 0 j := by rw [hM.slot t (by rw [hs]; simp), hs]; rfl
    have eo := hM.obj_cells hob
    have h1 := hR.slot t
    rw [hx] at h1
    obtain ⟨b, hb, he⟩ := rep_ref h1
    have hO := hR.ob id _ eo
    obtain ⟨d, hd, hdr⟩ := (hX.tab T u hu).und
    have he' : a.tmps[t]?.getD undef = .pointer (some ⟨b, g.o0 id + (0 * g.mm id + j), none⟩) := by rw [← Array.getD_eq_getD_getElem?]; exact he
    split at h
    · rename_i hrow
      split at h <;> try (cases h; done)
      rename_i hlen
      cases h
      obtain ⟨vs, hvs, hra⟩ := range_vals (cells := itpL (rlen s.objs) ((l.drop j).take u.size)) (b := b) (off := g.o0 id + 0 * g.mm id) (itpL (rlen s.objs) ((l.drop j).take u.size)) j fun k sv hk => by
        rw [← itpL_cut] at hk
        have := hO.cellAt hb (rep_refH h1 hb) (i := 0) rfl (take_get hk)
        rwa [← Nat.add_assoc] at this
      have hm := run_loadVar_mid (P := P) w b (g.o0 id + 0 * g.mm id + j) T vs d hra hd (by rw [hdr, hrow]) (by rw [(hX.tab T u hu).sz, hvs.length, itpL_len, hlen])
      rw [Nat.add_assoc] at hm
      refine ⟨.agg vs.toArray, ?_, .agg (by simpa using hvs)⟩
      simp only [Nat.zero_mul, Nat.zero_add] at he' hm
      simp [resSem, he', asAddr, Sem.run_bind, hm]
    · rename_i hrow
      obtain ⟨y, hy, hRy⟩ := hO.cellAt hb (rep_refH h1 hb) (i := 0) rfl (j := j) (by rw [itpL_get, h]; rfl)
      refine ⟨y, ?_, hRy⟩
      have hagg : (isAgg T).run P w = .ok false w := by
        unfold isAgg
        rw [Sem.run_bind, run_underlying hd w]
        have : d.isRow = false := by rw [hdr, hrow]
        cases d <;> simp_all
      simp only [Nat.zero_mul, Nat.zero_add] at he' hy
      simp [resSem, he', asAddr, Sem.run_bind, loadVar, hagg, load, Sem.run, hy]
def evRVs (X : Cx) (s : TS X.U) : List ResultVar → Option (List (TV X.U))
  | [] => some []
  | rv :: l => match evRV X s rv, evRVs X s l with
    | some x, some r => some (x :: r)
    | _, _ => none
theorem evRVs_ok (hX : CxOk P X) {s : TS X.U} {σ : St} (hM : M s σ) {f : Fr} {g : Gh} {a : Act} {w : World} (hR : Rel f g σ a w) : ∀ {l : List ResultVar} {tvs : List (TV X.U)}, evRVs X s l = some tvs →
    ∃ vs : List Value, l.length = vs.length ∧ (∀ (i : Nat) (r : ResultVar) (v : Value), l[i]? = some r → vs[i]? = some v → (resSem a.tmps r).run P w = .ok v w) ∧ RepL g w.heap vs (itpL (rlen s.objs) tvs)
  | [], tvs, h => by cases h; exact ⟨[], rfl, fun i r v h => by simp at h, .nil⟩
  | rv :: l, tvs, h => by
    unfold evRVs at h
    split at h <;> try (cases h; done)
    rename_i x r' hx hr
    cases h
    obtain ⟨v, h1, h2⟩ := evRV_ok hX hx hM hR
    obtain ⟨vs, k1, k2, k3⟩ := evRVs_ok hX hM hR hr
    refine ⟨v :: vs, by rw [List.length_cons, List.length_cons, k1], fun i r v' hr' hv' => ?_, .cons h2 k3⟩
    cases i with
    | zero => cases hr'; cases hv'; exact h1
    | succ i => exact k2 i r v' (by simpa using hr') (by simpa using hv')
def tupT {U : Univ} : List (TV U) → TV U
  | [x] => x
  | l => .tup l
/-- What a function's end leaves: rows that are handed back are never written again, unless they are to be one's own. -/
def evFin (X : Cx) (an : Ann) (rs : List ResultVar) (s : TS X.U) (k : List (TO X.U) → TV X.U → Option R) : Option R :=
  match evRVs X s rs with
  | none => none
  | some vs =>
    let s2 := match an.own with
      | true => s
      | false => frzs s (reach s.objs 1000 (idsL vs) [])
    match evRVs X s2 rs with
    | none => none
    | some vs2 => match norm 0 s2 [tupT vs2] with
      | some (s3, [tv]) => k s3.objs tv
      | _ => none
theorem evFin_path {an : Ann} {rs : List ResultVar} {s : TS X.U} {k : List (TO X.U) → TV X.U → Option R} (h : evFin X an rs s k = some r) : ∃ o v, k o v = some r ∧ ∀ {R' : Type} (k' : List (TO X.U) → TV X.U → Option R'), evFin X an rs s k' = k' o v := by
  unfold evFin at h
  split at h <;> try (cases h; done)
  rename_i vs hvs
  dsimp only at h
  split at h <;> try (cases h; done)
  rename_i vs2 hvs2
  split at h <;> try (cases h; done)
  rename_i s3 tv hn
  refine ⟨_, _, h, fun k' => ?_⟩
  unfold evFin
  simp only [hvs, hvs2, hn]
/-- A function, walked. -/
def evFn (X : Cx) (E : FuncId → Option (Spc X.U)) (an : Ann) (lp : Lp X.U) (fn : Func) (objs : List (TO X.U)) (args : List (TV X.U)) (k : List (TO X.U) → TV X.U → Option R) : Option R :=
  match fn.body, Nat.ble args.length fn.ntmps with
  | none, _ => none
  | _, false => none
  | some c, true => evC X E an lp c 0 ⟨args ++ List.replicate (fn.ntmps - args.length) .junk, objs, objs.length⟩ fun ex s => match ex with
    | .ret => evFin X an fn.results.toList s k
    | .normal => evFin X an fn.results.toList s k
    | _ => none
def specFn (X : Cx) (E : FuncId → Option (Spc X.U)) (an : Ann) (lp : Lp X.U) (fn : Func) : Spc X.U := ⟨fun objs args k => evFn X E an lp fn objs args k⟩
theorem evFn_path (hE : ∀ f S, E f = some S → SpecOk P f S) {an : Ann} {lp : Lp X.U} (hP : ∀ (b : Nat) (s : TS X.U) (R : Type) (K : Exit → TS X.U → Option R) (r : R), lp.F b s K = some r → ∃ ex s', K ex s' = some r ∧ ∀ {R' : Type} (K' : Exit → TS X.U → Option R'), lp.F b s K' = K' ex s') {fn : Func} {objs : List (TO X.U)} {args : List (TV X.U)} : PathF fun k => evFn X E an lp fn objs args k := by
  intro R k r h
  unfold evFn at h
  split at h <;> try (cases h; done)
  rename_i c hc hle
  obtain ⟨ex, s', hk, hp⟩ := evC_path hE hP h
  cases ex with
  | ret =>
    obtain ⟨o, v, hk2, hp2⟩ := evFin_path hk
    refine ⟨o, v, hk2, fun k' => ?_⟩
    show evFn X E an lp fn objs args k' = _
    unfold evFn
    simp only [hc, hle]
    rw [hp]
    exact hp2 k'
  | normal =>
    obtain ⟨o, v, hk2, hp2⟩ := evFin_path hk
    refine ⟨o, v, hk2, fun k' => ?_⟩
    show evFn X E an lp fn objs args k' = _
    unfold evFn
    simp only [hc, hle]
    rw [hp]
    exact hp2 k'
  | _ => cases hk
theorem getN_app {U : Univ} (args : List (TV U)) (n t : Nat) : getN (args ++ List.replicate n .junk) t = if t < args.length then getN args t else .junk := by
  unfold getN
  rw [nth_eq, nth_eq]
  by_cases h : t < args.length
  · rw [if_pos h, List.getElem?_append_left h]
  · rw [if_neg h, List.getElem?_append_right (by omega), List.getElem?_replicate]
    split <;> rfl
/-! ### What is so in any world -/
structure Wf {U : Univ} (s : TS U) : Prop where
  sb : ∀ t, (getN s.slots t).bel s.objs.length = true
  obb : ∀ id o, nth s.objs id = some o → o.bel s.objs.length = true
  hin : s.hin ≤ s.objs.length
theorem Wf.m {U : Univ} {s : TS U} (h : Wf s) : ∃ σ, M s σ := ⟨⟨fun t => (getN s.slots t).itp (rlen s.objs), fun j => match nth s.objs j with | some o => o.itp (rlen s.objs) | none => .never⟩,
  fun t _ => rfl, fun id o ho => by show (match nth s.objs id with | some o => o.itp (rlen s.objs) | none => OS.never) = _; rw [ho],
  fun id hid => by show (match nth s.objs id with | some o => o.itp (rlen s.objs) | none => OS.never) = _; rw [nth_eq, List.getElem?_eq_none hid], h.sb, h.obb⟩
theorem M.wf {s : TS X.U} {σ : St} (h : M s σ) (hin : s.hin ≤ s.objs.length) : Wf s := ⟨h.sb, h.obb, hin⟩
/-- As many handed in, each as long. -/
def Keeps {U : Univ} (s s' : TS U) : Prop := Wf s' ∧ s'.hin = s.hin ∧ ∀ i, i < s.hin → rlen s'.objs i = rlen s.objs i
theorem Keeps.trans {U : Univ} {s s1 s2 : TS U} (h1 : Keeps s s1) (h2 : Keeps s1 s2) : Keeps s s2 := ⟨h2.1, h2.2.1.trans h1.2.1, fun i hi => (h2.2.2 i (by rw [h1.2.1]; exact hi)).trans (h1.2.2 i hi)⟩
theorem Keeps.refl {U : Univ} {s : TS U} (h : Wf s) : Keeps s s := ⟨h, rfl, fun _ _ => rfl⟩
theorem frzOne_keeps {s : TS X.U} (h : Wf s) (id : Nat) : Keeps s (frzOne s id) := by
  unfold frzOne
  split
  case h_2 => exact .refl h
  case h_1 c xs hob =>
  have hlt := nth_lt hob
  have hlen : (setN (s.objs.map (TO.fz id c xs)) id (.row c xs true)).length = s.objs.length := by rw [setN_eq, List.length_set, List.length_map]
  have hnth : ∀ i, nth (setN (s.objs.map (TO.fz id c xs)) id (.row c xs true)) i = if i = id then some (.row c xs true) else (nth s.objs i).map (TO.fz id c xs) := fun i => by
    rw [nth_eq, setN_eq, List.getElem?_set, nth_eq]
    by_cases e : i = id
    · subst e
      rw [if_pos rfl, if_pos rfl, if_pos (by rw [List.length_map]; exact hlt)]
    · rw [if_neg (Ne.symm e), if_neg e, List.getElem?_map]
  refine ⟨⟨fun t => ?_, fun i o ho => ?_, by show s.hin ≤ (setN _ _ _).length; rw [hlen]; exact h.hin⟩, rfl, fun i hi => ?_⟩
  · show (getN (s.slots.map (TV.fz id c xs)) t).bel (setN (s.objs.map (TO.fz id c xs)) id (.row c xs true)).length = true
    have hget : getN (s.slots.map (TV.fz id c xs)) t = (getN s.slots t).fz id c xs := by
      unfold getN
      rw [nth_eq, nth_eq, List.getElem?_map]
      cases s.slots[t]? <;> rfl
    rw [hget, hlen]
    exact fz_all (h.sb t)
  · show o.bel (setN (s.objs.map (TO.fz id c xs)) id (.row c xs true)).length = true
    have ho : nth (setN (s.objs.map (TO.fz id c xs)) id (.row c xs true)) i = some o := ho
    rw [hlen]
    rw [hnth] at ho
    by_cases e : i = id
    · rw [if_pos e] at ho; cases ho; rfl
    · rw [if_neg e] at ho
      obtain ⟨p, hp, rfl⟩ := Option.map_eq_some_iff.1 ho
      have := h.obb i p hp
      cases p with
      | cells l z => exact fzL_all this
      | dead n => rfl
      | row c' ys z => rfl
      | mp c' ys z => rfl
  · show rlen (setN (s.objs.map (TO.fz id c xs)) id (.row c xs true)) i = _
    unfold rlen
    rw [hnth]
    by_cases e : i = id
    · subst e; rw [if_pos rfl, hob]; rfl
    · rw [if_neg e]
      cases nth s.objs i with
      | none => rfl
      | some o => cases o <;> rfl
theorem frzs_keeps : ∀ (ids : List Nat) {s : TS X.U}, Wf s → Keeps s (frzs s ids)
  | [], s, h => .refl h
  | id :: l, s, h => (frzOne_keeps h id).trans (frzs_keeps l (frzOne_keeps h id).1)
theorem norm_keeps {U : Univ} {mask : Nat} {s s1 : TS U} {xs xs1 : List (TV U)} (hn : norm mask s xs = some (s1, xs1)) : Keeps s s1 ∧ allL (fun i => decide (i < s1.objs.length)) xs1 = true := by
  unfold norm at hn
  split at hn <;> try (cases hn; done)
  rename_i ho hho
  dsimp only at hn
  generalize hids : reach s.objs 1000 (flatIds ho ++ idsL (maskL mask 0 s.slots) ++ idsL xs) (upTo 0 s.hin) = ids at hn
  split at hn <;> try (cases hn; done)
  rename_i os hos
  split at hn <;> try (cases hn; done)
  rename_i hchk
  simp only [Bool.and_eq_true] at hchk
  obtain ⟨⟨⟨⟨c1, c2⟩, c3⟩, c4⟩, c5⟩ := hchk
  cases hn
  obtain ⟨hol, hoget⟩ := objsAt_ok hos
  have hpre : ∀ j, j < s.hin → ids[j]? = some j := fun j hj => by
    have h := congrArg (fun l => l[j]?) (eqN_ok c5)
    rw [upTo_eq, ← List.range_eq_range'] at h
    have h : (ids.take s.hin)[j]? = (List.range s.hin)[j]? := h
    rw [List.getElem?_take, if_pos hj, List.getElem?_range hj] at h
    exact h
  have hidx : ∀ i, memN i ids = true → decide (idxN i ids < ids.length) = true := fun i hi => decide_eq_true (idxN_get (memN_iff.1 hi)).2
  have hlen : (os.map (TO.ren fun i => idxN i ids)).length = ids.length := by rw [List.length_map, hol]
  refine ⟨⟨⟨fun t => ?_, fun i o ho => ?_, ?_⟩, rfl, fun i hi => ?_⟩, ?_⟩
  · show (getN (tenL (fun i => idxN i ids) (maskL mask 0 s.slots)) t).bel (os.map (TO.ren fun i => idxN i ids)).length = true
    rw [getN_ten, hlen]
    refine ren_all hidx ?_
    unfold getN
    rw [nth_eq]
    cases hq : (maskL mask 0 s.slots)[t]? with
    | none => rfl
    | some x =>
      rw [allL_all] at c2
      exact List.all_eq_true.1 c2 x (List.mem_of_getElem? hq)
  · have ho : nth (os.map (TO.ren fun i => idxN i ids)) i = some o := ho
    show o.bel (os.map (TO.ren fun i => idxN i ids)).length = true
    rw [hlen]
    rw [nth_eq, List.getElem?_map] at ho
    obtain ⟨x, hx, rfl⟩ := Option.map_eq_some_iff.1 ho
    rw [TO.bel_all]
    exact TO.ren_all hidx (List.all_eq_true.1 c4 x (List.mem_of_getElem? hx))
  · show s.hin ≤ (os.map (TO.ren fun i => idxN i ids)).length
    rw [hlen]
    rcases Nat.eq_zero_or_pos s.hin with h0 | h0
    · omega
    · have := (List.getElem?_eq_some_iff.1 (hpre (s.hin - 1) (by omega))).1
      omega
  · show rlen (os.map (TO.ren fun i => idxN i ids)) i = _
    obtain ⟨x, hx, hx2⟩ := hoget i i (hpre i hi)
    unfold rlen
    rw [nth_eq, List.getElem?_map, hx, hx2]
    exact TO.ren_rlen _ x
  · show allL (fun i => decide (i < (os.map (TO.ren fun i => idxN i ids)).length)) _ = true
    rw [hlen]
    exact tenL_all hidx c3
theorem evNorm_keeps {U : Univ} {X : Cx} {mask : Nat} {s s1 : TS X.U} (hn : evNorm mask s = some s1) : Keeps s s1 := by
  unfold evNorm at hn
  split at hn <;> try (cases hn; done)
  rename_i s2 xs2 hs2
  cases hn
  exact (norm_keeps hs2).1
theorem evReg_keeps (hX : CxOk P X) (hE : ∀ f S, E f = some S → SpecOk P f S) {ops : Array Oper} {dr : Bool} {s : TS X.U} (hw : Wf s) {k : TS X.U → Option R} (h : evReg X E ops dr s k = some r) : ∃ s', k s' = some r ∧ Keeps s s' := by
  obtain ⟨σ, hM⟩ := hw.m
  unfold evReg at h
  obtain ⟨l, s', σ', hc, hM', hk, e1, e2, e3⟩ := evOps_ok hX hE (i := 0) h hM
  have hK : Keeps s s' := ⟨hM'.wf (by have := hw.hin; omega), e1, fun i hi => e3 i (Nat.lt_of_lt_of_le hi hw.hin)⟩
  cases dr with
  | false => exact ⟨s', hk, hK⟩
  | true =>
    dsimp only at hk
    split at hk <;> try (cases hk; done)
    exact ⟨s', hk, hK⟩
theorem refineS_keeps {U : Univ} {s : TS U} (hw : Wf s) (c : Operand) (b : Bool) : Keeps s (refineS s c b) := by
  cases c with
  | tmp t =>
    refine ⟨⟨fun i => ?_, hw.obb, hw.hin⟩, rfl, fun _ _ => rfl⟩
    show (getN (setN s.slots t (.v (.bool b))) i).bel _ = true
    rw [getN_set]
    split
    · rfl
    · exact hw.sb i
  | _ => exact .refl hw
theorem evC_keeps (hX : CxOk P X) (hE : ∀ f S, E f = some S → SpecOk P f S) {an : Ann} {lp : Lp X.U} : ∀ {c : Code} {R : Type} {r : R} {b : Nat} {s : TS X.U} {K : Exit → TS X.U → Option R}, LpOk X E an lp (loops c b) → Wf s → evC X E an lp c b s K = some r → ∃ ex s', K ex s' = some r ∧ Keeps s s' := by
  intro c
  induction c with
  | skip => intro R r b s K hL hw h; exact ⟨_, _, h, .refl hw⟩
  | exit id => intro R r b s K hL hw h; exact ⟨_, _, h, .refl hw⟩
  | ret => intro R r b s K hL hw h; exact ⟨_, _, h, .refl hw⟩
  | region id ops dr =>
    intro R r b s K hL hw h
    have hf := frzs_keeps (fzIds s (an.fz id)) hw
    obtain ⟨s', hk, hK⟩ := evReg_keeps hX hE hf.1 h
    refine ⟨_, _, hk, (hf.trans hK).trans ?_⟩
    unfold cutS
    split
    · exact .refl hK.1
    · split
      · rename_i hn; exact evNorm_keeps (U := X.U) hn
      · exact .refl hK.1
  | seq x y ihx ihy =>
    intro R r b s K hL hw h
    obtain ⟨ex, s', hk, hK⟩ := ihx (hL.mono fun q hq => List.mem_append_left _ hq) hw h
    cases ex with
    | normal =>
      obtain ⟨ex2, s2, hk2, hK2⟩ := ihy (hL.mono fun q hq => List.mem_append_right _ hq) hK.1 hk
      exact ⟨ex2, s2, hk2, hK.trans hK2⟩
    | _ => exact ⟨_, s', hk, hK⟩
  | cond c x y ihx ihy =>
    intro R r b s K hL hw h
    unfold evC at h
    split at h <;> try (cases h; done)
    rename_i p hc
    cases p with
    | true =>
      obtain ⟨ex, s', hk, hK⟩ := ihx (hL.mono fun q hq => List.mem_append_left _ hq) (refineS_keeps hw c true).1 h
      exact ⟨ex, s', hk, (refineS_keeps hw c true).trans hK⟩
    | false =>
      obtain ⟨ex, s', hk, hK⟩ := ihy (hL.mono fun q hq => List.mem_append_right _ hq) (refineS_keeps hw c false).1 h
      exact ⟨ex, s', hk, (refineS_keeps hw c false).trans hK⟩
  | block id x ih =>
    intro R r b s K hL hw h
    obtain ⟨ex, s', hk, hK⟩ := ih hL hw h
    cases ex with
    | exit i =>
      dsimp only at hk
      split at hk
      · exact ⟨_, s', hk, hK⟩
      · exact ⟨_, s', hk, hK⟩
    | _ => exact ⟨_, s', hk, hK⟩
  | loop x ih =>
    intro R r b s K hL hw h
    unfold evC at h
    split at h <;> try (cases h; done)
    rename_i s1 hs1
    obtain ⟨ex0, s0, hk, hpk⟩ := hL.2 _ _ _ _ _ h
    obtain ⟨p, hpe⟩ : ∃ p : Exit × TS X.U, p = (ex0, s0) := ⟨_, rfl⟩
    obtain ⟨N, hN⟩ := hL.1 (b, x) List.mem_cons_self s1 p (by rw [hpk, hpe])
    have hk : K p.1 p.2 = some r := by rw [hpe]; exact hk
    have key : ∀ (n : Nat) (s1 : TS X.U), Wf s1 → loopR (an.live b) (an.out b) (fun s K => evC X E an lp x b s K) n s1 = some p → Keeps s1 p.2 := by
      intro n
      induction n with
      | zero => intro s1 _ h; cases h
      | succ n ihn =>
        intro s1 hw1 h
        obtain ⟨ex, s', hk, hK⟩ := ih (hL.mono fun q hq => List.mem_cons_of_mem _ hq) hw1 h
        cases ex with
        | normal =>
          dsimp only at hk
          split at hk <;> try (cases hk; done)
          rename_i s2 hs2
          have hn := evNorm_keeps (U := X.U) hs2
          exact (hK.trans hn).trans (ihn s2 hn.1 hk)
        | _ =>
          dsimp only at hk
          split at hk <;> try (cases hk; done)
          rename_i s2 hs2
          cases hk
          exact hK.trans (evNorm_keeps (U := X.U) hs2)
    have hn := evNorm_keeps (U := X.U) hs1
    exact ⟨_, _, hk, hn.trans (key N s1 hn.1 hN)⟩
  | _ => intro R r b s K hL hw h; cases h
theorem evFin_keeps {an : Ann} {rs : List ResultVar} {s : TS X.U} (hw : Wf s) {o : List (TO X.U)} {v : TV X.U} (h : evFin X an rs s (fun o v => some (o, v)) = some (o, v)) : s.hin ≤ o.length ∧ (∀ i, i < s.hin → rlen o i = rlen s.objs i) ∧ v.bel o.length = true ∧ (o.all fun x => x.bel o.length) = true := by
  unfold evFin at h
  split at h <;> try (cases h; done)
  rename_i vs hvs
  dsimp only at h
  split at h <;> try (cases h; done)
  rename_i vs2 hvs2
  split at h <;> try (cases h; done)
  rename_i s3 tv hn
  cases h
  have h1 : Keeps s (match an.own with | true => s | false => frzs s (reach s.objs 1000 (idsL vs) [])) := by
    cases an.own
    · exact frzs_keeps _ hw
    · exact .refl hw
  obtain ⟨h2, h3⟩ := norm_keeps hn
  have h4 := h1.trans h2
  have h3 : (v.all (fun i => decide (i < s3.objs.length)) && true) = true := h3
  rw [Bool.and_true] at h3
  refine ⟨by rw [← h4.2.1]; exact h4.1.hin, h4.2.2, h3, List.all_eq_true.2 fun x hx => ?_⟩
  obtain ⟨i, hi⟩ := List.mem_iff_getElem?.1 hx
  exact h4.1.obb i x (by rw [nth_eq]; exact hi)
theorem init_m (hX : CxOk P X) {objs : List (TO X.U)} {args : List (TV X.U)} {n : Nat} (hab : belL objs.length args = true) (hob : (objs.all fun x => x.bel objs.length) = true) (hal : objs.all TO.alive = true) :
    M ⟨args ++ List.replicate n .junk, objs, objs.length⟩ (StH (objs.map (TO.ob (rlen objs))) (itpL (rlen objs) args)) := by
  refine ⟨fun t ht => ?_, fun id o ho => ?_, fun id hid => ?_, fun t => ?_, fun id o ho => ?_⟩
  · have ht : getN (args ++ List.replicate n .junk) t ≠ .junk := ht
    show (itpL (rlen objs) args).getD t (.v undef) = (getN (args ++ List.replicate n .junk) t).itp (rlen objs)
    rw [getN_app] at ht ⊢
    by_cases h : t < args.length
    · rw [if_pos h]
      rw [List.getD_eq_getElem?_getD, itpL_get]
      unfold getN
      rw [nth_eq, List.getElem?_eq_getElem h]
      rfl
    · rw [if_neg h] at ht
      exact absurd rfl ht
  · show (match (objs.map (TO.ob (rlen objs)))[id]? with | some o => OS.ob o | none => .never) = _
    have ho : nth objs id = some o := ho
    rw [nth_eq] at ho
    rw [List.getElem?_map, ho]
    exact (TO.itp_ob (List.all_eq_true.1 hal o (List.mem_of_getElem? ho))).symm
  · show (match (objs.map (TO.ob (rlen objs)))[id]? with | some o => OS.ob o | none => .never) = _
    have hid : objs.length ≤ id := hid
    rw [List.getElem?_eq_none (by rw [List.length_map]; exact hid)]
  · show (getN (args ++ List.replicate n .junk) t).bel objs.length = true
    rw [getN_app]
    split
    · unfold getN
      rw [nth_eq]
      cases hq : args[t]? with
      | none => rfl
      | some x =>
        rw [belL_all] at hab
        exact List.all_eq_true.1 hab x (List.mem_of_getElem? hq)
    · rfl
  · have ho : nth objs id = some o := ho
    rw [nth_eq] at ho
    exact List.all_eq_true.1 hob o (List.mem_of_getElem? ho)
theorem init_r {objs : List Ob} {args : List SV} {fn : Func} {g : Gh} {w : World} {vs : List Value} (hp : HPre objs g w) (hrep : RepL g w.heap vs args) (hn : args.length ≤ fn.ntmps) :
    Rel ⟨w, HWr objs g, g.F, fn.ntmps, g⟩ g (StH objs args) { tmps := vs.toArray ++ Array.replicate (fn.ntmps - vs.toArray.size) undef, defers := [] } w := by
  have hvl := hrep.length
  have hob : ∀ i o, (StH objs args).obj i = .ob o → objs[i]? = some o := fun i o ho => by
    have ho : (match objs[i]? with | some o => OS.ob o | none => .never) = .ob o := ho
    cases hi : objs[i]? with
    | none => rw [hi] at ho; cases ho
    | some p => rw [hi] at ho; cases ho; rfl
  refine { slot := fun t => ?_, size := by simp; omega, defers := rfl, never := fun i hi => hp.never i ?_, ob := fun i o ho => hp.ob i o (hob i o ho), inj := fun i j o o' b ho ho' => hp.inj i j o o' b (hob i o ho) (hob j o' ho'), own := fun i o b ho hz hb => .inr ⟨i, o, hob i o ho, hz, hb⟩, base := fun _ _ _ => rfl, hsize := Nat.le_refl _, F0 := fun _ h => h, Fold := fun _ h _ => .inl h, Flt := hp.Flt, os := rfl, tape := rfl, output := rfl, gext := fun _ _ h => ⟨h, rfl, rfl⟩, kept := fun b cs T fr h => ⟨cs, fr, h, rfl⟩, tb := hp.tb }
  · show Rep _ _ _ (args.getD t (.v undef))
    by_cases ht : t < args.length
    · obtain ⟨x, hx, hR⟩ := hrep.get t args[t] (List.getElem?_eq_getElem ht)
      have : (vs.toArray ++ Array.replicate (fn.ntmps - vs.toArray.size) undef).getD t undef = x := by
        rw [Array.getD_eq_getD_getElem?, Array.getElem?_append_left (by simp; omega)]
        simp [hx]
      rw [this, List.getD_eq_getElem?_getD, List.getElem?_eq_getElem ht]
      exact hR
    · have : (vs.toArray ++ Array.replicate (fn.ntmps - vs.toArray.size) undef).getD t undef = undef := by
        rw [Array.getD_eq_getD_getElem?, Array.getElem?_append_right (by simp; omega), Array.getElem?_replicate]
        split <;> rfl
      rw [this, List.getD_eq_getElem?_getD, List.getElem?_eq_none (by omega)]
      exact .v _
  · have hi : (match objs[i]? with | some o => OS.ob o | none => .never) = .never := hi
    cases hq : objs[i]? with
    | none => exact List.getElem?_eq_none_iff.1 hq
    | some p => rw [hq] at hi; cases hi
theorem rep_tup {g : Gh} {H : Array Go.Obj} {rl : Nat → Nat} {vs : List Value} {tvs : List (TV X.U)} (h : RepL g H vs (itpL rl tvs)) : Rep g H (tupV vs) ((tupT tvs).itp rl) := by
  have key : ∀ (vs : List Value) (tvs : List (TV X.U)), RepL g H vs (itpL rl tvs) → vs.length ≠ 1 → tupV vs = .tuple vs.toArray ∧ tupT tvs = .tup tvs := fun vs tvs h hn => by
    have hl := h.length
    rw [itpL_len] at hl
    match vs, tvs, hl, hn with
    | [], [], _, _ => exact ⟨rfl, rfl⟩
    | _ :: _ :: _, _ :: _ :: _, _, _ => exact ⟨rfl, rfl⟩
  by_cases hn : vs.length = 1
  · have hl := h.length
    rw [itpL_len] at hl
    match vs, tvs, hl, hn, h with
    | [v], [tv], _, _, h =>
      have h : RepL g H [v] (tv.itp rl :: []) := h
      cases h with
      | cons h t => exact h
  · obtain ⟨e1, e2⟩ := key vs tvs h hn
    rw [e1, e2]
    exact .tup (by simpa using h)
theorem nz_eq {U : Univ} {o l : List (TO U)} (h : l.length ≤ o.length) : nz o l = o := by
  cases o with
  | nil => exact List.eq_nil_of_length_eq_zero (Nat.le_zero.1 h)
  | cons x r => rfl
theorem SpecOk.mk0 {P : Program} {U : Univ} {fid : FuncId} {S : Spc U} (fn : ∃ fn, P.funcs[fid]? = some fn ∧ (fn.name == "runtime.NumGoroutine") = false ∧ fn.body.isSome = true) (path : ∀ objs args, PathF fun k => S.F objs args k)
    (ok : ∀ (objs : List (TO U)) (args : List (TV U)) (objs' : List (TO U)) (res : TV U), S.F objs args (fun o v => some (o, v)) = some (objs', res) → belL objs.length args = true → (objs.all fun x => x.bel objs.length) = true → objs.all TO.alive = true →
    HCall P fid (objs.map (TO.ob (rlen objs))) (itpL (rlen objs) args) (objs'.map (TO.itp (rlen objs'))) (res.itp (rlen objs')) ∧ objs.length ≤ objs'.length ∧ (∀ i, i < objs.length → rlen objs' i = rlen objs i) ∧ res.bel objs'.length = true ∧
      (objs'.all fun x => x.bel objs'.length) = true) : SpecOk P fid S :=
  ⟨fn, path, fun objs args objs' res h h1 h2 h3 => by
    have hk := ok objs args objs' res h h1 h2 h3
    rw [nz_eq hk.2.1]
    exact hk⟩
/-- A function that leaves all as it was: so it is told. -/
def Spc.ro {U : Univ} (S : Spc U) : Spc U := ⟨fun objs args k => S.F objs args fun _ v => k [] v⟩
theorem SpecOk.ro {P : Program} {U : Univ} {fid : FuncId} {S : Spc U} (h : SpecOk P fid S) (hr : ∀ objs args o v, S.F objs args (fun o v => some (o, v)) = some (o, v) → o = objs) : SpecOk P fid S.ro := by
  refine ⟨h.fn, fun objs args => ?_, fun objs args objs' res hs hb ho ha => ?_⟩
  · intro R k r hk
    obtain ⟨o, v, h1, h2⟩ := h.path objs args _ _ hk
    exact ⟨[], v, h1, fun k' => h2 _⟩
  · obtain ⟨o, v, h1, h2⟩ := h.path objs args _ _ hs
    cases h1
    have hS := h2 (fun o v => some (o, v))
    obtain rfl := hr objs args o res hS
    have := h.ok o args o res hS hb ho ha
    have e : nz o o = o := nz_eq (Nat.le_refl _)
    rw [e] at this
    exact this
/-- WHAT IS WALKED IS SO. -/
theorem specFn_ok (hX : CxOk P X) (hm : P.follows .mixedOrders = true) (hE : ∀ f S, E f = some S → SpecOk P f S) (an : Ann) (lp : Lp X.U) {fid : FuncId} {fn : Func} (hf : P.funcs[fid]? = some fn) (hname : (fn.name == "runtime.NumGoroutine") = false) (hcode : (match fn.body with | some c => codeOk fn.ntmps c | none => false) = true)
    (hL : ∀ c, fn.body = some c → LpOk X E an lp (loops c 0)) : SpecOk P fid (specFn X E an lp fn) := by
  refine SpecOk.mk0 ⟨fn, hf, hname, ?_⟩ (fun objs args => ?_) fun objs args objs' res h hab hob hal => ?_
  · cases hb : fn.body with
    | none => rw [hb] at hcode; cases hcode
    | some c => rfl
  · cases hb : fn.body with
    | none => rw [hb] at hcode; cases hcode
    | some c => exact evFn_path hE (hL c hb).2
  · have h : evFn X E an lp fn objs args (fun o v => some (o, v)) = some (objs', res) := h
    unfold evFn at h
    split at h <;> try (cases h; done)
    rename_i c hc hle
    rw [hc] at hcode
    have hM := init_m hX (n := fn.ntmps - args.length) hab hob hal
    obtain ⟨ex, s', hk, hK⟩ := evC_keeps hX hE (hL c hc) (hM.wf (Nat.le_refl _)) h
    have hstat : objs.length ≤ objs'.length ∧ (∀ i, i < objs.length → rlen objs' i = rlen objs i) ∧ res.bel objs'.length = true ∧ (objs'.all fun x => x.bel objs'.length) = true := by
      have key : evFin X an fn.results.toList s' (fun o v => some (o, v)) = some (objs', res) → _ := fun hk => by
        obtain ⟨q1, q2, q3, q4⟩ := evFin_keeps hK.1 hk
        rw [hK.2.1] at q1 q2
        exact (⟨q1, fun i hi => (q2 i hi).trans (hK.2.2 i hi), q3, q4⟩ : objs.length ≤ objs'.length ∧ (∀ i, i < objs.length → rlen objs' i = rlen objs i) ∧ res.bel objs'.length = true ∧ (objs'.all fun x => x.bel objs'.length) = true)
      cases ex with
      | ret => exact key hk
      | normal => exact key hk
      | _ => cases hk
    refine ⟨fun g w vs hp hrep => ?_, hstat⟩
    refine calls_of_wp hf hc ?_
    have hn : (itpL (rlen objs) args).length ≤ fn.ntmps := by rw [itpL_len]; exact Nat.le_of_ble_eq_true hle
    have hR := init_r hp hrep hn
    refine wp_mono (evC_ok hX hm hE (hL c hc) h hcode (f := ⟨w, HWr (objs.map (TO.ob (rlen objs))) g, g.F, fn.ntmps, g⟩) ⟨⟨_, hM, g, hR⟩, Nat.le_refl _, fun id b hb => ?_⟩ (Q := fun ex a' w' => (ex = .ret ∨ ex = .normal) ∧ ∃ s', TR ⟨w, HWr (objs.map (TO.ob (rlen objs))) g, g.F, fn.ntmps, g⟩ s' a' w' ∧ evFin X an fn.results.toList s' (fun o v => some (o, v)) = some (objs', res)) fun ex s' a' w' hk hT => ?_) fun ex a' w' ⟨hex, s', hT, hk⟩ => ?_
    · rcases Nat.lt_or_ge id objs.length with h1 | h1
      · exact h1
      · have h2 : g.β id = some b := hb
        rw [hp.never id (by rw [List.length_map]; exact h1)] at h2
        cases h2
    · cases ex with
      | ret => exact ⟨.inl rfl, s', hT, hk⟩
      | normal => exact ⟨.inr rfl, s', hT, hk⟩
      | _ => cases hk
    · unfold evFin at hk
      split at hk <;> try (cases hk; done)
      rename_i tvs htvs
      dsimp only at hk
      split at hk <;> try (cases hk; done)
      rename_i tvs2 htvs2
      split at hk <;> try (cases hk; done)
      rename_i s3 tv hn3
      cases hk
      have hT2 : TR ⟨w, HWr (objs.map (TO.ob (rlen objs))) g, g.F, fn.ntmps, g⟩ (match an.own with | true => s' | false => frzs s' (reach s'.objs 1000 (idsL tvs) [])) a' w' := by
        cases an.own
        · exact frzs_ok hX _ hT
        · exact hT
      generalize (match an.own with | true => s' | false => frzs s' (reach s'.objs 1000 (idsL tvs) [])) = s2 at *
      obtain ⟨⟨σ2, hM2, g2, hR2⟩, hin2, hg2⟩ := hT2
      obtain ⟨vs2, k1, k2, k3⟩ := evRVs_ok hX hM2 hR2 htvs2
      obtain ⟨g3, σ3, hR3, hM3, e1, e2, e3, e4⟩ := norm_ok hX.closed hn3 hM2 hR2 hin2 hg2
      obtain ⟨tv1, h1, h2⟩ := e4 0 _ _ rfl (rep_tup k3)
      cases h1
      have hobs : ∀ i o, (s3.objs.map (TO.itp (rlen s3.objs)))[i]? = some (OS.ob o) → σ3.obj i = .ob o := fun i o ho => by
        rw [List.getElem?_map] at ho
        obtain ⟨x, hx, e⟩ := Option.map_eq_some_iff.1 ho
        rw [hM3.ob i x (by rw [nth_eq]; exact hx), e]
      have hpost : HPost (objs.map (TO.ob (rlen objs))) (s3.objs.map (TO.itp (rlen s3.objs))) g g3 w w' :=
        { ob := fun i o ho => hR3.ob i o (hobs i o ho), inj := fun i j o o' b ho ho' => hR3.inj i j o o' b (hobs i o ho) (hobs j o' ho'), own := fun i o b ho => hR3.own i o b (hobs i o ho), base := hR3.base, hsize := hR3.hsize, F0 := hR3.F0, Fold := hR3.Fold, Flt := hR3.Flt, os := hR3.os, tape := hR3.tape, output := hR3.output, gext := hR3.gext, kept := hR3.kept }
      have hfin : a'.defers = [] ∧ ∃ v, (results fn a'.tmps).run P w' = .ok v w' ∧ ∃ v_1 g', Ending.returned v = .returned v_1 ∧ Rep g' w'.heap v_1 (res.itp (rlen s3.objs)) ∧ HPost (objs.map (TO.ob (rlen objs))) (s3.objs.map (TO.itp (rlen s3.objs))) g g' w w' :=
        ⟨hR3.defers, _, run_results k1 k2, _, g3, rfl, h2, hpost⟩
      rcases hex with rfl | rfl
      · exact hfin
      · exact hfin
end
end Go.Proofs.YtmcflglkfgnbbaaDoor.Eng

/- Told states, told briefly. -/
namespace Go.Proofs.YtmcflglkfgnbbaaDoor.Eng
open Go Go.RowKit
set_option linter.unusedVariables false
set_option linter.unusedSimpArgs false
section
variable {U : Univ}
def unsp : Nat → Nat → List (Nat × TV U) → List (TV U)
  | _, 0, _ => []
  | k, n + 1, [] => .junk :: unsp (k + 1) n []
  | k, n + 1, (i, x) :: r => match Nat.beq i k with
    | true => x :: unsp (k + 1) n r
    | false => .junk :: unsp (k + 1) n ((i, x) :: r)
/-- A state by the slots of which something is told. -/
def mkS (n : Nat) (l : List (Nat × TV U)) (objs : List (TO U)) (hin : Nat) : TS U := ⟨unsp 0 n l, objs, hin⟩
def nonJ : Nat → List (TV U) → List (Nat × TV U)
  | _, [] => []
  | k, x :: l => match x.isJunk with
    | true => nonJ (k + 1) l
    | false => (k, x) :: nonJ (k + 1) l
theorem nonJ_ge : ∀ (k : Nat) (l : List (TV U)), ∀ p ∈ nonJ k l, k ≤ p.1
  | k, [], p, h => by cases h
  | k, x :: l, p, h => by
    have ih := nonJ_ge (k + 1) l p
    unfold nonJ at h
    split at h
    · have := ih h
      omega
    · rcases List.mem_cons.1 h with rfl | h
      · exact Nat.le_refl _
      · have := ih h
        omega
theorem junk_of {x : TV U} (h : x.isJunk = true) : x = .junk := by cases x <;> first | rfl | cases h
theorem unsp_nonJ : ∀ (l : List (TV U)) (k : Nat), unsp k l.length (nonJ k l) = l
  | [], k => rfl
  | x :: l, k => by
    have ih := unsp_nonJ l (k + 1)
    have hg := nonJ_ge (k + 1) l
    rw [List.length_cons]
    unfold nonJ
    split
    · rename_i e
      obtain rfl := junk_of e
      cases hq : nonJ (k + 1) l with
      | nil =>
        rw [hq] at ih
        show TV.junk :: unsp (k + 1) l.length [] = _
        rw [ih]
      | cons p r =>
        obtain ⟨i, y⟩ := p
        have h1 : k + 1 ≤ i := hg (i, y) (by rw [hq]; exact List.mem_cons_self)
        have hb : Nat.beq i k = false := by
          cases hb : Nat.beq i k with
          | false => rfl
          | true => have := Nat.eq_of_beq_eq_true hb; omega
        rw [hq] at ih
        unfold unsp
        rw [hb]
        dsimp only
        rw [ih]
    · unfold unsp
      rw [Nat.beq_refl]
      dsimp only
      rw [ih]
/-- The slots of which something is told, if it is just these. -/
def told (s : TS U) (n : Nat) (ix : List Nat) (hin : Nat) : Option (List (TV U)) :=
  match Nat.beq s.slots.length n && eqN ((nonJ 0 s.slots).map (·.1)) ix && Nat.beq s.hin hin with
  | true => some ((nonJ 0 s.slots).map (·.2))
  | false => none
theorem told_ok {s : TS U} {n : Nat} {ix : List Nat} {hin : Nat} {vs : List (TV U)} (h : told s n ix hin = some vs) : s = mkS n (ix.zip vs) s.objs hin := by
  unfold told at h
  split at h <;> try (cases h; done)
  rename_i hc
  cases h
  simp only [Bool.and_eq_true] at hc
  obtain ⟨⟨h1, h2⟩, h3⟩ := hc
  have e1 := Nat.eq_of_beq_eq_true h1
  have e2 := eqN_ok h2
  have e3 := Nat.eq_of_beq_eq_true h3
  have hz : ∀ l : List (Nat × TV U), (l.map (·.1)).zip (l.map (·.2)) = l := by
    intro l
    induction l with
    | nil => rfl
    | cons p l ih => rw [List.map_cons, List.map_cons, List.zip_cons_cons, ih]
  subst e1 e3
  rw [← e2, hz]
  unfold mkS
  rw [unsp_nonJ]
/-- The body of the loop of a block. -/
def loopAt (fn : Func) (b : Nat) : Code := match fn.body with
  | none => .skip
  | some c => ((loops c 0).find? fun q => Nat.beq q.1 b).elim .skip (·.2)
end
/-- The rounds of a function's loop. -/
def fnLoop (X : Cx) (E : FuncId → Option (Spc X.U)) (an : Ann) (lp : Lp X.U) (fn : Func) (b n : Nat) (s : TS X.U) : Option (Exit × TS X.U) :=
  loopR (an.live b) (an.out b) (fun s K => evC X E an lp (loopAt fn b) b s K) n s
/-- What is told of loops, block by block. -/
theorem LpOk.of {X : Cx} {E : FuncId → Option (Spc X.U)} {an : Ann} {lp : Lp X.U} {fn : Func} {c : Code} (hc : fn.body = some c) (hnd : nodupN ((loops c 0).map (·.1)) = true)
    (h : ∀ b s p, memN b ((loops c 0).map (·.1)) = true → lp.F b s (fun ex s' => some (ex, s')) = some p → ∃ n, fnLoop X E an lp fn b n s = some p)
    (hP : ∀ (b : Nat) (s : TS X.U) (R : Type) (K : Exit → TS X.U → Option R) (r : R), lp.F b s K = some r → ∃ ex s', K ex s' = some r ∧ ∀ {R' : Type} (K' : Exit → TS X.U → Option R'), lp.F b s K' = K' ex s') : LpOk X E an lp (loops c 0) := by
  refine ⟨fun q hq s p hs => ?_, hP⟩
  obtain ⟨n, hn⟩ := h q.1 s p (memN_iff.2 (List.mem_map.2 ⟨q, hq, rfl⟩)) hs
  refine ⟨n, ?_⟩
  have hl : loopAt fn q.1 = q.2 := by
    unfold loopAt
    rw [hc]
    dsimp only
    have key : ∀ l : List (Nat × Code), nodupN (l.map (·.1)) = true → q ∈ l → l.find? (fun p => Nat.beq p.1 q.1) = some q := by
      intro l
      induction l with
      | nil => intro _ h; cases h
      | cons p l ih =>
        intro hnd hm
        have hnd : (!memN p.1 (l.map (·.1)) && nodupN (l.map (·.1))) = true := hnd
        rw [Bool.and_eq_true] at hnd
        rw [List.find?_cons]
        rcases List.mem_cons.1 hm with rfl | hm
        · rw [Nat.beq_refl]
        · have hne : Nat.beq p.1 q.1 = false := by
            cases hb : Nat.beq p.1 q.1 with
            | false => rfl
            | true =>
              have e := Nat.eq_of_beq_eq_true hb
              have : memN p.1 (l.map (·.1)) = true := memN_iff.2 (List.mem_map.2 ⟨q, hm, e.symm⟩)
              rw [this] at hnd
              cases hnd.1
          rw [hne]
          exact ih hnd.2 hm
    rw [key _ hnd hq]
    rfl
  unfold fnLoop at hn
  rw [hl] at hn
  exact hn
def lp0 {U : Univ} : Lp U := ⟨fun _ _ _ => none⟩
theorem lp0_ok {X : Cx} {E : FuncId → Option (Spc X.U)} {an : Ann} {fn : Func} (h : (match fn.body with | some c => (loops c 0).isEmpty | none => true) = true) : ∀ c, fn.body = some c → LpOk X E an lp0 (loops c 0) := fun c hc => by
  rw [hc] at h
  have : loops c 0 = [] := by simpa using h
  rw [this]
  exact ⟨fun q hq => (by cases hq), fun b s R K r h => (by cases h)⟩
theorem SpecOk.of_ev {P : Program} {U : Univ} {fid : FuncId} {S S0 : Spc U} (h0 : SpecOk P fid S0) (hp : ∀ objs args, PathF fun k => S.F objs args k) (h : ∀ objs args o v, S.F objs args (fun o v => some (o, v)) = some (o, v) → S0.F objs args (fun o v => some (o, v)) = some (o, v)) : SpecOk P fid S :=
  ⟨h0.fn, hp, fun objs args o v hs => h0.ok objs args o v (h _ _ _ _ hs)⟩
/-- What a function comes to, of what it takes: if `pre` holds, then it leaves `o` and hands back `v`. -/
def Spc.of {U : Univ} {A : Type} (d : List (TO U) → List (TV U) → Option A) (pre : A → Prop) [DecidablePred pre] (o : A → List (TO U)) (v : A → TV U) : Spc U := ⟨fun objs args k => match d objs args with
  | some x => if pre x then k (o x) (v x) else none
  | none => none⟩
theorem SpecOk.of {P : Program} {U : Univ} {fid : FuncId} {S0 : Spc U} (h0 : SpecOk P fid S0) {A : Type} {d : List (TO U) → List (TV U) → Option A} {pre : A → Prop} [DecidablePred pre] {o : A → List (TO U)} {v : A → TV U}
    (h : ∀ objs args x, d objs args = some x → pre x → S0.F objs args (fun o v => some (o, v)) = some (o x, v x)) : SpecOk P fid (Spc.of d pre o v) := by
  refine SpecOk.of_ev h0 (fun objs args => ?_) fun objs args o' v' h' => ?_
  · intro R k r h'
    unfold Spc.of at h' ⊢
    dsimp only at h' ⊢
    cases hd : d objs args with
    | none => rw [hd] at h'; cases h'
    | some x =>
      rw [hd] at h'
      dsimp only at h' ⊢
      split at h' <;> try (cases h'; done)
      rename_i hp
      exact ⟨_, _, h', fun k' => by rw [if_pos hp]⟩
  · unfold Spc.of at h'
    dsimp only at h'
    cases hd : d objs args with
    | none => rw [hd] at h'; cases h'
    | some x =>
      rw [hd] at h'
      dsimp only at h'
      split at h' <;> try (cases h'; done)
      rename_i hp
      cases h'
      exact h _ _ _ hd hp
/-- A function that was walked comes to what is told of it. -/
theorem fn_ok {P : Program} {X : Cx} (hX : CxOk P X) (hm : P.follows .mixedOrders = true) {E : FuncId → Option (Spc X.U)} (hE : ∀ f S, E f = some S → SpecOk P f S) (an : Ann) (lp : Lp X.U) {fid : FuncId} {fn : Func} (hf : P.funcs[fid]? = some fn) (hname : (fn.name == "runtime.NumGoroutine") = false) (hcode : (match fn.body with | some c => codeOk fn.ntmps c | none => false) = true)
    (hL : ∀ c, fn.body = some c → LpOk X E an lp (loops c 0)) {A : Type} {d : List (TO X.U) → List (TV X.U) → Option A} {pre : A → Prop} [DecidablePred pre] {o : A → List (TO X.U)} {v : A → TV X.U}
    (h : ∀ objs args x, d objs args = some x → pre x → evFn X E an lp fn objs args (fun o v => some (o, v)) = some (o x, v x)) : SpecOk P fid (Spc.of d pre o v) :=
  SpecOk.of (specFn_ok hX hm hE an lp hf hname hcode hL) h
/-- The same of loops: of a block's loop, told by `d`. -/
def lpOf {U : Univ} {A : Type} (d : TS U → Option A) (pre : A → Prop) [DecidablePred pre] (ex : A → Exit) (s' : A → TS U) {R : Type} (s : TS U) (K : Exit → TS U → Option R) : Option R := match d s with
  | some x => if pre x then K (ex x) (s' x) else none
  | none => none
end Go.Proofs.YtmcflglkfgnbbaaDoor.Eng

/- What loops come to. -/
namespace Go.Proofs.YtmcflglkfgnbbaaDoor.Eng
open Go Go.RowKit
set_option linter.unusedVariables false
set_option linter.unusedSimpArgs false
/-- What a loop comes to. -/
structure LC (U : Univ) where
  F : {R : Type} → TS U → (Exit → TS U → Option R) → Option R
  path : ∀ {R : Type} (s : TS U) (K : Exit → TS U → Option R) (r : R), F s K = some r → ∃ ex s', K ex s' = some r ∧ ∀ {R' : Type} (K' : Exit → TS U → Option R'), F s K' = K' ex s'
/-- One way out. -/
def LC.of {U : Univ} {A : Type} (d : TS U → Option A) (pre : A → Prop) [DecidablePred pre] (ex : Exit) (s' : A → TS U) : LC U := ⟨fun s K => match d s with
  | some x => if pre x then K ex (s' x) else none
  | none => none, fun s K r h => by
  split at h <;> try (cases h; done)
  rename_i x hx
  split at h <;> try (cases h; done)
  rename_i hp
  exact ⟨_, _, h, fun K' => if_pos hp⟩⟩
theorem LC.of_some {U : Univ} {A : Type} {d : TS U → Option A} {pre : A → Prop} [DecidablePred pre] {ex : Exit} {s' : A → TS U} {s : TS U} {p : Exit × TS U} (h : (LC.of d pre ex s').F s (fun e s => some (e, s)) = some p) : ∃ x, d s = some x ∧ pre x ∧ p = (ex, s' x) := by
  unfold LC.of at h
  dsimp only at h
  split at h <;> try (cases h; done)
  rename_i x hx
  split at h <;> try (cases h; done)
  rename_i hp
  cases h
  exact ⟨x, hx, hp, rfl⟩
/-- Two ways out. -/
def LC.of2 {U : Univ} {A : Type} (d : TS U → Option A) (pre : A → Prop) [DecidablePred pre] (c : A → Bool) (ex : Exit) (s' : A → TS U) (ex2 : Exit) (s2 : A → TS U) : LC U := ⟨fun s K => match d s with
  | some x => if pre x then cond (c x) (K ex (s' x)) (K ex2 (s2 x)) else none
  | none => none, fun s K r h => by
  split at h <;> try (cases h; done)
  rename_i x hx
  split at h <;> try (cases h; done)
  rename_i hp
  cases hc : c x with
  | true =>
    rw [hc] at h
    exact ⟨_, _, h, fun K' => by rw [if_pos hp]; rfl⟩
  | false =>
    rw [hc] at h
    exact ⟨_, _, h, fun K' => by rw [if_pos hp]; rfl⟩⟩
theorem LC.of2_some {U : Univ} {A : Type} {d : TS U → Option A} {pre : A → Prop} [DecidablePred pre] {c : A → Bool} {ex : Exit} {s' : A → TS U} {ex2 : Exit} {s2 : A → TS U} {s : TS U} {p : Exit × TS U} (h : (LC.of2 d pre c ex s' ex2 s2).F s (fun e s => some (e, s)) = some p) :
    ∃ x, d s = some x ∧ pre x ∧ p = cond (c x) (ex, s' x) (ex2, s2 x) := by
  unfold LC.of2 at h
  dsimp only at h
  split at h <;> try (cases h; done)
  rename_i x hx
  split at h <;> try (cases h; done)
  rename_i hp
  refine ⟨x, hx, hp, ?_⟩
  cases hc : c x <;> rw [hc] at h <;> (cases h; rfl)
def lpLF {U : Univ} : List (Nat × LC U) → {R : Type} → Nat → TS U → (Exit → TS U → Option R) → Option R
  | [], _, _, _, _ => none
  | (c, L) :: l, _, b, s, K => match Nat.beq b c with
    | true => L.F s K
    | false => lpLF l b s K
def lpL {U : Univ} (l : List (Nat × LC U)) : Lp U := ⟨lpLF l⟩
theorem lpLF_some {U : Univ} {l : List (Nat × LC U)} {R : Type} {b : Nat} {s : TS U} {K : Exit → TS U → Option R} {r : R} (h : lpLF l b s K = some r) :
    ∃ L, (b, L) ∈ l ∧ L.F s K = some r ∧ ∀ {R' : Type} (K' : Exit → TS U → Option R'), lpLF l b s K' = L.F s K' := by
  induction l with
  | nil => cases h
  | cons p l ih =>
    obtain ⟨c, L⟩ := p
    unfold lpLF at h
    split at h
    · rename_i hb
      obtain rfl := Nat.eq_of_beq_eq_true hb
      exact ⟨L, .head _, h, fun K' => by rw [lpLF, Nat.beq_refl]⟩
    · rename_i hb
      obtain ⟨L', hm, h1, h2⟩ := ih h
      exact ⟨L', .tail _ hm, h1, fun K' => by rw [lpLF, hb]; exact h2 K'⟩
theorem lpL_ok {X : Cx} {E : FuncId → Option (Spc X.U)} {an : Ann} {fn : Func} {l : List (Nat × LC X.U)}
    (hb : (match fn.body with | some c => nodupN ((loops c 0).map (·.1)) | none => true) = true)
    (h : ∀ b L, (b, L) ∈ l → ∀ s p, L.F s (fun e s => some (e, s)) = some p → ∃ n, fnLoop X E an (lpL l) fn b n s = some p) : ∀ c, fn.body = some c → LpOk X E an (lpL l) (loops c 0) := fun c hc => by
  rw [hc] at hb
  refine LpOk.of hc hb (fun b' s p hm hs => ?_) fun b' s R K r h' => ?_
  · obtain ⟨L, hL, h1, h2⟩ := lpLF_some hs
    exact h b' L hL s p h1
  · obtain ⟨L, hL, h1, h2⟩ := lpLF_some h'
    obtain ⟨ex, s', hk, hall⟩ := L.path s K r h1
    exact ⟨ex, s', hk, fun K' => by show lpLF l b' s K' = _; rw [h2]; exact hall K'⟩
end Go.Proofs.YtmcflglkfgnbbaaDoor.Eng

/- Pieces of code. -/
namespace Go.Proofs.YtmcflglkfgnbbaaDoor.Eng
open Go Go.RowKit
set_option linter.unusedVariables false
def sL : Code → Code
  | .seq x _ => x
  | c => c
def sR : Code → Code
  | .seq _ y => y
  | c => c
def bB : Code → Code
  | .block _ x => x
  | c => c
def cT : Code → Code
  | .cond _ x _ => x
  | c => c
def cF : Code → Code
  | .cond _ _ x => x
  | c => c
section
variable {P : Program} {X : Cx} {E : FuncId → Option (Spc X.U)} {an : Ann} {lp : Lp X.U} {R : Type}
theorem evC_seq {x y : Code} {b : Nat} {s : TS X.U} {K : Exit → TS X.U → Option R} : evC X E an lp (.seq x y) b s K = evC X E an lp x b s fun ex s' => match ex with
    | .normal => evC X E an lp y b s' K
    | e => K e s' := rfl
theorem evC_block {id b : Nat} {x : Code} {s : TS X.U} {K : Exit → TS X.U → Option R} : evC X E an lp (.block id x) b s K = evC X E an lp x id s fun ex s' => match ex with
    | .exit i => match Nat.beq i id with
      | true => K .normal s'
      | false => K (.exit i) s'
    | e => K e s' := rfl
theorem fnLoop_succ {fn : Func} {b n : Nat} {s : TS X.U} : fnLoop X E an lp fn b (n + 1) s = evC X E an lp (loopAt fn b) b s fun ex s' => match ex with
    | .normal => match evNorm (an.live b) s' with
      | some s1 => fnLoop X E an lp fn b n s1
      | none => none
    | e => match evNorm (an.out b) s' with
      | some s1 => some (e, s1)
      | none => none := rfl
end
end Go.Proofs.YtmcflglkfgnbbaaDoor.Eng

/- What a function comes to, for all sizes: functions that call themselves. -/
namespace Go.Proofs.YtmcflglkfgnbbaaDoor.Eng
open Go Go.RowKit
set_option linter.unusedVariables false
theorem Spc.of_path {U : Univ} {A : Type} {d : List (TO U) → List (TV U) → Option A} {pre : A → Prop} [DecidablePred pre] {o : A → List (TO U)} {v : A → TV U} (objs : List (TO U)) (args : List (TV U)) : PathF fun k => (Spc.of d pre o v).F objs args k := by
  intro R k r h'
  unfold Spc.of at h' ⊢
  dsimp only at h' ⊢
  cases hd : d objs args with
  | none => rw [hd] at h'; cases h'
  | some x =>
    rw [hd] at h'
    dsimp only at h' ⊢
    split at h' <;> try (cases h'; done)
    rename_i hp
    exact ⟨_, _, h', fun k' => by rw [if_pos hp]⟩
theorem Spc.of_some {U : Univ} {A : Type} {d : List (TO U) → List (TV U) → Option A} {pre : A → Prop} [DecidablePred pre] {o : A → List (TO U)} {v : A → TV U} {objs : List (TO U)} {args : List (TV U)} {p : List (TO U) × TV U} (h : (Spc.of d pre o v).F objs args (fun o v => some (o, v)) = some p) :
    ∃ x, d objs args = some x ∧ pre x ∧ p = (o x, v x) := by
  unfold Spc.of at h
  dsimp only at h
  split at h <;> try (cases h; done)
  rename_i x hx
  split at h <;> try (cases h; done)
  rename_i hp
  cases h
  exact ⟨x, hx, hp, rfl⟩
/-- If it holds below every size, then it holds. -/
theorem SpecOk.lim {P : Program} {U : Univ} {fid : FuncId} {A : Type} {d : List (TO U) → List (TV U) → Option A} {pre : A → Prop} [DecidablePred pre] {o : A → List (TO U)} {v : A → TV U} (μ : A → Nat)
    (h : ∀ n, SpecOk P fid (Spc.of d (fun x => pre x ∧ μ x < n) o v)) : SpecOk P fid (Spc.of d pre o v) := by
  refine ⟨(h 0).fn, Spc.of_path, fun objs args objs' res hs => ?_⟩
  obtain ⟨x, hx, hp, he⟩ := Spc.of_some hs
  cases he
  refine (h (μ x + 1)).ok objs args (o x) (v x) ?_
  unfold Spc.of
  dsimp only
  rw [hx]
  dsimp only
  rw [if_pos ⟨hp, Nat.lt_succ_self _⟩]
end Go.Proofs.YtmcflglkfgnbbaaDoor.Eng

/- What a function comes to, if there are two ends. -/
namespace Go.Proofs.YtmcflglkfgnbbaaDoor.Eng
open Go Go.RowKit
set_option linter.unusedVariables false
/-- Two ends. -/
def Spc.of2 {U : Univ} {A : Type} (d : List (TO U) → List (TV U) → Option A) (pre : A → Prop) [DecidablePred pre] (c : A → Bool) (o : A → List (TO U)) (v : A → TV U) (o2 : A → List (TO U)) (v2 : A → TV U) : Spc U := ⟨fun objs args k => match d objs args with
  | some x => if pre x then cond (c x) (k (o x) (v x)) (k (o2 x) (v2 x)) else none
  | none => none⟩
theorem Spc.of2_path {U : Univ} {A : Type} {d : List (TO U) → List (TV U) → Option A} {pre : A → Prop} [DecidablePred pre] {c : A → Bool} {o : A → List (TO U)} {v : A → TV U} {o2 : A → List (TO U)} {v2 : A → TV U} (objs : List (TO U)) (args : List (TV U)) : PathF fun k => (Spc.of2 d pre c o v o2 v2).F objs args k := by
  intro R k r h'
  unfold Spc.of2 at h' ⊢
  dsimp only at h' ⊢
  cases hd : d objs args with
  | none => rw [hd] at h'; cases h'
  | some x =>
    rw [hd] at h'
    dsimp only at h' ⊢
    split at h' <;> try (cases h'; done)
    rename_i hp
    cases hc : c x with
    | true =>
      rw [hc] at h'
      exact ⟨_, _, h', fun k' => by rw [if_pos hp]; rfl⟩
    | false =>
      rw [hc] at h'
      exact ⟨_, _, h', fun k' => by rw [if_pos hp]; rfl⟩
theorem Spc.of2_some {U : Univ} {A : Type} {d : List (TO U) → List (TV U) → Option A} {pre : A → Prop} [DecidablePred pre] {c : A → Bool} {o : A → List (TO U)} {v : A → TV U} {o2 : A → List (TO U)} {v2 : A → TV U} {objs : List (TO U)} {args : List (TV U)} {p : List (TO U) × TV U} (h : (Spc.of2 d pre c o v o2 v2).F objs args (fun o v => some (o, v)) = some p) :
    ∃ x, d objs args = some x ∧ pre x ∧ p = cond (c x) (o x, v x) (o2 x, v2 x) := by
  unfold Spc.of2 at h
  dsimp only at h
  split at h <;> try (cases h; done)
  rename_i x hx
  split at h <;> try (cases h; done)
  rename_i hp
  refine ⟨x, hx, hp, ?_⟩
  cases hc : c x <;> rw [hc] at h <;> (cases h; rfl)
theorem SpecOk.of2 {P : Program} {U : Univ} {fid : FuncId} {S0 : Spc U} (h0 : SpecOk P fid S0) {A : Type} {d : List (TO U) → List (TV U) → Option A} {pre : A → Prop} [DecidablePred pre] {c : A → Bool} {o : A → List (TO U)} {v : A → TV U} {o2 : A → List (TO U)} {v2 : A → TV U}
    (h : ∀ objs args x, d objs args = some x → pre x → S0.F objs args (fun o v => some (o, v)) = some (cond (c x) (o x, v x) (o2 x, v2 x))) : SpecOk P fid (Spc.of2 d pre c o v o2 v2) := by
  refine SpecOk.of_ev h0 Spc.of2_path fun objs args o' v' h' => ?_
  obtain ⟨x, hx, hp, he⟩ := Spc.of2_some h'
  rw [h _ _ _ hx hp, ← he]
theorem fn_ok2 {P : Program} {X : Cx} (hX : CxOk P X) (hm : P.follows .mixedOrders = true) {E : FuncId → Option (Spc X.U)} (hE : ∀ f S, E f = some S → SpecOk P f S) (an : Ann) (lp : Lp X.U) {fid : FuncId} {fn : Func} (hf : P.funcs[fid]? = some fn) (hname : (fn.name == "runtime.NumGoroutine") = false) (hcode : (match fn.body with | some c => codeOk fn.ntmps c | none => false) = true)
    (hL : ∀ c, fn.body = some c → LpOk X E an lp (loops c 0)) {A : Type} {d : List (TO X.U) → List (TV X.U) → Option A} {pre : A → Prop} [DecidablePred pre] {c : A → Bool} {o : A → List (TO X.U)} {v : A → TV X.U} {o2 : A → List (TO X.U)} {v2 : A → TV X.U}
    (h : ∀ objs args x, d objs args = some x → pre x → evFn X E an lp fn objs args (fun o v => some (o, v)) = some (cond (c x) (o x, v x) (o2 x, v2 x))) : SpecOk P fid (Spc.of2 d pre c o v o2 v2) :=
  SpecOk.of2 (specFn_ok hX hm hE an lp hf hname hcode hL) h
/-! ### Loops that are gone through so often -/
theorem evC_congr {X : Cx} {E : FuncId → Option (Spc X.U)} {an : Ann} {lp lp' : Lp X.U} {R : Type} : ∀ {c : Code} {b : Nat} {s : TS X.U} {K : Exit → TS X.U → Option R}, (∀ q ∈ loops c b, ∀ (s : TS X.U) (K : Exit → TS X.U → Option R), lp.F q.1 s K = lp'.F q.1 s K) → evC X E an lp c b s K = evC X E an lp' c b s K := by
  intro c
  induction c with
  | seq x y ihx ihy =>
    intro b s K h
    have h1 : ∀ q ∈ loops x b, ∀ (s : TS X.U) (K : Exit → TS X.U → Option R), lp.F q.1 s K = lp'.F q.1 s K := fun q hq => h q (List.mem_append_left _ hq)
    have h2 : ∀ q ∈ loops y b, ∀ (s : TS X.U) (K : Exit → TS X.U → Option R), lp.F q.1 s K = lp'.F q.1 s K := fun q hq => h q (List.mem_append_right _ hq)
    unfold evC
    rw [ihx h1]
    congr 1
    funext ex s'
    cases ex <;> first | rfl | exact ihy h2
  | cond c x y ihx ihy =>
    intro b s K h
    have h1 : ∀ q ∈ loops x b, ∀ (s : TS X.U) (K : Exit → TS X.U → Option R), lp.F q.1 s K = lp'.F q.1 s K := fun q hq => h q (List.mem_append_left _ hq)
    have h2 : ∀ q ∈ loops y b, ∀ (s : TS X.U) (K : Exit → TS X.U → Option R), lp.F q.1 s K = lp'.F q.1 s K := fun q hq => h q (List.mem_append_right _ hq)
    unfold evC
    split
    · rw [ihx h1, ihy h2]
    · rfl
  | block id x ih =>
    intro b s K h
    unfold evC
    rw [ih h]
  | loop x ih =>
    intro b s K h
    unfold evC
    split
    · exact h (b, x) (.head _) _ _
    · rfl
  | _ => intro b s K h; rfl
def loopK (X : Cx) (E : FuncId → Option (Spc X.U)) (an : Ann) (lp : Lp X.U) (b : Nat) (c : Code) {R : Type} : Nat → TS X.U → (Exit → TS X.U → Option R) → Option R
  | 0, _, _ => none
  | n + 1, s, K => evC X E an lp c b s fun ex s' => match ex with
    | .normal => match evNorm (an.live b) s' with
      | some s1 => loopK X E an lp b c n s1 K
      | none => none
    | e => match evNorm (an.out b) s' with
      | some s1 => K e s1
      | none => none
section
variable {P : Program} {X : Cx} {E : FuncId → Option (Spc X.U)}
theorem loopK_path (hE : ∀ f S, E f = some S → SpecOk P f S) {an : Ann} {lp : Lp X.U} (hP : ∀ (b : Nat) (s : TS X.U) (R : Type) (K : Exit → TS X.U → Option R) (r : R), lp.F b s K = some r → ∃ ex s', K ex s' = some r ∧ ∀ {R' : Type} (K' : Exit → TS X.U → Option R'), lp.F b s K' = K' ex s') {b : Nat} {c : Code} {R : Type} {r : R} : ∀ (n : Nat) (s : TS X.U) (K : Exit → TS X.U → Option R), loopK X E an lp b c n s K = some r →
    ∃ ex s', K ex s' = some r ∧ ∀ {R' : Type} (K' : Exit → TS X.U → Option R'), loopK X E an lp b c n s K' = K' ex s' := by
  intro n
  induction n with
  | zero => intro s K h; cases h
  | succ n ih =>
    intro s K h
    unfold loopK at h
    obtain ⟨ex, s', hk, hp⟩ := evC_path hE hP h
    cases ex with
    | normal =>
      dsimp only at hk
      cases hn : evNorm (an.live b) s' with
      | none => rw [hn] at hk; cases hk
      | some s1 =>
        rw [hn] at hk
        obtain ⟨ex2, s2, hk2, hp2⟩ := ih s1 K hk
        refine ⟨ex2, s2, hk2, fun K' => ?_⟩
        unfold loopK
        rw [hp]
        dsimp only
        rw [hn]
        exact hp2 K'
    | _ =>
      dsimp only at hk
      cases hn : evNorm (an.out b) s' with
      | none => rw [hn] at hk; cases hk
      | some s1 =>
        rw [hn] at hk
        refine ⟨_, s1, hk, fun K' => ?_⟩
        unfold loopK
        rw [hp]
        dsimp only
        rw [hn]
theorem loopK_R {an : Ann} {lp lp' : Lp X.U} {b : Nat} {c : Code} (hq : ∀ q ∈ loops c b, ∀ (s : TS X.U) (K : Exit → TS X.U → Option (Exit × TS X.U)), lp.F q.1 s K = lp'.F q.1 s K) : ∀ (n : Nat) (s : TS X.U), loopK X E an lp b c n s (fun e s => some (e, s)) = loopR (an.live b) (an.out b) (fun s K => evC X E an lp' c b s K) n s := by
  intro n
  induction n with
  | zero => intro s; rfl
  | succ n ih =>
    intro s
    unfold loopK loopR
    rw [evC_congr hq]
    congr 1
    funext ex s'
    cases ex <;> try rfl
    dsimp only
    cases evNorm (an.live b) s' with
    | none => rfl
    | some s1 => exact ih _
/-- A loop without others in it, that is gone through so often at most. -/
def LC.unr (hE : ∀ f S, E f = some S → SpecOk P f S) (an : Ann) (fn : Func) (b n : Nat) : LC X.U := ⟨fun s K => loopK X E an lp0 b (loopAt fn b) n s K, fun s K r h => loopK_path hE (fun b s R K r h => by cases h) n s K h⟩
theorem unr_ok {hE : ∀ f S, E f = some S → SpecOk P f S} {an : Ann} {fn : Func} {b n : Nat} {l : List (Nat × LC X.U)} (h0 : (loops (loopAt fn b) b).isEmpty = true) {s : TS X.U} {p : Exit × TS X.U} (hs : (LC.unr hE an fn b n).F s (fun e s => some (e, s)) = some p) : ∃ m, fnLoop X E an (lpL l) fn b m s = some p := by
  refine ⟨n, ?_⟩
  unfold fnLoop
  rw [← loopK_R (lp := lp0) (fun q hq => ?_)]
  · exact hs
  · have : loops (loopAt fn b) b = [] := by simpa using h0
    rw [this] at hq
    cases hq
end
end Go.Proofs.YtmcflglkfgnbbaaDoor.Eng

/- What is handed back, told with less: a row that is none as a list of nothing. -/
namespace Go.Proofs.YtmcflglkfgnbbaaDoor.Eng
open Go Go.RowKit
set_option linter.unusedVariables false
structure Lw (U : Univ) where
  f : TV U → TV U
  rep : ∀ (g : Gh) (H : Array Go.Obj) (x : Value) (rl : Nat → Nat) (v : TV U), Rep g H x (v.itp rl) → Rep g H x ((f v).itp rl)
  all : ∀ (p : Nat → Bool) (v : TV U), v.all p = true → (f v).all p = true
def Lw.no {U : Univ} : Lw U := ⟨fun v => v, fun _ _ _ _ _ h => h, fun _ _ h => h⟩
def Lw.l {U : Univ} (c : U.C) : Lw U := ⟨nilTo c, fun g H x rl v h => by
  unfold nilTo
  split
  · obtain rfl := rep_v h
    exact .nil
  · exact h, fun p v h => by
  unfold nilTo
  split
  · rfl
  · exact h⟩
def wkZ {U : Univ} : List (Lw U) → List (TV U) → List (TV U)
  | w :: ws, x :: l => w.f x :: wkZ ws l
  | _, l => l
theorem wkZ_rep {U : Univ} {g : Gh} {H : Array Go.Obj} {rl : Nat → Nat} : ∀ (ws : List (Lw U)) (l : List (TV U)) {vs : List Value}, RepL g H vs (itpL rl l) → RepL g H vs (itpL rl (wkZ ws l))
  | w :: ws, x :: l, _, h => by
    have h : RepL g H _ (x.itp rl :: itpL rl l) := h
    cases h with
    | cons h t => exact .cons (w.rep _ _ _ _ _ h) (wkZ_rep ws l t)
  | [], l, _, h => by
    show RepL g H _ (itpL rl (wkZ [] l))
    unfold wkZ
    exact h
  | _ :: _, [], _, h => h
theorem wkZ_all {U : Univ} {p : Nat → Bool} : ∀ (ws : List (Lw U)) (l : List (TV U)), allL p l = true → allL p (wkZ ws l) = true
  | w :: ws, x :: l, h => by
    have h : (x.all p && allL p l) = true := h
    rw [Bool.and_eq_true] at h
    show ((w.f x).all p && allL p (wkZ ws l)) = true
    rw [w.all p x h.1, wkZ_all ws l h.2]
    rfl
  | [], l, h => by
    show allL p (wkZ [] l) = true
    unfold wkZ
    exact h
  | _ :: _, [], h => h
def wkA {U : Univ} (ws : List (Lw U)) : TV U → TV U
  | .agg l => .agg (wkZ ws l)
  | .tup l => .tup (wkZ ws l)
  | x => x
def Lw.a {U : Univ} (ws : List (Lw U)) : Lw U := ⟨wkA ws, fun g H x rl v h => by
  unfold wkA
  split
  · rename_i l
    have h : Rep g H x (.agg (itpL rl l)) := h
    cases h with
    | agg h => exact .agg (wkZ_rep ws l h)
  · rename_i l
    have h : Rep g H x (.tup (itpL rl l)) := h
    cases h with
    | tup h => exact .tup (wkZ_rep ws l h)
  · exact h, fun p v h => by
  unfold wkA
  split
  · exact wkZ_all ws _ h
  · exact wkZ_all ws _ h
  · exact h⟩
def Spc.wk {U : Univ} (S : Spc U) (W : Lw U) : Spc U := ⟨fun objs args k => S.F objs args fun o v => k o (W.f v)⟩
theorem SpecOk.wk {P : Program} {U : Univ} {fid : FuncId} {S : Spc U} (h : SpecOk P fid S) (W : Lw U) : SpecOk P fid (S.wk W) := by
  refine ⟨h.fn, fun objs args => ?_, fun objs args objs' res hs hb ho ha => ?_⟩
  · intro R k r hk
    obtain ⟨o, v, h1, h2⟩ := h.path objs args _ _ hk
    exact ⟨o, W.f v, h1, fun k' => h2 _⟩
  · obtain ⟨o, v, h1, h2⟩ := h.path objs args _ _ hs
    cases h1
    obtain ⟨a, b, c, d, e⟩ := h.ok objs args objs' v (h2 _) hb ho ha
    refine ⟨fun g w vs hp hr => ?_, b, c, W.all _ _ d, e⟩
    refine (a g w vs hp hr).mono fun e w' hq => ?_
    obtain ⟨x, g', h3, h4, h5⟩ := hq
    exact ⟨x, g', h3, W.rep _ _ _ _ _ h4, h5⟩
section
variable {P : Program} {X : Cx}
theorem fn_okw (W : Lw X.U) (hX : CxOk P X) (hm : P.follows .mixedOrders = true) {E : FuncId → Option (Spc X.U)} (hE : ∀ f S, E f = some S → SpecOk P f S) (an : Ann) (lp : Lp X.U) {fid : FuncId} {fn : Func} (hf : P.funcs[fid]? = some fn) (hname : (fn.name == "runtime.NumGoroutine") = false) (hcode : (match fn.body with | some c => codeOk fn.ntmps c | none => false) = true)
    (hL : ∀ c, fn.body = some c → LpOk X E an lp (loops c 0)) {A : Type} {d : List (TO X.U) → List (TV X.U) → Option A} {pre : A → Prop} [DecidablePred pre] {o : A → List (TO X.U)} {v : A → TV X.U}
    (h : ∀ objs args x, d objs args = some x → pre x → evFn X E an lp fn objs args (fun o v => some (o, W.f v)) = some (o x, v x)) : SpecOk P fid (Spc.of d pre o v) :=
  SpecOk.of ((specFn_ok hX hm hE an lp hf hname hcode hL).wk W) h
theorem fn_ok2w (W : Lw X.U) (hX : CxOk P X) (hm : P.follows .mixedOrders = true) {E : FuncId → Option (Spc X.U)} (hE : ∀ f S, E f = some S → SpecOk P f S) (an : Ann) (lp : Lp X.U) {fid : FuncId} {fn : Func} (hf : P.funcs[fid]? = some fn) (hname : (fn.name == "runtime.NumGoroutine") = false) (hcode : (match fn.body with | some c => codeOk fn.ntmps c | none => false) = true)
    (hL : ∀ c, fn.body = some c → LpOk X E an lp (loops c 0)) {A : Type} {d : List (TO X.U) → List (TV X.U) → Option A} {pre : A → Prop} [DecidablePred pre] {c : A → Bool} {o : A → List (TO X.U)} {v : A → TV X.U} {o2 : A → List (TO X.U)} {v2 : A → TV X.U}
    (h : ∀ objs args x, d objs args = some x → pre x → evFn X E an lp fn objs args (fun o v => some (o, W.f v)) = some (cond (c x) (o x, v x) (o2 x, v2 x))) : SpecOk P fid (Spc.of2 d pre c o v o2 v2) :=
  SpecOk.of2 ((specFn_ok hX hm hE an lp hf hname hcode hL).wk W) h
end
/-- What is taken, told with less. -/
def Spc.wkA {U : Univ} (S : Spc U) (ws : List (Lw U)) : Spc U := ⟨fun objs args k => S.F objs (wkZ ws args) k⟩
theorem SpecOk.wkA {P : Program} {U : Univ} {fid : FuncId} {S : Spc U} (h : SpecOk P fid S) (ws : List (Lw U)) : SpecOk P fid (S.wkA ws) := by
  refine ⟨h.fn, fun objs args => h.path objs (wkZ ws args), fun objs args objs' res hs hb ho ha => ?_⟩
  obtain ⟨a, b, c, d, e⟩ := h.ok objs (wkZ ws args) objs' res hs (wkZ_all ws args hb) ho ha
  exact ⟨fun g w vs hp hr => a g w vs hp (wkZ_rep ws args hr), b, c, d, e⟩
end Go.Proofs.YtmcflglkfgnbbaaDoor.Eng

/- Loops and functions of which what is told afterwards hangs on whether rows are none. -/
namespace Go.Proofs.YtmcflglkfgnbbaaDoor.Eng
open Go Go.RowKit
set_option linter.unusedVariables false
def unc {α : Type} : List α → Option (α × List α)
  | [] => none
  | x :: l => some (x, l)
/-- Whether a row is none is looked at first. -/
def lsp {α R : Type} (g : List α) (k : List α → Option R) : Option R := cond g.isEmpty (k []) ((unc g).bind fun x => k (x.1 :: x.2))
theorem lsp_eq {α R : Type} (g : List α) (k : List α → Option R) : lsp g k = k g := by cases g <;> rfl
def LC.ofG {U : Univ} {A : Type} (d : TS U → Option A) (pre : A → Prop) [DecidablePred pre] (G : {R : Type} → A → (Exit → TS U → Option R) → Option R) (ex : A → Exit) (s' : A → TS U) (hG : ∀ {R : Type} (x : A) (K : Exit → TS U → Option R), G x K = K (ex x) (s' x)) : LC U := ⟨fun s K => match d s with
  | some x => if pre x then G x K else none
  | none => none, fun s K r h => by
  split at h <;> try (cases h; done)
  rename_i x hx
  split at h <;> try (cases h; done)
  rename_i hp
  rw [hG] at h
  exact ⟨_, _, h, fun K' => by rw [if_pos hp, hG]⟩⟩
theorem LC.ofG_some {U : Univ} {A : Type} {d : TS U → Option A} {pre : A → Prop} [DecidablePred pre] {G : {R : Type} → A → (Exit → TS U → Option R) → Option R} {ex : A → Exit} {s' : A → TS U} (hG : ∀ {R : Type} (x : A) (K : Exit → TS U → Option R), G x K = K (ex x) (s' x)) {s : TS U} {p : Exit × TS U} (h : (LC.ofG d pre G ex s' hG).F s (fun e s => some (e, s)) = some p) : ∃ x, d s = some x ∧ pre x ∧ p = (ex x, s' x) := by
  unfold LC.ofG at h
  dsimp only at h
  split at h <;> try (cases h; done)
  rename_i x hx
  split at h <;> try (cases h; done)
  rename_i hp
  rw [hG] at h
  cases h
  exact ⟨x, hx, hp, rfl⟩
/-- The first of two decoders that fits. -/
def orD {S A : Type} (d e : S → Option A) (s : S) : Option A := match d s with
  | some x => some x
  | none => e s
theorem orD_some {S A : Type} {d e : S → Option A} {s : S} {x : A} (h : orD d e s = some x) : d s = some x ∨ e s = some x := by
  unfold orD at h
  cases hd : d s with
  | some y => rw [hd] at h; exact .inl h
  | none => rw [hd] at h; exact .inr h
end Go.Proofs.YtmcflglkfgnbbaaDoor.Eng

/- Loops by a number that rises. -/
namespace Go.Proofs.YtmcflglkfgnbbaaDoor.Eng
open Go Go.RowKit
set_option linter.unusedVariables false
/-- From a number on, below another, a step each. -/
def ixL {σ : Type} (len : Int) (step : σ → Int → σ) : Nat → σ → Int → σ
  | 0, c, _ => c
  | N + 1, c, v => if v < len then ixL len step N (step c v) (v + 1) else c
theorem ixL_inv {σ : Type} {len : Int} {step : σ → Int → σ} {I : σ → Prop} (h : ∀ c v, I c → 0 ≤ v → v < len → I (step c v)) : ∀ (N : Nat) (c : σ) (v : Int), 0 ≤ v → I c → I (ixL len step N c v) := by
  intro N
  induction N with
  | zero => intro c v _ h0; exact h0
  | succ N ih =>
    intro c v hv h0
    rw [ixL]
    split
    · rename_i hl; exact ih _ _ (by omega) (h c v h0 hv hl)
    · exact h0
/-- With the number told. -/
theorem ixL_invV {σ : Type} {len : Int} {step : σ → Int → σ} {I : σ → Int → Prop} (h : ∀ c v, I c v → 0 ≤ v → v < len → I (step c v) (v + 1)) : ∀ (N : Nat) (c : σ) (v : Int), 0 ≤ v → v ≤ len → len ≤ v + N → I c v → I (ixL len step N c v) len := by
  intro N
  induction N with
  | zero =>
    intro c v hv h1 h2 h0
    have : v = len := by omega
    subst this
    exact h0
  | succ N ih =>
    intro c v hv h1 h2 h0
    rw [ixL]
    split
    · rename_i hl; exact ih _ _ (by omega) (by omega) (by omega) (h c v h0 hv hl)
    · have : v = len := by omega
      subst this
      exact h0
theorem ixL_rounds {σ T B : Type} {fnl : Nat → T → Option B} (S : σ → Int → T) (Z : σ → B) {len : Int} {step : σ → Int → σ} (I : σ → Int → Prop) (hin : ∀ c v N, I c v → 0 ≤ v → v < len → fnl (N + 1) (S c v) = fnl N (S (step c v) (v + 1)) ∧ I (step c v) (v + 1))
    (hout : ∀ c v N, I c v → 0 ≤ v → ¬ v < len → fnl (N + 1) (S c v) = some (Z c)) : ∀ (N : Nat) (c : σ) (v : Int), 0 ≤ v → len ≤ v + N → I c v → fnl (N + 1) (S c v) = some (Z (ixL len step (N + 1) c v)) := by
  intro N
  induction N with
  | zero =>
    intro c v h0 h1 hI
    rw [hout c v 0 hI h0 (by omega), ixL, if_neg (by omega)]
  | succ N ih =>
    intro c v h0 h1 hI
    rw [ixL]
    by_cases hv : v < len
    · obtain ⟨e, hI'⟩ := hin c v (N + 1) hI h0 hv
      rw [if_pos hv, e]
      exact ih _ _ (by omega) (by omega) hI'
    · rw [if_neg hv, hout c v (N + 1) hI h0 hv]
/-- A step for each of a list. -/
def stepI {α σ : Type} (l : List α) (f : σ → α → σ) (c : σ) (v : Int) : σ := match getI l v with
  | some z => f c z
  | none => c
theorem ixL_list {α σ : Type} (l : List α) (f : σ → α → σ) : ∀ (N : Nat) (c : σ) (v : Int), 0 ≤ v → (l.length : Int) ≤ v + N → ixL l.length (stepI l f) N c v = (l.drop v.toNat).foldl f c := by
  intro N
  induction N with
  | zero =>
    intro c v h0 h1
    rw [ixL, List.drop_eq_nil_of_le (by omega), List.foldl_nil]
  | succ N ih =>
    intro c v h0 h1
    rw [ixL]
    split
    · rename_i hv
      have hx : l[v.toNat]? = some l[v.toNat] := List.getElem?_eq_getElem (by omega)
      have hd : l.drop v.toNat = l[v.toNat] :: l.drop (v.toNat + 1) := List.drop_eq_getElem_cons (by omega)
      rw [ih _ _ (by omega) (by omega), hd, List.foldl_cons, show (v + 1).toNat = v.toNat + 1 by omega]
      unfold stepI getI
      rw [if_pos h0, hx]
    · rw [List.drop_eq_nil_of_le (by omega), List.foldl_nil]
theorem ixL_all {α σ : Type} (l : List α) (f : σ → α → σ) (c : σ) : ixL l.length (stepI l f) (l.length + 1) c 0 = l.foldl f c := by
  rw [ixL_list l f _ c 0 (Int.le_refl 0) (by omega)]
  rfl
end Go.Proofs.YtmcflglkfgnbbaaDoor.Eng

/- Loops that come to what they come to. -/
namespace Go.Proofs.YtmcflglkfgnbbaaDoor.Eng
open Go Go.RowKit
set_option linter.unusedVariables false
theorem lpL_path {U : Univ} {l : List (Nat × LC U)} : ∀ (b : Nat) (s : TS U) (R : Type) (K : Exit → TS U → Option R) (r : R), (lpL l).F b s K = some r → ∃ ex s', K ex s' = some r ∧ ∀ {R' : Type} (K' : Exit → TS U → Option R'), (lpL l).F b s K' = K' ex s' := fun b s R K r h' => by
  obtain ⟨L, hL, h1, h2⟩ := lpLF_some h'
  obtain ⟨ex, s', hk, hall⟩ := L.path s K r h1
  exact ⟨ex, s', hk, fun K' => by show lpLF l b s K' = _; rw [h2]; exact hall K'⟩
section
variable {P : Program} {X : Cx} {E : FuncId → Option (Spc X.U)}
theorem fnLoop_more (hE : ∀ f S, E f = some S → SpecOk P f S) {an : Ann} {l : List (Nat × LC X.U)} {fn : Func} {b : Nat} : ∀ (n : Nat) (s : TS X.U) (p : Exit × TS X.U), fnLoop X E an (lpL l) fn b n s = some p → ∀ m, n ≤ m → fnLoop X E an (lpL l) fn b m s = some p := by
  intro n
  induction n with
  | zero => intro s p h; cases h
  | succ n ih =>
    intro s p h m hm
    obtain ⟨m, rfl⟩ : ∃ k, m = k + 1 := ⟨m - 1, by omega⟩
    rw [fnLoop_succ] at h ⊢
    obtain ⟨ex, s', hk, hp⟩ := evC_path hE lpL_path h
    rw [hp]
    cases ex with
    | normal =>
      dsimp only at hk ⊢
      cases hn : evNorm (an.live b) s' with
      | none => rw [hn] at hk; cases hk
      | some s1 =>
        rw [hn] at hk
        exact ih s1 p hk m (by omega)
    | _ => exact hk
theorem fnLoop_det (hE : ∀ f S, E f = some S → SpecOk P f S) {an : Ann} {l : List (Nat × LC X.U)} {fn : Func} {b n m : Nat} {s : TS X.U} {p q : Exit × TS X.U} (h1 : fnLoop X E an (lpL l) fn b n s = some p) (h2 : fnLoop X E an (lpL l) fn b m s = some q) : p = q := by
  have a := fnLoop_more hE n s p h1 (max n m) (Nat.le_max_left _ _)
  have b := fnLoop_more hE m s q h2 (max n m) (Nat.le_max_right _ _)
  rw [a] at b
  exact Option.some.inj b
open Classical in
/-- A loop, by what its rounds come to. -/
noncomputable def LC.run (X : Cx) (E : FuncId → Option (Spc X.U)) (an : Ann) (l : List (Nat × LC X.U)) (fn : Func) (b : Nat) : LC X.U := ⟨fun s K => if h : ∃ p, ∃ n, fnLoop X E an (lpL l) fn b n s = some p then K h.choose.1 h.choose.2 else none, fun s K r hr => by
  split at hr <;> try (cases hr; done)
  rename_i h
  exact ⟨_, _, hr, fun K' => dif_pos h⟩⟩
theorem run_F (hE : ∀ f S, E f = some S → SpecOk P f S) {an : Ann} {l : List (Nat × LC X.U)} {fn : Func} {b n : Nat} {s : TS X.U} {p : Exit × TS X.U} (h : fnLoop X E an (lpL l) fn b n s = some p) {R : Type} (K : Exit → TS X.U → Option R) : (LC.run X E an l fn b).F s K = K p.1 p.2 := by
  have hx : ∃ p, ∃ n, fnLoop X E an (lpL l) fn b n s = some p := ⟨p, n, h⟩
  unfold LC.run
  dsimp only
  rw [dif_pos hx]
  obtain ⟨m, hm⟩ := hx.choose_spec
  rw [fnLoop_det hE h hm]
theorem run_ok {an : Ann} {l l' : List (Nat × LC X.U)} {fn : Func} {b : Nat} (hag : ∀ q ∈ loops (loopAt fn b) b, ∀ (s : TS X.U) (K : Exit → TS X.U → Option (Exit × TS X.U)), (lpL l).F q.1 s K = (lpL l').F q.1 s K) {s : TS X.U} {p : Exit × TS X.U} (hs : (LC.run X E an l fn b).F s (fun e s => some (e, s)) = some p) : ∃ m, fnLoop X E an (lpL l') fn b m s = some p := by
  unfold LC.run at hs
  dsimp only at hs
  split at hs <;> try (cases hs; done)
  rename_i hx
  cases hs
  obtain ⟨m, hm⟩ := hx.choose_spec
  refine ⟨m, ?_⟩
  rw [← hm]
  unfold fnLoop
  rw [← loopK_R (X := X) (E := E) (lp := lpL l') (lp' := lpL l') (fun q hq s K => rfl), ← loopK_R (X := X) (E := E) (lp := lpL l') (lp' := lpL l) (fun q hq s K => (hag q hq s K).symm)]
/-- By the names of the blocks. -/
theorem ag_of {U : Univ} {l l' : List (Nat × LC U)} {c : Code} {b : Nat} {bs : List Nat} (hb : (loops c b).map (·.1) = bs) (h : ∀ i ∈ bs, ∀ {R : Type} (s : TS U) (K : Exit → TS U → Option R), (lpL l).F i s K = (lpL l').F i s K) {R : Type} : ∀ q ∈ loops c b, ∀ (s : TS U) (K : Exit → TS U → Option R), (lpL l).F q.1 s K = (lpL l').F q.1 s K := fun q hq s K => h q.1 (by rw [← hb]; exact List.mem_map.2 ⟨q, hq, rfl⟩) s K
/-- A loop that stands in code. -/
theorem evC_loop {an : Ann} {lp : Lp X.U} {x : Code} {b : Nat} {s : TS X.U} {R : Type} {K : Exit → TS X.U → Option R} : evC X E an lp (.loop x) b s K = match evNorm (an.live b) s with
    | some s1 => lp.F b s1 K
    | none => none := rfl
end
end Go.Proofs.YtmcflglkfgnbbaaDoor.Eng

/- What a function comes to, told by cases. -/
namespace Go.Proofs.YtmcflglkfgnbbaaDoor.Eng
open Go Go.RowKit
set_option linter.unusedVariables false
def Spc.ofG {U : Univ} {A : Type} (d : List (TO U) → List (TV U) → Option A) (pre : A → Prop) [DecidablePred pre] (G : {R : Type} → A → (List (TO U) → TV U → Option R) → Option R) (o : A → List (TO U)) (v : A → TV U) (hG : ∀ {R : Type} (x : A) (k : List (TO U) → TV U → Option R), G x k = k (o x) (v x)) : Spc U := ⟨fun objs args k => match d objs args with
  | some x => if pre x then G x k else none
  | none => none⟩
theorem SpecOk.ofG {P : Program} {U : Univ} {fid : FuncId} {S0 : Spc U} (h0 : SpecOk P fid S0) {A : Type} {d : List (TO U) → List (TV U) → Option A} {pre : A → Prop} [DecidablePred pre] {G : {R : Type} → A → (List (TO U) → TV U → Option R) → Option R} {o : A → List (TO U)} {v : A → TV U} (hG : ∀ {R : Type} (x : A) (k : List (TO U) → TV U → Option R), G x k = k (o x) (v x))
    (h : ∀ objs args x, d objs args = some x → pre x → S0.F objs args (fun o v => some (o, v)) = some (o x, v x)) : SpecOk P fid (Spc.ofG d pre G o v hG) := by
  refine SpecOk.of_ev h0 (fun objs args => ?_) fun objs args o' v' h' => ?_
  · intro R k r h'
    unfold Spc.ofG at h' ⊢
    dsimp only at h' ⊢
    cases hd : d objs args with
    | none => rw [hd] at h'; cases h'
    | some x =>
      rw [hd] at h'
      dsimp only at h' ⊢
      split at h' <;> try (cases h'; done)
      rename_i hp
      rw [hG] at h'
      exact ⟨_, _, h', fun k' => by rw [if_pos hp, hG]⟩
  · unfold Spc.ofG at h'
    dsimp only at h'
    cases hd : d objs args with
    | none => rw [hd] at h'; cases h'
    | some x =>
      rw [hd] at h'
      dsimp only at h'
      split at h' <;> try (cases h'; done)
      rename_i hp
      rw [hG] at h'
      cases h'
      exact h _ _ _ hd hp
theorem fn_okG {P : Program} {X : Cx} (hX : CxOk P X) (hm : P.follows .mixedOrders = true) {E : FuncId → Option (Spc X.U)} (hE : ∀ f S, E f = some S → SpecOk P f S) (an : Ann) (lp : Lp X.U) {fid : FuncId} {fn : Func} (hf : P.funcs[fid]? = some fn) (hname : (fn.name == "runtime.NumGoroutine") = false) (hcode : (match fn.body with | some c => codeOk fn.ntmps c | none => false) = true)
    (hL : ∀ c, fn.body = some c → LpOk X E an lp (loops c 0)) {A : Type} {d : List (TO X.U) → List (TV X.U) → Option A} {pre : A → Prop} [DecidablePred pre] {G : {R : Type} → A → (List (TO X.U) → TV X.U → Option R) → Option R} {o : A → List (TO X.U)} {v : A → TV X.U} (hG : ∀ {R : Type} (x : A) (k : List (TO X.U) → TV X.U → Option R), G x k = k (o x) (v x))
    (h : ∀ objs args x, d objs args = some x → pre x → evFn X E an lp fn objs args (fun o v => some (o, v)) = some (o x, v x)) : SpecOk P fid (Spc.ofG d pre G o v hG) :=
  SpecOk.ofG (specFn_ok hX hm hE an lp hf hname hcode hL) hG h
end Go.Proofs.YtmcflglkfgnbbaaDoor.Eng

/- Functions that are run. -/
namespace Go.Proofs.YtmcflglkfgnbbaaDoor.Eng
open Go Go.RowKit
set_option linter.unusedVariables false
abbrev LpPath {U : Univ} (lp : Lp U) : Prop := ∀ (b : Nat) (s : TS U) (R : Type) (K : Exit → TS U → Option R) (r : R), lp.F b s K = some r → ∃ ex s', K ex s' = some r ∧ ∀ {R' : Type} (K' : Exit → TS U → Option R'), lp.F b s K' = K' ex s'
def rt {U : Univ} (e : Exit) (s : TS U) : Option (Exit × TS U) := some (e, s)
section
variable {P : Program} {X : Cx} {E : FuncId → Option (Spc X.U)}
def LpSub {U : Univ} (lp lp' : Lp U) : Prop := ∀ (b : Nat) (s : TS U) (p : Exit × TS U), lp.F b s rt = some p → lp'.F b s rt = some p
theorem evC_sub (hE : ∀ f S, E f = some S → SpecOk P f S) {an : Ann} {lp lp' : Lp X.U} (hP : LpPath lp) (hP' : LpPath lp') (hs : LpSub lp lp') : ∀ {c : Code} {b : Nat} {s : TS X.U} {p : Exit × TS X.U}, evC X E an lp c b s rt = some p → evC X E an lp' c b s rt = some p := by
  have key : ∀ {c : Code} {b : Nat} {s : TS X.U}, (∀ p, evC X E an lp c b s rt = some p → evC X E an lp' c b s rt = some p) → ∀ {R : Type} {K : Exit → TS X.U → Option R} {r : R}, evC X E an lp c b s K = some r → ∃ ex s', K ex s' = some r ∧ ∀ {R' : Type} (K' : Exit → TS X.U → Option R'), evC X E an lp' c b s K' = K' ex s' := by
    intro c b s h R K r hk
    obtain ⟨ex, s', h1, h2⟩ := evC_path hE hP hk
    obtain ⟨ex2, s2, h3, h4⟩ := evC_path hE hP' (h (ex, s') (h2 rt))
    cases h3
    exact ⟨ex, s', h1, h4⟩
  intro c
  induction c with
  | seq x y ihx ihy =>
    intro b s p h
    unfold evC at h
    obtain ⟨ex, s', h1, h2⟩ := key (fun p => ihx) h
    unfold evC
    rw [h2]
    cases ex <;> first | exact ihy h1 | exact h1
  | cond c x y ihx ihy =>
    intro b s p h
    unfold evC at h ⊢
    split at h <;> try (cases h; done)
    rename_i q hc
    cases q with
    | true => exact ihx h
    | false => exact ihy h
  | block id x ih =>
    intro b s p h
    unfold evC at h
    obtain ⟨ex, s', h1, h2⟩ := key (fun p => ih) h
    unfold evC
    rw [h2]
    exact h1
  | loop x ih =>
    intro b s p h
    unfold evC at h ⊢
    cases hn : evNorm (an.live b) s with
    | none => rw [hn] at h; cases h
    | some s1 =>
      rw [hn] at h
      exact hs _ _ _ h
  | _ => intro b s p h; exact h
theorem loopK_sub (hE : ∀ f S, E f = some S → SpecOk P f S) {an : Ann} {lp lp' : Lp X.U} (hP : LpPath lp) (hP' : LpPath lp') (hs : LpSub lp lp') {b : Nat} {c : Code} : ∀ (n : Nat) (s : TS X.U) (p : Exit × TS X.U), loopK X E an lp b c n s rt = some p → loopK X E an lp' b c n s rt = some p := by
  intro n
  induction n with
  | zero => intro s p h; cases h
  | succ n ih =>
    intro s p h
    unfold loopK at h ⊢
    obtain ⟨ex, s', h1, h2⟩ := evC_path hE hP h
    obtain ⟨ex2, s2, h3, h4⟩ := evC_path hE hP' (evC_sub hE hP hP' hs (h2 rt))
    cases h3
    rw [h4]
    cases ex with
    | normal =>
      dsimp only at h1 ⊢
      cases hn : evNorm (an.live b) s' with
      | none => rw [hn] at h1; cases h1
      | some s1 => rw [hn] at h1; exact ih _ _ h1
    | _ => exact h1
/-- A function's loops, run: so many rounds, so deep within each other. -/
def runLp (X : Cx) (E : FuncId → Option (Spc X.U)) (an : Ann) (fn : Func) (N : Nat) : Nat → Lp X.U
  | 0 => lp0
  | k + 1 => ⟨fun b s K => loopK X E an (runLp X E an fn N k) b (loopAt fn b) N s K⟩
theorem runLp_path (hE : ∀ f S, E f = some S → SpecOk P f S) {an : Ann} {fn : Func} {N : Nat} : ∀ k, LpPath (runLp X E an fn N k)
  | 0 => fun b s R K r h => by cases h
  | k + 1 => fun b s R K r h => loopK_path hE (runLp_path hE k) N s K h
theorem runLp_sub (hE : ∀ f S, E f = some S → SpecOk P f S) {an : Ann} {fn : Func} {N : Nat} : ∀ k, LpSub (runLp X E an fn N k) (runLp X E an fn N (k + 1))
  | 0 => fun b s p h => by cases h
  | k + 1 => fun b s p h => loopK_sub hE (runLp_path hE k) (runLp_path hE (k + 1)) (runLp_sub hE k) N s p h
theorem runLp_ok (hE : ∀ f S, E f = some S → SpecOk P f S) {an : Ann} {fn : Func} {N k : Nat} {c : Code} (hc : fn.body = some c) (hnd : nodupN ((loops c 0).map (·.1)) = true) : LpOk X E an (runLp X E an fn N k) (loops c 0) := by
  refine LpOk.of hc hnd (fun b s p hm hs => ?_) (runLp_path hE k)
  cases k with
  | zero => cases hs
  | succ k =>
    refine ⟨N, ?_⟩
    have h1 : loopK X E an (runLp X E an fn N k) b (loopAt fn b) N s rt = some p := hs
    have h2 := loopK_sub hE (runLp_path hE k) (runLp_path hE (k + 1)) (runLp_sub hE k) N s p h1
    unfold fnLoop
    rw [← loopK_R (lp := runLp X E an fn N (k + 1)) (fun q _ s K => rfl)]
    exact h2
/-- A function that may be run. -/
structure Runs (P : Program) (f : FuncId) (fn : Func) : Prop where
  at_ : P.funcs[f]? = some fn
  name : (fn.name == "runtime.NumGoroutine") = false
  code : (match fn.body with | some c => codeOk fn.ntmps c | none => false) = true
  nodup : (match fn.body with | some c => nodupN ((loops c 0).map (·.1)) | none => false) = true
/-- What is told of functions, and else they are run. -/
def runE (X : Cx) (E0 : FuncId → Option (Spc X.U)) (fs : FuncId → Option (Func × Ann)) (N k : Nat) : Nat → FuncId → Option (Spc X.U)
  | 0, f => E0 f
  | d + 1, f => match fs f with
    | some (fn, an) => some (specFn X (runE X E0 fs N k d) an (runLp X (runE X E0 fs N k d) an fn N k) fn)
    | none => E0 f
theorem runE_ok (hX : CxOk P X) (hm : P.follows .mixedOrders = true) {E0 : FuncId → Option (Spc X.U)} (h0 : ∀ f S, E0 f = some S → SpecOk P f S) {fs : FuncId → Option (Func × Ann)} (hf : ∀ f fn an, fs f = some (fn, an) → Runs P f fn) {N k : Nat} : ∀ d f S, runE X E0 fs N k d f = some S → SpecOk P f S
  | 0, f, S, h => h0 f S h
  | d + 1, f, S, h => by
    unfold runE at h
    split at h
    · rename_i fn an hfs
      cases h
      have hr := hf f fn an hfs
      refine specFn_ok hX hm (runE_ok hX hm h0 hf d) an _ hr.at_ hr.name hr.code fun c hc => runLp_ok (runE_ok hX hm h0 hf d) hc ?_
      have := hr.nodup
      rw [hc] at this
      exact this
    · exact h0 f S h
end
end Go.Proofs.YtmcflglkfgnbbaaDoor.Eng


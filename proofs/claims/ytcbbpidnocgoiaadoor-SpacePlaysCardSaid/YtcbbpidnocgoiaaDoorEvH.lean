/- What is told goes one way. -/
import Derived.Test.YtcbbpidnocgoiaaDoorEvG
namespace Go.Proofs.YtcbbpidnocgoiaaDoor.Eng
open Go Go.RowKit
set_option linter.unusedVariables false
set_option linter.unusedSimpArgs false
def Path {U : Univ} (F : {R : Type} → (List Loc → TEff U → Option R) → Option R) : Prop := ∀ {R : Type} (k : List Loc → TEff U → Option R) (r : R), F k = some r → ∃ L e, k L e = some r ∧ ∀ {R' : Type} (k' : List Loc → TEff U → Option R'), F k' = k' L e
section
variable {X : Cx} {s : TS X.U} {R : Type}
theorem evMv_path {x : Operand} : Path fun k => evMv X s x k := by
  intro R k r h
  unfold evMv at h
  split at h <;> first | (cases h; done) | exact ⟨_, _, h, fun k' => by simp [evMv, *]⟩
theorem evPick_path {c x y : Operand} : Path fun k => evPick X s c x y k := by
  intro R k r h
  unfold evPick at h
  split at h <;> try (cases h; done)
  rename_i b hc
  cases b
  · simp only [cond_false] at h
    split at h <;> first | (cases h; done) | exact ⟨_, _, h, fun k' => by simp [evPick, *]⟩
  · simp only [cond_true] at h
    split at h <;> first | (cases h; done) | exact ⟨_, _, h, fun k' => by simp [evPick, *]⟩
theorem tbin_path {op : BinOp} {x y : Value} {k : Value → Option R} {r : R} (h : tbin op x y k = some r) : ∃ v, k v = some r ∧ ∀ {R' : Type} (k' : Value → Option R'), tbin op x y k' = k' v := by
  unfold tbin at h
  split at h
  · cases op <;> simp only at h <;> (repeat' split at h) <;> first | (cases h; done) | exact ⟨_, h, fun k' => by simp [tbin, *]⟩
  · cases op <;> simp only at h <;> (repeat' split at h) <;> first | (cases h; done) | exact ⟨_, h, fun k' => by simp [tbin, *]⟩
  · cases h
theorem evBin_path {op : BinOp} {T : TypeId} {x y : Operand} : Path fun k => evBin X s op T x y k := by
  intro R k r h
  unfold evBin at h
  split at h
  · repeat' split at h
    all_goals first | (cases h; done) | exact ⟨_, _, h, fun k' => by simp [evBin, *]⟩
  · repeat' split at h
    all_goals first | (cases h; done) | exact ⟨_, _, h, fun k' => by simp [evBin, *]⟩
  · repeat' split at h
    all_goals first | (cases h; done) | exact ⟨_, _, h, fun k' => by simp [evBin, *]⟩
  · repeat' split at h
    all_goals first | (cases h; done) | exact ⟨_, _, h, fun k' => by simp [evBin, *]⟩
  · rename_i a b h1 h2 h3 h4
    obtain ⟨v, hv, hk⟩ := tbin_path h
    refine ⟨_, _, hv, fun k' => ?_⟩
    rw [← hk fun v => k' (locO x ++ locO y) ⟨.v v, []⟩]
    unfold evBin
    simp only [h3, h4]
  · cases h
theorem evUn_path {op : UnOp} {x : Operand} : Path fun k => evUn X s op x k := by
  intro R k r h
  unfold evUn at h
  split at h
  · split at h <;> first | (cases h; done) | exact ⟨_, _, h, fun k' => by simp [evUn, *]⟩
  · split at h
    · obtain ⟨v, hv, hk⟩ := tbin_path h
      exact ⟨_, _, hv, fun k' => by simp [evUn, *]⟩
    · obtain ⟨v, hv, hk⟩ := tbin_path h
      exact ⟨_, _, hv, fun k' => by simp [evUn, *]⟩
    · cases h
  · cases h
theorem evConv_path {T1 T2 : TypeId} {x : Operand} : Path fun k => evConv X s T1 T2 x k := by
  intro R k r h
  unfold evConv at h
  repeat' split at h
  all_goals first | (cases h; done) | exact ⟨_, _, h, fun k' => by simp [evConv, *]⟩
theorem cellsAt_path {U : Univ} {t : TI} {l : List (TV U)} {j : Nat} {k : TV U → Option R} {r : R} (h : cellsAt t l j k = some r) : ∃ tv, k tv = some r ∧ ∀ {R' : Type} (k' : TV U → Option R'), cellsAt t l j k' = k' tv := by
  unfold cellsAt at h
  repeat' split at h
  all_goals first | (cases h; done) | exact ⟨_, h, fun k' => by simp [cellsAt, *]⟩
theorem evLoad_path {T : TypeId} {x : Operand} : Path fun k => evLoad X s T x k := by
  intro R k r h
  unfold evLoad at h
  repeat' split at h
  all_goals try (cases h; done)
  · obtain ⟨tv, hv, hk⟩ := cellsAt_path h
    exact ⟨_, _, hv, fun k' => by simp [evLoad, *]⟩
  · obtain ⟨y, hy, h⟩ := Option.bind_eq_some_iff.1 h
    obtain ⟨tv, hv, hk⟩ := cellsAt_path h
    exact ⟨_, _, hv, fun k' => by simp [evLoad, *]⟩
  · obtain ⟨tv, hv, hk⟩ := cellsAt_path h
    exact ⟨_, _, hv, fun k' => by simp [evLoad, *]⟩
theorem evStore_path {T : TypeId} {x y : Operand} : Path fun k => evStore X s T x y k := by
  intro R k r h
  unfold evStore at h
  repeat' split at h
  all_goals try (cases h; done)
  · exact ⟨_, _, h, fun k' => by simp [evStore, *]⟩
  · obtain ⟨z, hz, h⟩ := Option.bind_eq_some_iff.1 h
    split at h <;> try (cases h; done)
    exact ⟨_, _, h, fun k' => by simp [evStore, *]⟩
theorem evFieldAddr_path {T : TypeId} {x : Operand} {f : Nat} : Path fun k => evFieldAddr X s T x f k := by
  intro R k r h
  unfold evFieldAddr at h
  repeat' split at h
  all_goals first | (cases h; done) | exact ⟨_, _, h, fun k' => by simp [evFieldAddr, *]⟩
theorem evField_path {T : TypeId} {x : Operand} {f : Nat} : Path fun k => evField X s T x f k := by
  intro R k r h
  unfold evField at h
  repeat' split at h
  all_goals try (cases h; done)
  obtain ⟨tv, hv, hk⟩ := cellsAt_path h
  exact ⟨_, _, hv, fun k' => by simp [evField, *]⟩
theorem evNil_path {x : Operand} : Path fun k => evNil X s x k := by
  intro R k r h
  unfold evNil at h
  repeat' split at h
  all_goals first | (cases h; done) | exact ⟨_, _, h, fun k' => by simp [evNil, *]⟩
theorem evExtract_path {x : Operand} {n : Nat} : Path fun k => evExtract X s x n k := by
  intro R k r h
  unfold evExtract at h
  repeat' split at h
  all_goals first | (cases h; done) | exact ⟨_, _, h, fun k' => by simp [evExtract, *]⟩
theorem evIndexAddr_path {T : TypeId} {x y : Operand} : Path fun k => evIndexAddr X s T x y k := by
  intro R k r h
  unfold evIndexAddr at h
  repeat' split at h
  all_goals try (cases h; done)
  · exact ⟨_, _, h, fun k' => by simp [evIndexAddr, *]⟩
  · exact ⟨_, _, h, fun k' => by simp [evIndexAddr, *]⟩
  · obtain ⟨z, hz, h⟩ := Option.bind_eq_some_iff.1 h
    exact ⟨_, _, h, fun k' => by simp [evIndexAddr, *]⟩
theorem evIndex_path {T : TypeId} {x y : Operand} : Path fun k => evIndex X s T x y k := by
  intro R k r h
  unfold evIndex at h
  repeat' split at h
  all_goals try (cases h; done)
  obtain ⟨z, hz, h⟩ := Option.bind_eq_some_iff.1 h
  exact ⟨_, _, h, fun k' => by simp [evIndex, *]⟩
theorem evLen_path {T : TypeId} {x : Operand} : Path fun k => evLen X s T x k := by
  intro R k r h
  unfold evLen at h
  repeat' split at h
  all_goals first | (cases h; done) | exact ⟨_, _, h, fun k' => by simp [evLen, *]⟩
theorem evMM_path {mx : Bool} {x y : Operand} : Path fun k => evMM X s mx x y k := by
  intro R k r h
  unfold evMM at h
  split at h <;> try (cases h; done)
  split at h <;> try (cases h; done)
  exact ⟨_, _, h, fun k' => by simp [evMM, *]⟩
theorem evAlloc_path {T : TypeId} : Path fun k => evAlloc X s T k := by
  intro R k r h
  unfold evAlloc at h
  repeat' split at h
  all_goals first | (cases h; done) | exact ⟨_, _, h, fun k' => by simp [evAlloc, *]⟩
theorem evBox_path {x : Operand} : Path fun k => evBox X s x k := by
  intro R k r h
  unfold evBox at h
  repeat' split at h
  all_goals first | (cases h; done) | exact ⟨_, _, h, fun k' => by simp [evBox, *]⟩
theorem evBuild_path {T : TypeId} {parts : List (Nat × Operand)} : Path fun k => evBuild X s T parts k := by
  intro R k r h
  unfold evBuild at h
  repeat' split at h
  all_goals first | (cases h; done) | exact ⟨_, _, h, fun k' => by simp [evBuild, *]⟩
theorem evMake_path {T : TypeId} {x y : Operand} : Path fun k => evMake X s T x y k := by
  intro R k r h
  unfold evMake at h
  repeat' split at h
  all_goals first | (cases h; done) | exact ⟨_, _, h, fun k' => by simp [evMake, *]⟩
theorem evSliceLit_path {T : TypeId} {n : Nat} {parts : List (Nat × Operand)} : Path fun k => evSliceLit X s T n parts k := by
  intro R k r h
  unfold evSliceLit at h
  repeat' split at h
  all_goals first | (cases h; done) | exact ⟨_, _, h, fun k' => by simp [evSliceLit, *]⟩
theorem evCut_path {T : TypeId} {x : Operand} {lo hi : Option Operand} : Path fun k => evCut X s T x lo hi k := by
  intro R k r h
  unfold evCut at h
  repeat' split at h
  all_goals try (cases h; done)
  all_goals
    obtain ⟨z, hz, h⟩ := Option.bind_eq_some_iff.1 h
    exact ⟨_, _, h, fun k' => by simp [evCut, *]⟩
theorem evAppend_path {T Ty : TypeId} {x y : Operand} : Path fun k => evAppend X s T Ty x y k := by
  intro R k r h
  unfold evAppend at h
  repeat' split at h
  all_goals try (cases h; done)
  · exact ⟨_, _, h, fun k' => by simp only [evAppend, *, if_true, cond_true, cond_false]⟩
  all_goals
    rename_i ys L hys hsz hzz
    cases hq : ys.isEmpty with
    | true =>
      rw [hq] at h
      exact ⟨_, _, h, fun k' => by simp only [evAppend, *, if_true, cond_true, cond_false]⟩
    | false =>
      rw [hq] at h
      first | (cases h; done) | exact ⟨_, _, h, fun k' => by simp only [evAppend, *, if_true, cond_true, cond_false]⟩
end
end Go.Proofs.YtcbbpidnocgoiaaDoor.Eng

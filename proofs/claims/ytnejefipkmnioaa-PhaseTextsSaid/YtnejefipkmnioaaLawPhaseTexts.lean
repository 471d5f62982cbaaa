/- The row of PhaseTexts: for every record. -/
import Derived.Test.YtnejefipkmnioaaRows
import Derived.Test.YtnejefipkmnioaaQPhaseTextsx4
import Derived.Test.YtnejefipkmnioaaPurePhaseTexts
import Derived.Lib.SmallJoins
import Derived.WalkKit
import Derived.ProofKit
import Derived.OpenShut
import Derived.ShutString
import Derived.ChangeOld
import Derived.Below
import Derived.SizedLaws
namespace Go.Proofs.Ytnejefipkmnioaa.phaseTexts
open Go.ChangeShapes Go.WideShapes Go.ChangeAt Go.RowKit
open Go.ChangeMaps (open_string shut_string)
set_option linter.unusedVariables false
theorem cells45 : Try.prog.cellsOf 45 = 3 := by kernel_rfl
theorem own : ownKnob Try.prog.godebug = none := by kernel_rfl
set_option maxRecDepth 100000 in
theorem lifted (os : Os) (started : os.Started) (H : Type) (enc : TypeId × Value → H) :
    ReturnsInHanded {} Try.checked os 8 .any (Rows.phaseTextsSpec.pre6 enc Try.prog Try.f8 Rows.phaseTextsRow.domain false) (Rows.phaseTextsSpec.post enc Try.prog Try.f8 false true false false) := by
  refine returnsInHanded_of_change_sized (C := Try.checked) own started (by kernel_rfl) Try.func8
    (ChangeSpec.witness6 (enc := enc) (C := Try.checked) false ⟨#[], #[.agg #[.int .i64 0, .int .u64 0, .int .u64 0]], []⟩ 8 (by kernel_rfl) (by kernel_rfl) (by kernel_rfl) (by kernel_rfl)) ?_
  intro W base args ds gs before hval0 hW hcnd hsz0 _
  have hsz : (DataW.weightsEach Try.prog (Try.f8.params.toList ++ Rows.phaseTextsSpec.plain.varTypes Try.prog) (ds ++ gs)).all (· ≤ reachBytes) = true := hsz0
  have hval : ∀ (j : Nat) t v, Try.f8.params[j]? = some t → args[j]? = some v → Value.okWide Try.prog W .any base t v := hval0
  have hW' := hW
  obtain ⟨p, q, hA0, hV, rfl, hfz, hnd⟩ := hW
  have hA : DataW.TrodAll enc Try.prog W 0 (fun _ => true) true Try.f8.params.toList args.toList ds p := hA0
  rw [Try.params8] at hA hval hsz
  obtain ⟨v0, vs0, d0, ds0, p0, q0, hargs, rfl, rfl, h0, r0⟩ := trodAll_cons hA
  obtain ⟨rfl, rfl, rfl⟩ := trodAll_nil r0
  obtain rfl : args = #[v0] := by cases args; simp_all
  obtain ⟨rfl, rfl⟩ := trodVars_none hV
  obtain ⟨c0, c1, c2, y0, y1, y2, m, rfl, rfl, rfl, hy0, hy1, hy2⟩ := Go.Joins.open_agg3 Try.underlying45 (by kernel_rfl) cells45 (hval 0 45 v0 rfl rfl) h0
  obtain ⟨a0, e0, rfl, w0⟩ := DataW.trod_int Try.underlying3 hy0
  obtain ⟨a1, e1, rfl, w1⟩ := DataW.trod_int Try.underlying22 hy1
  obtain ⟨a2, e2, rfl, w2⟩ := DataW.trod_int Try.underlying22 hy2
  obtain rfl : c0 = _ := (List.cons.inj e0).1
  obtain rfl : c1 = _ := (List.cons.inj e1).1
  obtain rfl : c2 = _ := (List.cons.inj e2).1
  clear hA0 hval0 hsz0 hsz
  obtain ⟨k, hf⟩ := Pure.PhaseTexts a0 a1 a2 w0 w1 w2
  refine (QPhaseTexts.keywaylaw17_PhaseTexts.calls k a0 a1 a2 true W hf).mono fun e W' ⟨he, bel⟩ => ?_
  subst he
  exact ⟨_, rfl, _, _, _, [], _, [], hW', trodAll_mk1 (shut_bool Try.underlying4 _), (trodAll_cons_mk (Go.Joins.shut_agg3 (y0 := (.lit (.int .i64 a0), [])) (y1 := (.lit (.int .u64 a1), [])) (y2 := (.lit (.int .u64 a2), [])) Try.underlying45 (by kernel_rfl) cells45 (shut_int Try.underlying3 w0) (shut_int Try.underlying22 w1) (shut_int Try.underlying22 w2)) trodAll_mk0), rfl, bel.frame _, fun h => by cases h⟩
theorem over : Rows.phaseTextsRow.holds Try.pinned (OpenSpec.ofChange Rows.phaseTextsSpec) :=
  OpenClaim.holds_of_wide 8 Try.f8 rfl rfl rfl rfl rfl rfl rfl ⟨rfl, rfl, rfl, rfl, rfl⟩ rfl rfl rfl rfl rfl (by kernel_rfl) Try.func8 (by kernel_rfl)
    (of_decide_eq_true (by kernel_rfl)) (by unfold Func.isWrapper; first | (rw [if_pos (by decide +kernel)]; kernel_rfl) | (rw [if_neg (by decide +kernel)]; exact ⟨rfl, rfl⟩))
    (fun os started H enc _ => lifted os started H enc)
theorem proved : Rows.PhaseTextsSaid := over
#print axioms proved
end Go.Proofs.Ytnejefipkmnioaa.phaseTexts
namespace Go.Proofs.Ytnejefipkmnioaa
/-- The row, under a short name, for the claim. -/
theorem phaseTexts_holds : Rows.PhaseTextsSaid := phaseTexts.proved
end Go.Proofs.Ytnejefipkmnioaa

/- A set of numbers has the document's bytes, and is read again, whatever the input: the row. No condition on the input. -/
import Derived.Test.YtmcflglkfgnbbaaRows
import Derived.WalkKit
import Derived.ProofKit
import Derived.OpenShut
import Derived.ShutString
import Derived.ChangeOld
import Derived.ChangeSlices
import Derived.Lib.SmallJoins
import Derived.Below
import Derived.SizedLaws
import Derived.Test.YtmcflglkfgnbbaaMvK
/- A set of numbers has the document's bytes, and is read again, whatever the input: the row. No condition on the input. -/
namespace Go.Proofs.Ytmcflglkfgnbbaa.bitsBytes
open Go Go.ChangeShapes Go.WideShapes Go.ChangeAt Go.RowKit Go.Proofs.Ytmcflglkfgnbbaa.Eng Go.Proofs.Ytmcflglkfgnbbaa.Nd Go.Proofs.Ytmcflglkfgnbbaa.Bt
set_option linter.unusedVariables false
theorem own : ownKnob Try.prog.godebug = none := by kernel_rfl
theorem laidOut : laidOutB Try.prog = true := by kernel_rfl
theorem law (l : List Int) (v : Value) (W : World) (hv : Rep ⟨fun _ => none, fun _ => 0, fun _ => 0, fun k => k < W.heap.size⟩ W.heap v (.lst 1 (l.map encS_i64))) :
    Calls Try.prog 7 #[v] W fun e W' => e = .returned (.bool true) ∧ Below W.heap.size W W' := by
  refine (law7 l ⟨fun _ => none, fun _ => 0, fun _ => 0, fun k => k < W.heap.size⟩ W [v] ⟨fun p hp => by simp [tabs] at hp, fun k hk => hk, fun i o hi => by simp at hi, fun _ _ => rfl, fun i j o o' b hi => by simp at hi⟩ (.cons hv .nil)).mono fun e W' ⟨v, g', he, hv, hp⟩ => ?_
  obtain rfl := rep_v hv
  exact ⟨he, ⟨hp.os, hp.tape, hp.output, hp.hsize, fun k hk => hp.base k hk fun ⟨i, o, hi, _⟩ => by simp at hi⟩⟩
set_option maxRecDepth 100000 in
theorem lifted (os : Os) (started : os.Started) (H : Type) (enc : TypeId × Value → H) :
    ReturnsInHanded {} Try.checked os 7 .any (Rows.bitsBytesSpec.pre6 enc Try.prog Try.f7 Rows.bitsBytesRow.domain false) (Rows.bitsBytesSpec.post enc Try.prog Try.f7 false true false false) := by
  refine returnsInHanded_of_change_sized (C := Try.checked) own started (by kernel_rfl) Try.func7
    (ChangeSpec.witness6 (enc := enc) (C := Try.checked) false ⟨#[], #[.slice none 0 0], []⟩ 8 (by kernel_rfl) (by kernel_rfl) (by kernel_rfl) (by kernel_rfl)) ?_
  intro W base args ds gs before hval0 hW hcnd hsz0 _
  have hval : ∀ (j : Nat) t v, Try.f7.params[j]? = some t → args[j]? = some v → Value.okWide Try.prog W .any base t v := hval0
  have hW' := hW
  obtain ⟨p, q, hA0, hV, rfl, hfz, hnd⟩ := hW
  have hA : DataW.TrodAll enc Try.prog W 0 (fun _ => true) true Try.f7.params.toList args.toList ds p := hA0
  rw [Try.params7] at hA hval
  obtain ⟨v0, vs0, d0, ds0, p0, q0, hargs, rfl, rfl, h0, r0⟩ := trodAll_cons hA
  obtain ⟨rfl, rfl, rfl⟩ := trodAll_nil r0
  obtain rfl : args = #[v0] := by cases args; simp_all
  obtain ⟨rfl, rfl⟩ := trodVars_none hV
  have lt0 : ∀ x ∈ p0, x.block < W.heap.size := by obtain ⟨m, hm⟩ := h0; exact DataW.trod_lt m _ _ _ hm
  obtain ⟨sa, sl, sc, rfl⟩ := okWide_slice Try.underlying27 (hval 0 27 v0 rfl rfl)
  have ex0 : ∃ l : List Int, Rep ⟨fun _ => none, fun _ => 0, fun _ => 0, fun k => k < W.heap.size⟩ W.heap (.slice sa sl sc) (.lst 1 (l.map encS_i64)) := by
    obtain ⟨m, hm⟩ := h0
    obtain ⟨v, l, hc, hr⟩ := open_list encS_i64 0 Try.underlying27 (show 0 < Try.prog.cellsOf 3 from of_decide_eq_true (by kernel_rfl)) hm fun n cs' y hy => by
      obtain ⟨z, rfl, _⟩ := DataW.trod_int Try.underlying3 hy
      exact ⟨z, fun g => .cons (.v _) .nil⟩
    have c3 : Try.prog.cellsOf 3 = 1 := by kernel_rfl
    rw [c3] at hr
    have hc : [Value.slice sa sl sc] = [v] := hc
    cases hc
    exact ⟨l, hr⟩
  obtain ⟨l, hv⟩ := ex0
  clear hA0 hval0 hval
  refine (law l _ W hv).mono fun e W' ⟨he, bel⟩ => ?_
  subst he
  exact ⟨_, rfl, _, _, _, [], _, [], hW', trodAll_mk1 (shut_bool Try.underlying4 _), (trodAll_cons_mk (Below.trod laidOut (by kernel_rfl) (of_decide_eq_true (by kernel_rfl)) h0 bel lt0) trodAll_mk0), rfl, bel.frame _, fun h => by cases h⟩
theorem over : Rows.bitsBytesRow.holds Try.pinned (OpenSpec.ofChange Rows.bitsBytesSpec) :=
  OpenClaim.holds_of_wide 7 Try.f7 rfl rfl rfl rfl rfl rfl rfl ⟨rfl, rfl, rfl, rfl, rfl⟩ rfl rfl rfl rfl rfl (by kernel_rfl) Try.func7 (by kernel_rfl)
    (of_decide_eq_true (by kernel_rfl)) (by unfold Func.isWrapper; first | (rw [if_pos (by decide +kernel)]; kernel_rfl) | (rw [if_neg (by decide +kernel)]; exact ⟨rfl, rfl⟩))
    (fun os started H enc _ => lifted os started H enc)
theorem proved : Rows.BitsBytesSaid := over
end Go.Proofs.Ytmcflglkfgnbbaa.bitsBytes
namespace Go.Proofs.Ytmcflglkfgnbbaa
/-- The row, under a short name, for the claim. -/
theorem bitsBytes_holds : Rows.BitsBytesSaid := bitsBytes.proved
end Go.Proofs.Ytmcflglkfgnbbaa


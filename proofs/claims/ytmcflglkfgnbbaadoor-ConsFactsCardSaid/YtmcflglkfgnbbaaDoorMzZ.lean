/- Facts are all that was added to them, whatever the input: the row, and its card. -/
import Derived.ChangeSlices
import Derived.ChangeSame
import Derived.Lib.SmallJoins
import Derived.Below
import Derived.ChangeOld
import Derived.Test.YtmcflglkfgnbbaaDoorMzL
/- Facts are all that was added to them, whatever the input: the row, and its card. -/
namespace Go.Proofs.YtmcflglkfgnbbaaDoor.consFacts
open Go Go.ChangeShapes Go.WideShapes Go.ChangeAt Go.RowKit Go.Proofs.YtmcflglkfgnbbaaDoor.Eng Go.Proofs.YtmcflglkfgnbbaaDoor.Nd Go.Proofs.YtmcflglkfgnbbaaDoor.Bl
set_option linter.unusedVariables false
theorem open_is {H : Type} {enc : TypeId × Value → H} {W : World} {m : Nat} {cs : List Value} {d : DataW H × List MemPlace} (hm : DataW.trod enc Tryd.prog W 0 (fun _ => true) true m 22 cs = some d) :
    ∃ (v : Value) (l : List Int), cs = [v] ∧ Rep ⟨fun _ => none, fun _ => 0, fun _ => 0, fun k => k < W.heap.size⟩ W.heap v (.lst 1 (l.map encS_i64)) := by
  obtain ⟨v, l, hc, hr⟩ := open_list encS_i64 0 Tryd.underlying22 (show 0 < Tryd.prog.cellsOf 3 from of_decide_eq_true (by kernel_rfl)) hm fun n cs' y hy => by
    obtain ⟨z, rfl, _⟩ := DataW.trod_int Tryd.underlying3 hy
    exact ⟨z, fun g => .cons (.v _) .nil⟩
  have c3 : Tryd.prog.cellsOf 3 = 1 := by kernel_rfl
  rw [c3] at hr
  exact ⟨v, l, hc, hr⟩
set_option maxRecDepth 100000 in
theorem open_j {H : Type} {e : TypeId × Value → H} {W : World} (n : Nat) (cs' : List Value) (y : DataW H × List MemPlace) (hy : DataW.trod e Tryd.prog W 0 (fun _ => true) true n 45 cs' = some y) : ∃ z : R45, RepL ⟨fun _ => none, fun _ => 0, fun _ => 0, fun k => k < W.heap.size⟩ W.heap cs' (encS_t45 z) := by
  have c45 : Tryd.prog.cellsOf 45 = 3 := by kernel_rfl
  have c3 : Tryd.prog.cellsOf 3 = 1 := by kernel_rfl
  have c22 : Tryd.prog.cellsOf 22 = 1 := by kernel_rfl
  obtain ⟨y0, y1, y2, n', _, hlen, e0, e1, e2⟩ := Go.Deep.trod_struct3 Tryd.underlying45 hy
  rw [c45] at hlen
  have e0' : DataW.trod e Tryd.prog W 0 (fun _ => true) true n' 3 ((cs'.drop 0).take (Tryd.prog.cellsOf 3)) = some y0 := e0
  have e1' : DataW.trod e Tryd.prog W 0 (fun _ => true) true n' 3 ((cs'.drop 1).take (Tryd.prog.cellsOf 3)) = some y1 := e1
  have e2' : DataW.trod e Tryd.prog W 0 (fun _ => true) true n' 22 ((cs'.drop 2).take (Tryd.prog.cellsOf 22)) = some y2 := e2
  rw [c3] at e0' e1'
  rw [c22] at e2'
  obtain ⟨p, k1, _⟩ := DataW.trod_int Tryd.underlying3 e0'
  obtain ⟨q, k2, _⟩ := DataW.trod_int Tryd.underlying3 e1'
  obtain ⟨v, l, k3, hv⟩ := open_is e2'
  match cs', hlen with
  | [u0, u1, u2], _ =>
    simp only [List.drop_zero, List.take_succ_cons, List.take_zero, List.cons.injEq, and_true, List.drop_succ_cons] at k1 k2 k3
    subst k1 k2 k3
    exact ⟨⟨p, q, l⟩, .cons (.v _) (.cons (.v _) (.cons hv .nil))⟩
set_option maxRecDepth 100000 in
theorem lifted (os : Os) (started : os.Started) (H : Type) (enc : TypeId × Value → H) :
    ReturnsInHanded {} Tryd.checked os 6 .any (fun w args => (Rows.consFactsSpec.pre enc Tryd.prog Tryd.f6 [] false w args ∧ laidMetH Tryd.prog laidL w) ∧ sizedMet enc Tryd.prog Tryd.f6 (OpenSpec.ofChange Rows.consFactsSpec) false w args)
      (Rows.consFactsSpec.post enc Tryd.prog Tryd.f6 false true false false) := by
  refine returnsInHanded_of_change_and (C := Tryd.checked) (X := fun w _ => laidMetH Tryd.prog laidL w) (fun _ _ _ hh h => h.of_heap hh) own started (by kernel_rfl) Tryd.func6
    (ChangeSpec.witness_shaped (enc := enc) (C := Tryd.checked) (os := os) (X := fun w _ => laidMetH Tryd.prog laidL w) false (World.doorLaid Tryd.prog 400 os) #[.slice none 0 0] 8 rfl (World.shaped_of_RefB (by kernel_rfl) (by kernel_rfl)) (by kernel_rfl) (by kernel_rfl) (by kernel_rfl) (door_met os _)) ?_
  intro W base args ds gs before hval0 hW _ _ hL _
  have hval : ∀ (j : Nat) t v, Tryd.f6.params[j]? = some t → args[j]? = some v → Value.okWide Tryd.prog W .any base t v := hval0
  have hW' := hW
  obtain ⟨p, q, hA0, hV, rfl, hfz, hnd⟩ := hW
  have hA : DataW.TrodAll enc Tryd.prog W 0 (fun _ => true) true Tryd.f6.params.toList args.toList ds p := hA0
  rw [Tryd.params6] at hA hval
  obtain ⟨v0, vs0, d0, ds0, p0, q0, hargs, rfl, rfl, h0, r0⟩ := trodAll_cons hA
  obtain ⟨rfl, rfl, rfl⟩ := trodAll_nil r0
  obtain rfl : args = #[v0] := by cases args; simp_all
  obtain ⟨rfl, rfl⟩ := trodVars_none hV
  have lt0 : ∀ x ∈ p0, x.block < W.heap.size := by obtain ⟨m, hm⟩ := h0; exact DataW.trod_lt m _ _ _ hm
  obtain ⟨sa, sl, sc, rfl⟩ := okWide_slice Tryd.underlying41 (hval 0 41 v0 rfl rfl)
  have ex0 : ∃ l : List R45, Rep ⟨fun _ => none, fun _ => 0, fun _ => 0, fun k => k < W.heap.size⟩ W.heap (.slice sa sl sc) (.lst 3 (l.map encS_t45)) := by
    obtain ⟨m, hm⟩ := h0
    obtain ⟨v, l, hc, hr⟩ := open_listG encS_t45 ⟨0, 0, []⟩ Tryd.underlying41 (show 0 < Tryd.prog.cellsOf 45 from of_decide_eq_true (by kernel_rfl)) hm open_j
    have c45 : Tryd.prog.cellsOf 45 = 3 := by kernel_rfl
    rw [c45] at hr
    have hc : [Value.slice sa sl sc] = [v] := hc
    cases hc
    exact ⟨l, hr⟩
  obtain ⟨l, hv⟩ := ex0
  clear hA0 hval0 hval
  refine (call_of (Bt.law6 l) [.slice sa sl sc] W hL (.cons hv .nil)).mono fun e W' ⟨he, bel⟩ => ?_
  subst he
  exact ⟨_, rfl, _, _, _, [], _, [], hW', trodAll_mk1 (shut_bool Tryd.underlying4 _), (trodAll_cons_mk (Below.trod laidOut (by kernel_rfl) (of_decide_eq_true (by kernel_rfl)) h0 bel lt0) trodAll_mk0), rfl, bel.frame _, fun h => by cases h⟩
theorem row_holds : Rows.ConsFactsSaid :=
  OpenClaim.holds_of_wide 6 Tryd.f6 rfl rfl rfl rfl rfl rfl rfl ⟨rfl, rfl, rfl, rfl, rfl⟩ rfl rfl rfl rfl rfl (by kernel_rfl) Tryd.func6 (by kernel_rfl)
    (of_decide_eq_true (by kernel_rfl)) (by unfold Func.isWrapper; first | (rw [if_pos (by decide +kernel)]; kernel_rfl) | (rw [if_neg (by decide +kernel)]; exact ⟨rfl, rfl⟩))
    (fun os started H enc _ => lifted os started H enc)
theorem card_holds : Rows.ConsFactsCardSaid :=
  Claim7.holds_tied_plain_at .later [] [.data] true (true, "be00d8d0f8364c34412bf2a6ae3d97aa819a8ce61cf785b4ae2324cb221c3b5c") false
    row_holds (fun _ h => by cases h) (by kernel_rfl) (fun _ h => by cases h) consFacts_row_tie rfl ⟨rfl, rfl⟩ (by kernel_rfl) rfl
    (fun f fn hf hfn => by
      obtain rfl : f = 6 := Option.some.inj ((show Tryd.prog.funcNamed "keyway/keywaylaw25.ConsFacts" = some 6 by kernel_rfl).symm.trans hf) |>.symm
      obtain rfl : fn = Tryd.f6 := (Option.some.inj (Tryd.func6.symm.trans hfn)).symm
      exact ⟨by kernel_rfl, fun j t ht => by
        rw [Tryd.params6] at ht
        have hm : t ∈ [41] := by simpa using Array.mem_of_getElem? ht
        have hall : ([41].all fun u => !Tryd.prog.wantsStandIn u) = true := by kernel_rfl
        exact (show Tryd.prog.wantsStandIn t = false by simpa using List.all_eq_true.1 hall t hm)⟩)
    (by kernel_rfl)
end Go.Proofs.YtmcflglkfgnbbaaDoor.consFacts
namespace Go.Proofs.YtmcflglkfgnbbaaDoor
/-- The card, under a short name, for the claim. -/
theorem consFacts_holds : Rows.ConsFactsCardSaid := consFacts.card_holds
end Go.Proofs.YtmcflglkfgnbbaaDoor


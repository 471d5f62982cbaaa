/- Numbers are gone over, whatever the input: the row, and its card. -/
import Derived.ChangeSlices
import Derived.ChangeSame
import Derived.Lib.SmallJoins
import Derived.Below
import Derived.ChangeOld
import Derived.Test.YtmcflglkfgnbbaaDoorMxK
import Derived.Test.YtmcflglkfgnbbaaDoorMxL
/- Numbers are gone over, whatever the input: the row, and its card. -/
namespace Go.Proofs.YtmcflglkfgnbbaaDoor.bitsGoes
open Go Go.ChangeShapes Go.WideShapes Go.ChangeAt Go.RowKit Go.Proofs.YtmcflglkfgnbbaaDoor.Eng Go.Proofs.YtmcflglkfgnbbaaDoor.Nd Go.Proofs.YtmcflglkfgnbbaaDoor.Bl
set_option linter.unusedVariables false
theorem law (l : List Int) (y : Value) (z : Int) (W : World) (h : laidMetH Tryd.prog laidL W) (hy : Rep ⟨fun _ => none, fun _ => 0, fun _ => 0, fun k => k < W.heap.size⟩ W.heap y (.lst 1 (l.map encS_i64))) :
    Calls Tryd.prog 3 #[y, .int .i64 z] W fun e W' => e = .returned (.bool true) ∧ Below W.heap.size W W' := by
  obtain ⟨h1, h2⟩ := tabs_ok h
  refine callsIn_wide.1 (Bt.goes_in 3 (Nat.le_refl _) l y z W (fun k => k < W.heap.size) (fun k hk => hk) (fun p hp => ?_) hy)
  obtain ⟨hb, hr⟩ := h1 p hp
  exact ⟨by have hb : p.1 = 0 := hb; show p.1 < _; omega, hr⟩
set_option maxRecDepth 100000 in
theorem lifted (os : Os) (started : os.Started) (H : Type) (enc : TypeId × Value → H) :
    ReturnsInHanded {} Tryd.checked os 3 .any (fun w args => (Rows.bitsGoesSpec.pre enc Tryd.prog Tryd.f3 [] false w args ∧ laidMetH Tryd.prog laidL w) ∧ sizedMet enc Tryd.prog Tryd.f3 (OpenSpec.ofChange Rows.bitsGoesSpec) false w args)
      (Rows.bitsGoesSpec.post enc Tryd.prog Tryd.f3 false true false false) := by
  refine returnsInHanded_of_change_and (C := Tryd.checked) (X := fun w _ => laidMetH Tryd.prog laidL w) (fun _ _ _ hh h => h.of_heap hh) own started (by kernel_rfl) Tryd.func3
    (ChangeSpec.witness_shaped (enc := enc) (C := Tryd.checked) (os := os) (X := fun w _ => laidMetH Tryd.prog laidL w) false (World.doorLaid Tryd.prog 400 os) #[.slice none 0 0, .int .i64 0] 8 rfl (World.shaped_of_RefB (by kernel_rfl) (by kernel_rfl)) (by kernel_rfl) (by kernel_rfl) (by kernel_rfl) (door_met os _)) ?_
  intro W base args ds gs before hval0 hW _ _ hL _
  have hval : ∀ (j : Nat) t v, Tryd.f3.params[j]? = some t → args[j]? = some v → Value.okWide Tryd.prog W .any base t v := hval0
  have hW' := hW
  obtain ⟨p, q, hA0, hV, rfl, hfz, hnd⟩ := hW
  have hA : DataW.TrodAll enc Tryd.prog W 0 (fun _ => true) true Tryd.f3.params.toList args.toList ds p := hA0
  rw [Tryd.params3] at hA hval
  obtain ⟨v0, vs0, d0, ds0, p0, q0, hargs, rfl, rfl, h0, r0⟩ := trodAll_cons hA
  obtain ⟨v1, vs1, d1, ds1, p1, q1, rfl, rfl, rfl, h1, r1⟩ := trodAll_cons r0
  obtain ⟨rfl, rfl, rfl⟩ := trodAll_nil r1
  obtain rfl : args = #[v0, v1] := by cases args; simp_all
  obtain ⟨rfl, rfl⟩ := trodVars_none hV
  have lt0 : ∀ x ∈ p0, x.block < W.heap.size := by obtain ⟨m, hm⟩ := h0; exact DataW.trod_lt m _ _ _ hm
  obtain ⟨sa, sl, sc, rfl⟩ := okWide_slice Tryd.underlying22 (hval 0 22 v0 rfl rfl)
  obtain ⟨z, rfl, rfl, rfl, w1⟩ := open_int Tryd.underlying3 (hval 1 3 v1 rfl rfl) h1
  have ex0 : ∃ l : List Int, Rep ⟨fun _ => none, fun _ => 0, fun _ => 0, fun k => k < W.heap.size⟩ W.heap (.slice sa sl sc) (.lst 1 (l.map encS_i64)) := by
    obtain ⟨m, hm⟩ := h0
    obtain ⟨v, l, hc, hr⟩ := open_list encS_i64 0 Tryd.underlying22 (show 0 < Tryd.prog.cellsOf 3 from of_decide_eq_true (by kernel_rfl)) hm fun n cs' y hy => by
      obtain ⟨z, rfl, _⟩ := DataW.trod_int Tryd.underlying3 hy
      exact ⟨z, fun g => .cons (.v _) .nil⟩
    have c3 : Tryd.prog.cellsOf 3 = 1 := by kernel_rfl
    rw [c3] at hr
    have hc : [Value.slice sa sl sc] = [v] := hc
    cases hc
    exact ⟨l, hr⟩
  obtain ⟨l, hv⟩ := ex0
  clear hA0 hval0 hval
  refine (law l _ z W hL hv).mono fun e W' ⟨he, bel⟩ => ?_
  subst he
  exact ⟨_, rfl, _, _, _, [], _, [], hW', trodAll_mk1 (shut_bool Tryd.underlying4 _), (trodAll_cons_mk (Below.trod laidOut (by kernel_rfl) (of_decide_eq_true (by kernel_rfl)) h0 bel lt0) (trodAll_cons_mk (shut_int Tryd.underlying3 w1) trodAll_mk0)), rfl, bel.frame _, fun h => by cases h⟩
theorem row_holds : Rows.BitsGoesSaid :=
  OpenClaim.holds_of_wide 3 Tryd.f3 rfl rfl rfl rfl rfl rfl rfl ⟨rfl, rfl, rfl, rfl, rfl⟩ rfl rfl rfl rfl rfl (by kernel_rfl) Tryd.func3 (by kernel_rfl)
    (of_decide_eq_true (by kernel_rfl)) (by unfold Func.isWrapper; first | (rw [if_pos (by decide +kernel)]; kernel_rfl) | (rw [if_neg (by decide +kernel)]; exact ⟨rfl, rfl⟩))
    (fun os started H enc _ => lifted os started H enc)
theorem card_holds : Rows.BitsGoesCardSaid :=
  Claim7.holds_tied_plain_at .later [] [.data] true (true, "be00d8d0f8364c34412bf2a6ae3d97aa819a8ce61cf785b4ae2324cb221c3b5c") false
    row_holds (fun _ h => by cases h) (by kernel_rfl) (fun _ h => by cases h) bitsGoes_row_tie rfl ⟨rfl, rfl⟩ (by kernel_rfl) rfl
    (fun f fn hf hfn => by
      obtain rfl : f = 3 := Option.some.inj ((show Tryd.prog.funcNamed "keyway/keywaylaw14.BitsGoes" = some 3 by kernel_rfl).symm.trans hf) |>.symm
      obtain rfl : fn = Tryd.f3 := (Option.some.inj (Tryd.func3.symm.trans hfn)).symm
      exact ⟨by kernel_rfl, fun j t ht => by
        rw [Tryd.params3] at ht
        have hm : t ∈ [22, 3] := by simpa using Array.mem_of_getElem? ht
        have hall : ([22, 3].all fun u => !Tryd.prog.wantsStandIn u) = true := by kernel_rfl
        exact (show Tryd.prog.wantsStandIn t = false by simpa using List.all_eq_true.1 hall t hm)⟩)
    (by kernel_rfl)
end Go.Proofs.YtmcflglkfgnbbaaDoor.bitsGoes
namespace Go.Proofs.YtmcflglkfgnbbaaDoor
/-- The card, under a short name, for the claim. -/
theorem bitsGoes_holds : Rows.BitsGoesCardSaid := bitsGoes.card_holds
end Go.Proofs.YtmcflglkfgnbbaaDoor


/- Which functions may be called with which variables is told as the document tells it, whatever the input: the row. No condition on the input. -/
import Derived.Test.YtgdnomnealjdlaaRows
import Derived.WalkKit
import Derived.ProofKit
import Derived.OpenShut
import Derived.ShutString
import Derived.ChangeOld
import Derived.ChangeSlices
import Derived.Lib.SmallJoins
import Derived.Below
import Derived.SizedLaws
import Derived.Test.YtgdnomnealjdlaaMfR
/- Which functions may be called with which variables is told as the document tells it, whatever the input: the row. No condition on the input. -/
namespace Go.Proofs.Ytgdnomnealjdlaa.flowFits
open Go Go.ChangeShapes Go.WideShapes Go.ChangeAt Go.RowKit Go.Proofs.Ytgdnomnealjdlaa.Eng Go.Proofs.Ytgdnomnealjdlaa.Fl
open Go.ChangeMaps (open_string shut_string)
set_option linter.unusedVariables false
theorem own : ownKnob Try.prog.godebug = none := by kernel_rfl
theorem laidOut : laidOutB Try.prog = true := by kernel_rfl
theorem repR_ints {g : Gh} {H : Array Go.Obj} : ∀ (l : List Int) (xs : List Value), (∀ (i : Nat) (z : Int), l[i]? = some z → xs[i]? = some (Value.int .i64 z)) → RepR g H xs 1 (l.map fun z => [SV.v (.int .i64 z)])
  | [], xs, _ => .nil
  | z :: l, [], h => by have := h 0 z rfl; simp at this
  | z :: l, x :: xs, h => by
    have h0 := h 0 z rfl
    simp only [List.getElem?_cons_zero, Option.some.injEq] at h0
    subst h0
    exact RepR.cons (xs := [.int .i64 z]) (ys := xs) rfl (.cons (.v _) .nil) (repR_ints l xs fun i y hy => by
      have := h (i + 1) y (by simpa using hy)
      simpa using this)
theorem rep_ints {W : World} {a : Addr} {len cap : Nat} {zs : List Int} (hl : len ≤ cap) (hz : zs.length = cap) (hpos : 0 < len) (hcell : ∀ i, i < zs.length → W.cell? (a.add i) = some (.int .i64 (zs.getD i 0))) :
    ∃ b : Nat, b < W.heap.size ∧ Rep (clo fun k => k = b) W.heap (.slice (some a) len cap) (.lst 1 ((zs.take len).map fun z => [SV.v (.int .i64 z)])) := by
  obtain ⟨b, off, inner⟩ := a
  have h0 := hcell 0 (by omega)
  have ha0 : (⟨b, off, inner⟩ : Addr).add 0 = ⟨b, off, inner⟩ := by unfold Addr.add; simp
  rw [ha0] at h0
  cases inner with
  | some i =>
    cases hb : W.heap[b]? with
    | none => simp [World.cell?, hb] at h0
    | some o => cases o <;> simp [World.cell?, hb] at h0
  | none =>
    cases hb : W.heap[b]? with
    | none => simp [World.cell?, hb] at h0
    | some o =>
      have hlt := (Array.getElem?_eq_some_iff.1 hb).1
      cases o with
      | cells cs T fr =>
        have hc : ∀ i, i < zs.length → cs[off + i]? = some (.int .i64 (zs.getD i 0)) := fun i hi => by
          have := hcell i hi
          rw [addr_add, cell_of hb] at this
          exact this
        have hsz : off + cap ≤ cs.size := by
          have := (Array.getElem?_eq_some_iff.1 (hc (cap - 1) (by omega))).1
          omega
        refine ⟨b, hlt, .lst (by rw [List.length_map, List.length_take]; omega) rfl hb hl (by omega) (repR_ints _ _ fun i z hi => ?_)⟩
        have hil : i < (zs.take len).length := (List.getElem?_eq_some_iff.1 hi).1
        rw [List.length_take] at hil
        rw [List.getElem?_take_of_lt (by omega)] at hi
        have := hc i (by omega)
        rw [List.getD_eq_getElem?_getD, hi] at this
        simpa [List.getElem?_drop] using this
      | _ => simp [World.cell?, hb] at h0
theorem law (s : ByteArray) (f : Int) (F : List Int) (v : Value) (b : Nat) (W : World) (hb : 0 < F.length → b < W.heap.size) (hv : Rep (clo fun k => k = b ∧ 0 < F.length) W.heap v (.lst 1 (F.map fun z => [SV.v (.int .i64 z)]))) :
    Calls Try.prog 4 #[.string s, .int .i64 f, v] W fun e W' => e = .returned (.bool true) ∧ Below W.heap.size W W' := by
  have key : HCall Try.prog 4 [] [.v (.string s), .v (.int .i64 f), .lst 1 (F.map fun z => [SV.v (.int .i64 z)])] [] (.v (.bool true)) := (sLaw4_ok.ok [] [.v (.string s), .v (.int .i64 f), .lst .i64 F] [] (.v (.bool true)) rfl rfl rfl rfl).1
  refine (key (clo fun k => k = b ∧ 0 < F.length) W [.string s, .int .i64 f, v] ⟨fun p hp => by simp [tabs] at hp, fun k hk => ?_, fun i o hi => by simp at hi, fun _ _ => rfl, fun i j o o' b hi => by simp at hi⟩ (.cons (.v _) (.cons (.v _) (.cons hv .nil)))).mono fun e W' ⟨v, g', he, hv, hp⟩ => ?_
  · obtain ⟨rfl, h⟩ := hk
    exact hb h
  · obtain rfl := rep_v hv
    exact ⟨he, ⟨hp.os, hp.tape, hp.output, hp.hsize, fun k hk => hp.base k hk fun ⟨i, o, hi, _⟩ => by simp at hi⟩⟩
set_option maxRecDepth 100000 in
theorem lifted (os : Os) (started : os.Started) (H : Type) (enc : TypeId × Value → H) :
    ReturnsInHanded {} Try.checked os 4 .any (Rows.flowFitsSpec.pre6 enc Try.prog Try.f4 Rows.flowFitsRow.domain false) (Rows.flowFitsSpec.post enc Try.prog Try.f4 false true false false) := by
  refine returnsInHanded_of_change_sized (C := Try.checked) own started (by kernel_rfl) Try.func4
    (ChangeSpec.witness6 (enc := enc) (C := Try.checked) false ⟨#[], #[.string ByteArray.empty, .int .i64 0, .slice none 0 0], []⟩ 8 (by kernel_rfl) (by kernel_rfl) (by kernel_rfl) (by kernel_rfl)) ?_
  intro W base args ds gs before hval0 hW hcnd hsz0 _
  have hsz : (DataW.weightsEach Try.prog (Try.f4.params.toList ++ Rows.flowFitsSpec.plain.varTypes Try.prog) (ds ++ gs)).all (· ≤ reachBytes) = true := hsz0
  have hval : ∀ (j : Nat) t v, Try.f4.params[j]? = some t → args[j]? = some v → Value.okWide Try.prog W .any base t v := hval0
  have hW' := hW
  obtain ⟨p, q, hA0, hV, rfl, hfz, hnd⟩ := hW
  have hA : DataW.TrodAll enc Try.prog W 0 (fun _ => true) true Try.f4.params.toList args.toList ds p := hA0
  rw [Try.params4] at hA hval hsz
  obtain ⟨v0, vs0, d0, ds0, p0, q0, hargs, rfl, rfl, h0, r0⟩ := trodAll_cons hA
  obtain ⟨v1, vs1, d1, ds1, p1, q1, rfl, rfl, rfl, h1, r1⟩ := trodAll_cons r0
  obtain ⟨v2, vs2, d2, ds2, p2, q2, rfl, rfl, rfl, h2, r2⟩ := trodAll_cons r1
  obtain ⟨rfl, rfl, rfl⟩ := trodAll_nil r2
  obtain rfl : args = #[v0, v1, v2] := by cases args; simp_all
  obtain ⟨rfl, rfl⟩ := trodVars_none hV
  obtain ⟨a0, rfl, rfl, rfl, y0⟩ := open_string Try.underlying9 (hval 0 9 v0 rfl rfl) h0
  obtain ⟨a1, rfl, rfl, rfl, w1⟩ := open_int Try.underlying3 (hval 1 3 v1 rfl rfl) h1
  have lt2 : ∀ x ∈ p2, x.block < W.heap.size := by obtain ⟨m, hm⟩ := h2; exact DataW.trod_lt m _ _ _ hm
  have ex : ∃ (F : List Int) (b : Nat), (0 < F.length → b < W.heap.size) ∧ Rep (clo fun k => k = b ∧ 0 < F.length) W.heap v2 (.lst 1 (F.map fun z => [SV.v (.int .i64 z)])) := by
    obtain ⟨aa, al, ac, rfl⟩ := okWide_slice Try.underlying22 (hval 2 22 v2 rfl rfl)
    obtain ⟨m, hm⟩ := h2
    rcases open_ints Try.underlying22 Try.underlying3 (by kernel_rfl) hm with ⟨hc, hx⟩ | ⟨a, len, cap, zs, hc, hbase, hl, hml, hzl, hx, hcell, hwf⟩
    · have hc : [Value.slice aa al ac] = [Value.slice none 0 0] := hc
      injection hc with hc _
      rw [hc]
      exact ⟨[], 0, fun h => absurd h (by decide), .nil⟩
    · have hc : [Value.slice aa al ac] = [Value.slice (some a) len cap] := hc
      injection hc with hc _
      rw [hc]
      have hzl : zs.length = cap := hzl
      rcases Nat.eq_zero_or_pos len with h00 | hpos
      · subst h00
        exact ⟨[], 0, fun h => absurd h (by decide), .nil⟩
      · obtain ⟨b, hb, hrep⟩ := rep_ints hl hzl hpos hcell
        have hF : (zs.take len).length = len := by rw [List.length_take]; omega
        have hg : GExt (clo fun k => k = b) (clo fun k => k = b ∧ 0 < (zs.take len).length) := ⟨fun _ _ h => (by cases h), fun k hk => ⟨hk, by rw [hF]; exact hpos⟩⟩
        exact ⟨zs.take len, b, fun _ => hb, hrep.ext hg (Ext.refl _ _)⟩
  obtain ⟨F, b, hb, hv⟩ := ex
  refine (law a0 a1 F v2 b W hb hv).mono fun e W' ⟨he, bel⟩ => ?_
  subst he
  exact ⟨_, rfl, _, _, _, [], _, [], hW', trodAll_mk1 (shut_bool Try.underlying4 _), (trodAll_cons_mk (shut_string Try.underlying9 y0) (trodAll_cons_mk (shut_int Try.underlying3 w1) (trodAll_cons_mk (Below.trod laidOut (by kernel_rfl) (of_decide_eq_true (by kernel_rfl)) h2 bel lt2) trodAll_mk0))), rfl, bel.frame _, fun h => by cases h⟩
theorem over : Rows.flowFitsRow.holds Try.pinned (OpenSpec.ofChange Rows.flowFitsSpec) :=
  OpenClaim.holds_of_wide 4 Try.f4 rfl rfl rfl rfl rfl rfl rfl ⟨rfl, rfl, rfl, rfl, rfl⟩ rfl rfl rfl rfl rfl (by kernel_rfl) Try.func4 (by kernel_rfl)
    (of_decide_eq_true (by kernel_rfl)) (by unfold Func.isWrapper; first | (rw [if_pos (by decide +kernel)]; kernel_rfl) | (rw [if_neg (by decide +kernel)]; exact ⟨rfl, rfl⟩))
    (fun os started H enc _ => lifted os started H enc)
theorem proved : Rows.FlowFitsSaid := over
end Go.Proofs.Ytgdnomnealjdlaa.flowFits
namespace Go.Proofs.Ytgdnomnealjdlaa
/-- The row, under a short name, for the claim. -/
theorem flowFits_holds : Rows.FlowFitsSaid := flowFits.proved
end Go.Proofs.Ytgdnomnealjdlaa


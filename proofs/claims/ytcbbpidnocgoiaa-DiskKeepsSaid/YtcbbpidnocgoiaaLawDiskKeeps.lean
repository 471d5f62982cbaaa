/- What was flushed is there: the row. -/
import Derived.Test.YtcbbpidnocgoiaaRows
import Derived.Test.YtcbbpidnocgoiaaDkK
import Derived.WalkKit
import Derived.ProofKit
import Derived.OpenShut
import Derived.ShutString
import Derived.ChangeOld
import Derived.ChangeSlices
import Derived.Lib.SmallJoins
import Derived.Below
import Derived.SizedLaws
namespace Go.Proofs.Ytcbbpidnocgoiaa.diskKeeps
open Go Go.ChangeShapes Go.WideShapes Go.ChangeAt Go.RowKit Go.Proofs.Ytcbbpidnocgoiaa.Eng Go.Proofs.Ytcbbpidnocgoiaa.Dk
open Go.ChangeMaps (open_string shut_string)
set_option linter.unusedVariables false
theorem own : ownKnob Try.prog.godebug = none := by kernel_rfl
theorem laidOut : laidOutB Try.prog = true := by kernel_rfl
theorem repR_ints {g : Gh} {H : Array Go.Obj} : ∀ (l : List Int) (xs : List Value), (∀ (i : Nat) (z : Int), l[i]? = some z → xs[i]? = some (Value.int .i64 z)) → RepR g H xs 1 (l.map fun z => [SV.v (.int .i64 z)])
  | [], xs, _ => .nil
  | z :: l, [], h => by have := h 0 z rfl; simp at this
  | z :: l, x :: xs, h => by
    have h0 := h 0 z rfl
    simp only [List.getElem?_cons_zero, Option.some.injEq] at h0
    subst h0
    exact RepR.cons (xs := [.int .i64 z]) (ys := xs) rfl (.cons (.v _) .nil) (repR_ints l xs fun i y hy => by
      have := h (i + 1) y (by simpa using hy)
      simpa using this)
theorem rep_ints {W : World} {a : Addr} {len cap : Nat} {zs : List Int} (hl : len ≤ cap) (hz : zs.length = cap) (hpos : 0 < len) (hcell : ∀ i, i < zs.length → W.cell? (a.add i) = some (.int .i64 (zs.getD i 0))) :
    ∃ b : Nat, b < W.heap.size ∧ Rep (clo fun k => k = b) W.heap (.slice (some a) len cap) (.lst 1 ((zs.take len).map fun z => [SV.v (.int .i64 z)])) := by
  obtain ⟨b, off, inner⟩ := a
  have h0 := hcell 0 (by omega)
  have ha0 : (⟨b, off, inner⟩ : Addr).add 0 = ⟨b, off, inner⟩ := by unfold Addr.add; simp
  rw [ha0] at h0
  cases inner with
  | some i =>
    cases hb : W.heap[b]? with
    | none => simp [World.cell?, hb] at h0
    | some o => cases o <;> simp [World.cell?, hb] at h0
  | none =>
    cases hb : W.heap[b]? with
    | none => simp [World.cell?, hb] at h0
    | some o =>
      have hlt := (Array.getElem?_eq_some_iff.1 hb).1
      cases o with
      | cells cs T fr =>
        have hc : ∀ i, i < zs.length → cs[off + i]? = some (.int .i64 (zs.getD i 0)) := fun i hi => by
          have := hcell i hi
          rw [addr_add, cell_of hb] at this
          exact this
        have hsz : off + cap ≤ cs.size := by
          have := (Array.getElem?_eq_some_iff.1 (hc (cap - 1) (by omega))).1
          omega
        refine ⟨b, hlt, .lst (by rw [List.length_map, List.length_take]; omega) rfl hb hl (by omega) (repR_ints _ _ fun i z hi => ?_)⟩
        have hil : i < (zs.take len).length := (List.getElem?_eq_some_iff.1 hi).1
        rw [List.length_take] at hil
        rw [List.getElem?_take_of_lt (by omega)] at hi
        have := hc i (by omega)
        rw [List.getD_eq_getElem?_getD, hi] at this
        simpa [List.getElem?_drop] using this
      | _ => simp [World.cell?, hb] at h0
theorem low (n : Int) (m : Nat) (hm : m < 1024) : ∃ q : Nat, q ≤ m ∧ IntKind.wrap .i64 (((BitVec.ofInt 64 n &&& BitVec.ofInt 64 (m : Int))).toNat : Nat) = (q : Int) := by
  refine ⟨((BitVec.ofInt 64 n &&& BitVec.ofInt 64 (m : Int))).toNat, ?_, ?_⟩
  · rw [BitVec.toNat_and]
    refine Nat.le_trans Nat.and_le_right ?_
    rw [BitVec.toNat_ofInt]
    omega
  · have : ((BitVec.ofInt 64 n &&& BitVec.ofInt 64 (m : Int))).toNat ≤ 1024 := by
      rw [BitVec.toNat_and]
      refine Nat.le_trans Nat.and_le_right ?_
      rw [BitVec.toNat_ofInt]
      omega
    exact wrap_i64 (by omega) (by omega)
/-- The law's call, however its argument's numbers are told. -/
theorem law (n c : Int) (s : ByteArray) (hs : s.size ≤ 140737488351232) (F : List Int) (hB : F.length * 8 ≤ 140737488355328) (v : Value) (b : Nat) (W : World) (hb : 0 < F.length → b < W.heap.size) (hv : Rep (clo fun k => k = b ∧ 0 < F.length) W.heap v (.lst 1 (F.map fun z => [SV.v (.int .i64 z)]))) :
    Calls Try.prog 3 #[.int .i64 n, .string s, .agg #[.int .i64 c, v]] W fun e W' => e = .returned (.bool true) ∧ Below W.heap.size W W' := by
  obtain ⟨q, hq, eq⟩ := low n 7 (by decide)
  obtain ⟨k, hk, ek⟩ := low c 3 (by decide)
  have h7 : abin .and (.int .i64 n) (.int .i64 7) = some (.int .i64 (q : Int)) := by rw [← eq]; rfl
  have h3 : abin .and (.int .i64 c) (.int .i64 3) = some (.int .i64 (k : Int)) := by rw [← ek]; rfl
  have key : HCall Try.prog 3 [] [.v (.int .i64 n), .v (.string s), .agg [.v (.int .i64 c), .lst 1 (F.map fun z => [SV.v (.int .i64 z)])]] [] (.v (.bool true)) := by
    have hk4 : k = 0 ∨ k = 1 ∨ k = 2 ∨ k = 3 := by omega
    cases F with
    | nil =>
      rcases hk4 with rfl | rfl | rfl | rfl
      · exact keeps_5_0 n c s q (by omega) h7 h3 hs
      · exact keeps_5_1 n c s q (by omega) h7 h3 hs
      · exact keeps_5_2 n c s q (by omega) h7 h3 hs
      · exact keeps_5_3 n c s q (by omega) h7 h3 hs
    | cons x F =>
      rcases hk4 with rfl | rfl | rfl | rfl
      · exact keeps_6_0 n c s (x :: F) (by simp) hB q (by omega) h7 h3 hs
      · exact keeps_6_1 n c s (x :: F) (by simp) hB q (by omega) h7 h3 hs
      · exact keeps_6_2 n c s (x :: F) (by simp) hB q (by omega) h7 h3 hs
      · exact keeps_6_3 n c s (x :: F) (by simp) hB q (by omega) h7 h3 hs
  refine (key (clo fun k => k = b ∧ 0 < F.length) W [.int .i64 n, .string s, .agg #[.int .i64 c, v]] ⟨fun p hp => by simp [tabs] at hp, fun k hk => ?_, fun i o hi => by simp at hi, fun _ _ => rfl, fun i j o o' b hi => by simp at hi⟩ (.cons (.v _) (.cons (.v _) (.cons (.agg (.cons (.v _) (.cons hv .nil))) .nil)))).mono fun e W' ⟨v, g', he, hv, hp⟩ => ?_
  · obtain ⟨rfl, h⟩ := hk
    exact hb h
  · obtain rfl := rep_v hv
    exact ⟨he, ⟨hp.os, hp.tape, hp.output, hp.hsize, fun k hk => hp.base k hk fun ⟨i, o, hi, _⟩ => by simp at hi⟩⟩
set_option maxRecDepth 100000 in
theorem lifted (os : Os) (started : os.Started) (H : Type) (enc : TypeId × Value → H) :
    ReturnsInHanded {} Try.checked os 3 .any (Rows.diskKeepsSpec.pre6 enc Try.prog Try.f3 Rows.diskKeepsRow.domain false) (Rows.diskKeepsSpec.post enc Try.prog Try.f3 false true false false) := by
  refine returnsInHanded_of_change_sized (C := Try.checked) own started (by kernel_rfl) Try.func3
    (ChangeSpec.witness6 (enc := enc) (C := Try.checked) false ⟨#[], #[.int .i64 0, .string ByteArray.empty, .agg #[.int .i64 0, .slice none 0 0]], []⟩ 8 (by kernel_rfl) (by kernel_rfl) (by kernel_rfl) (by kernel_rfl)) ?_
  intro W base args ds gs before hval0 hW hcnd hsz0 _
  have hsz : (DataW.weightsEach Try.prog (Try.f3.params.toList ++ Rows.diskKeepsSpec.plain.varTypes Try.prog) (ds ++ gs)).all (· ≤ reachBytes) = true := hsz0
  have hval : ∀ (j : Nat) t v, Try.f3.params[j]? = some t → args[j]? = some v → Value.okWide Try.prog W .any base t v := hval0
  have hW' := hW
  obtain ⟨p, q, hA0, hV, rfl, hfz, hnd⟩ := hW
  have hA : DataW.TrodAll enc Try.prog W 0 (fun _ => true) true Try.f3.params.toList args.toList ds p := hA0
  rw [Try.params3] at hA hval hsz
  obtain ⟨v0, vs0, d0, ds0, p0, q0, hargs, rfl, rfl, h0, r0⟩ := trodAll_cons hA
  obtain ⟨v1, vs1, d1, ds1, p1, q1, rfl, rfl, rfl, h1, r1⟩ := trodAll_cons r0
  obtain ⟨v2, vs2, d2, ds2, p2, q2, rfl, rfl, rfl, h2, r2⟩ := trodAll_cons r1
  obtain ⟨rfl, rfl, rfl⟩ := trodAll_nil r2
  obtain rfl : args = #[v0, v1, v2] := by cases args; simp_all
  obtain ⟨rfl, rfl⟩ := trodVars_none hV
  obtain ⟨a0, rfl, rfl, rfl, w0⟩ := open_int Try.underlying3 (hval 0 3 v0 rfl rfl) h0
  obtain ⟨a1, rfl, rfl, rfl, y1⟩ := open_string Try.underlying9 (hval 1 9 v1 rfl rfl) h1
  have z1 : a1.size ≤ 140737488351232 := by
    have z := sized_string hsz (j := 1) (t := 9) rfl rfl
    rw [Array.length_toList] at z
    exact z
  have lt2 : ∀ x ∈ p2, x.block < W.heap.size := by obtain ⟨m, hm⟩ := h2; exact DataW.trod_lt m _ _ _ hm
  obtain ⟨c0, c1, e0, e1, m, rfl, hd2, hp2, t0, t1⟩ := Joins.open_agg2 (f0 := (match (Try.prog.underlying 24).get (by kernel_rfl) with | .struct fs => fs[0]! | _ => default)) (f1 := (match (Try.prog.underlying 24).get (by kernel_rfl) with | .struct fs => fs[1]! | _ => default)) (by kernel_rfl) (by kernel_rfl) (by kernel_rfl) (hval 2 24 v2 rfl rfl) h2
  have t0' : DataW.trod enc Try.prog W 0 (fun _ => true) true m 3 [c0] = some e0 := t0
  have t1' : DataW.trod enc Try.prog W 0 (fun _ => true) true m 22 [c1] = some e1 := t1
  obtain ⟨cc, k1, k2, _⟩ := DataW.trod_int Try.underlying3 t0'
  simp only [List.cons.injEq, and_true] at k1
  subst k1
  have ex : ∃ (F : List Int) (b : Nat), F.length * 8 ≤ 140737488355328 ∧ (0 < F.length → b < W.heap.size) ∧ Rep (clo fun k => k = b ∧ 0 < F.length) W.heap c1 (.lst 1 (F.map fun z => [SV.v (.int .i64 z)])) := by
    rcases open_ints Try.underlying22 Try.underlying3 (by kernel_rfl) t1' with ⟨hc, hx⟩ | ⟨a, len, cap, zs, hc, hbase, hl, hml, hzl, hx, hcell, hwf⟩
    · simp only [List.cons.injEq, and_true] at hc
      subst hc
      exact ⟨[], 0, by decide, fun h => absurd h (by decide), .nil⟩
    · simp only [List.cons.injEq, and_true] at hc
      subst hc
      have hzl : zs.length = cap := hzl
      rcases Nat.eq_zero_or_pos len with h00 | hpos
      · subst h00
        exact ⟨[], 0, by decide, fun h => absurd h (by decide), .nil⟩
      · obtain ⟨b, hb, hrep⟩ := rep_ints hl hzl hpos hcell
        have hF : (zs.take len).length = len := by rw [List.length_take]; omega
        have hBy : len * 8 ≤ 140737488355328 := by
          subst hd2
          have hw := List.all_eq_true.1 hsz _ (DataW.weights_mem_each (j := 2) (t := 24) (d := .agg [e0.1, e1.1]) rfl rfl (((lits (H := H) .i64 (zs.take len)).length + (lits (H := H) .i64 (zs.drop len)).length) * Try.prog.bytesOf 3) (by
            rw [hx]
            simp [DataW.weights, DataW.weightsEach, Try.underlying24, Try.underlying22]))
          have hb8 : Try.prog.bytesOf 3 = 8 := by kernel_rfl
          have hr : reachBytes < 2 ^ 47 := reachBytes_lt
          simp only [decide_eq_true_eq, hb8] at hw
          simp [lits] at hw
          omega
        have hg : GExt (clo fun k => k = b) (clo fun k => k = b ∧ 0 < (zs.take len).length) := ⟨fun _ _ h => (by cases h), fun k hk => ⟨hk, by rw [hF]; exact hpos⟩⟩
        exact ⟨zs.take len, b, by rw [hF]; exact hBy, fun _ => hb, hrep.ext hg (Ext.refl _ _)⟩
  obtain ⟨F, b, hB, hb, hv⟩ := ex
  refine (law a0 cc a1 z1 F hB c1 b W hb hv).mono fun e W' ⟨he, bel⟩ => ?_
  subst he
  exact ⟨_, rfl, _, _, _, [], _, [], hW', trodAll_mk1 (shut_bool Try.underlying4 _), (trodAll_cons_mk (shut_int Try.underlying3 w0) (trodAll_cons_mk (shut_string Try.underlying9 y1) (trodAll_cons_mk (Below.trod laidOut (by kernel_rfl) (of_decide_eq_true (by kernel_rfl)) h2 bel lt2) trodAll_mk0))), rfl, bel.frame _, fun h => by cases h⟩
theorem over : Rows.diskKeepsRow.holds Try.pinned (OpenSpec.ofChange Rows.diskKeepsSpec) :=
  OpenClaim.holds_of_wide 3 Try.f3 rfl rfl rfl rfl rfl rfl rfl ⟨rfl, rfl, rfl, rfl, rfl⟩ rfl rfl rfl rfl rfl (by kernel_rfl) Try.func3 (by kernel_rfl)
    (of_decide_eq_true (by kernel_rfl)) (by unfold Func.isWrapper; first | (rw [if_pos (by decide +kernel)]; kernel_rfl) | (rw [if_neg (by decide +kernel)]; exact ⟨rfl, rfl⟩))
    (fun os started H enc _ => lifted os started H enc)
theorem proved : Rows.DiskKeepsSaid := over
#print axioms proved
end Go.Proofs.Ytcbbpidnocgoiaa.diskKeeps
namespace Go.Proofs.Ytcbbpidnocgoiaa
/-- The row, under a short name, for the claim. -/
theorem diskKeeps_holds : Rows.DiskKeepsSaid := diskKeeps.proved
end Go.Proofs.Ytcbbpidnocgoiaa


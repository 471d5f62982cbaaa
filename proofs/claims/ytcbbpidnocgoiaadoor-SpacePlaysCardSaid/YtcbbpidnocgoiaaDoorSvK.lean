/- Places played: the row, and its card. -/
import Derived.Test.YtcbbpidnocgoiaaDoorSvJ
import Derived.Test.YtcbbpidnocgoiaaDoorSpF
import Derived.ChangeSlices
import Derived.ChangeSame
import Derived.Lib.SmallJoins
import Derived.Below
import Derived.ChangeOld
namespace Go.Proofs.YtcbbpidnocgoiaaDoor.SvPlays
open Go Go.ChangeShapes Go.WideShapes Go.ChangeAt Go.RowKit Go.Proofs.YtcbbpidnocgoiaaDoor.Eng Go.Proofs.YtcbbpidnocgoiaaDoor.Sp Go.Proofs.YtcbbpidnocgoiaaDoor.Sv
set_option linter.unusedVariables false
theorem repR_acts {g : Gh} {H : Array Go.Obj} : ∀ (l : List R29) (xs : List Value), (∀ (i : Nat) (z : R29), l[i]? = some z → xs[2 * i]? = some (Value.int .i64 z.What) ∧ xs[2 * i + 1]? = some (Value.int .i64 z.At)) → RepR g H xs 2 (l.map encS_t29)
  | [], xs, _ => .nil
  | z :: l, [], h => by have := (h 0 z rfl).1; simp at this
  | z :: l, [x], h => by have := (h 0 z rfl).2; simp at this
  | z :: l, x :: y :: xs, h => by
    have h0 := h 0 z rfl
    simp only [Nat.mul_zero, List.getElem?_cons_zero, Nat.zero_add, List.getElem?_cons_succ, Option.some.injEq] at h0
    obtain ⟨rfl, rfl⟩ := h0
    exact RepR.cons (xs := [.int .i64 z.What, .int .i64 z.At]) (ys := xs) rfl (.cons (.v _) (.cons (.v _) .nil)) (repR_acts l xs fun i w hw => by
      have := h (i + 1) w (by simpa using hw)
      rw [show 2 * (i + 1) = 2 * i + 1 + 1 by omega] at this
      simpa using this)
def numAt (W : World) (a : Addr) (j : Nat) : Int := match W.cell? (a.add j) with
  | some (.int _ n) => n
  | _ => 0
def actAt (W : World) (a : Addr) (i : Nat) : R29 := ⟨numAt W a (2 * i), numAt W a (2 * i + 1)⟩
theorem laidOut : laidOutB Tryd.prog = true := by kernel_rfl
theorem add_add' (a : Addr) (i j : Nat) : (a.add i).add j = a.add (i + j) := Addr.add_add a i j
theorem numAt_of {W : World} {a : Addr} {j : Nat} {n : Int} (h : W.cell? (a.add j) = some (.int .i64 n)) : W.cell? (a.add j) = some (.int .i64 (numAt W a j)) := by
  unfold numAt
  rw [h]
theorem rep_acts {W : World} {a : Addr} {len cap : Nat} (hl : len ≤ cap) (hpos : 0 < len) (hcell : ∀ j, j < cap * 2 → W.cell? (a.add j) = some (.int .i64 (numAt W a j))) :
    ∃ b : Nat, b < W.heap.size ∧ ∀ g : Gh, g.F b → Rep g W.heap (.slice (some a) len cap) (.lst 2 (((List.range len).map (actAt W a)).map encS_t29)) := by
  obtain ⟨b, off, inner⟩ := a
  have h0 := hcell 0 (by omega)
  have ha0 : (⟨b, off, inner⟩ : Addr).add 0 = ⟨b, off, inner⟩ := by unfold Addr.add; simp
  rw [ha0] at h0
  cases inner with
  | some i =>
    cases hb : W.heap[b]? with
    | none => simp [World.cell?, hb] at h0
    | some o => cases o <;> simp [World.cell?, hb] at h0
  | none =>
    cases hb : W.heap[b]? with
    | none => simp [World.cell?, hb] at h0
    | some o =>
      have hlt := (Array.getElem?_eq_some_iff.1 hb).1
      cases o with
      | cells cs T fr =>
        have hc : ∀ j, j < cap * 2 → cs[off + j]? = some (.int .i64 (numAt W ⟨b, off, none⟩ j)) := fun j hj => by
          have := hcell j hj
          rw [addr_add, cell_of hb] at this
          exact this
        have hsz : off + cap * 2 ≤ cs.size := by
          have := (Array.getElem?_eq_some_iff.1 (hc (cap * 2 - 1) (by omega))).1
          omega
        refine ⟨b, hlt, fun g hF => .lst (by rw [List.length_map, List.length_map, List.length_range]) hF hb hl hsz (repR_acts _ _ fun i z hi => ?_)⟩
        rw [List.getElem?_map, Option.map_eq_some_iff] at hi
        obtain ⟨k, hk, rfl⟩ := hi
        obtain ⟨hk1, hk2⟩ := List.getElem?_eq_some_iff.1 hk
        rw [List.length_range] at hk1
        rw [List.getElem_range] at hk2
        subst hk2
        rw [List.getElem?_drop, List.getElem?_drop, Array.getElem?_toList, Array.getElem?_toList]
        exact ⟨hc _ (by omega), by rw [hc _ (by omega)]; rfl⟩
      | _ => simp [World.cell?, hb] at h0
/-- The law's call, however its argument's numbers are told. -/
theorem law (n : Int) (acts : List R29) (v : Value) (W : World) (h : laidMetH Tryd.prog laidL W) (hv : Rep ⟨fun _ => none, fun _ => 0, fun _ => 0, fun k => k < W.heap.size⟩ W.heap v (.lst 2 (acts.map encS_t29))) :
    Calls Tryd.prog 3 #[.int .i64 n, v] W fun e W' => e = .returned (.bool true) ∧ Below W.heap.size W W' := by
  obtain ⟨h1, h2⟩ := tabs_ok h
  have key : HCall Tryd.prog 3 [] [.v (.int .i64 n), .lst 2 (acts.map encS_t29)] [] (.v (.bool true)) := (sLaw_ok.ok [] [.v (.int .i64 n), .lst .t29 acts] [] (.v (.bool true)) rfl rfl rfl rfl).1
  refine (key ⟨fun _ => none, fun _ => 0, fun _ => 0, fun k => k < W.heap.size⟩ W [.int .i64 n, v] ⟨fun p hp => ?_, fun k hk => hk, fun i o hi => by simp at hi, fun _ _ => rfl, fun i j o o' b hi => by simp at hi⟩ (.cons (.v _) (.cons hv .nil))).mono fun e W' ⟨v, g', he, hv, hp⟩ => ?_
  · obtain ⟨hb, hr⟩ := h1 p hp
    exact ⟨by have hb : p.1 = 0 := hb; show p.1 < _; omega, hr⟩
  · obtain rfl := rep_v hv
    exact ⟨he, ⟨hp.os, hp.tape, hp.output, hp.hsize, fun k hk => hp.base k hk fun ⟨i, o, hi, _⟩ => by simp at hi⟩⟩
/-- What is told of the acts, read from the data. -/
theorem open_acts {H : Type} {enc : TypeId × Value → H} {W : World} {m : Nat} {cs : List Value} {x : DataW H × List MemPlace} (h : DataW.trod enc Tryd.prog W 0 (fun _ => true) true m 22 cs = some x) :
    cs = [.slice none 0 0] ∨ ∃ (a : Addr) (len cap : Nat), cs = [.slice (some a) len cap] ∧ len ≤ cap ∧ ∀ j, j < cap * 2 → W.cell? (a.add j) = some (.int .i64 (numAt W a j)) := by
  have c29 : Tryd.prog.cellsOf 29 = 2 := by kernel_rfl
  have c3 : Tryd.prog.cellsOf 3 = 1 := by kernel_rfl
  rcases DataW.trod_slice Tryd.underlying22 h with ⟨h0, _⟩ | ⟨a, len, cap, elems, rest, n, _, rfl, _, hb, hl, hm, hlen, hel, hsp, _⟩
  · exact .inl h0
  refine .inr ⟨a, len, cap, rfl, hl, fun j hj => ?_⟩
  obtain ⟨hrl, hr⟩ := hsp rfl
  have hy : ∃ y, (W.cells? 0 (a.add (j / 2 * Tryd.prog.cellsOf 29)) (Tryd.prog.cellsOf 29)).bind (DataW.trod enc Tryd.prog W 0 (fun _ => true) true n 29) = some y := by
    by_cases hi : j / 2 < len
    · rw [hel _ hi]
      exact ⟨_, List.getElem?_eq_getElem (by omega)⟩
    · have := hr (j / 2 - len) (by omega)
      rw [show len + (j / 2 - len) = j / 2 by omega] at this
      rw [this]
      exact ⟨_, List.getElem?_eq_getElem (by omega)⟩
  obtain ⟨y, hy⟩ := hy
  rw [c29, Option.bind_eq_some_iff] at hy
  obtain ⟨cs', hcs, hy⟩ := hy
  obtain ⟨y0, y1, n', _, hlen', e0, e1⟩ := trod_struct2 Tryd.underlying29 hy
  rw [c29] at hlen'
  have e0' : DataW.trod enc Tryd.prog W 0 (fun _ => true) true n' 3 ((cs'.drop 0).take (Tryd.prog.cellsOf 3)) = some y0 := e0
  have e1' : DataW.trod enc Tryd.prog W 0 (fun _ => true) true n' 3 ((cs'.drop 1).take (Tryd.prog.cellsOf 3)) = some y1 := e1
  rw [c3] at e0' e1'
  obtain ⟨p, k1, _⟩ := DataW.trod_int Tryd.underlying3 e0'
  obtain ⟨q, k2, _⟩ := DataW.trod_int Tryd.underlying3 e1'
  match cs', hlen' with
  | [u, v], _ =>
    simp only [List.drop_zero, List.take_succ_cons, List.take_zero, List.cons.injEq, and_true, List.drop_succ_cons] at k1 k2
    subst k1 k2
    have hc := (World.cells?_some hcs).2.2
    have hj2 : j = j / 2 * 2 + j % 2 := by omega
    have h2 : j % 2 = 0 ∨ j % 2 = 1 := by omega
    rcases h2 with h2 | h2
    · have := hc 0 (by omega)
      rw [add_add', show j / 2 * 2 + 0 = j by omega] at this
      exact numAt_of this
    · have := hc 1 (by omega)
      rw [add_add', show j / 2 * 2 + 1 = j by omega] at this
      exact numAt_of this
set_option maxRecDepth 100000 in
theorem lifted (os : Os) (started : os.Started) (H : Type) (enc : TypeId × Value → H) :
    ReturnsInHanded {} Tryd.checked os 3 .any (fun w args => (Rows.spacePlaysSpec.pre enc Tryd.prog Tryd.f3 [] false w args ∧ laidMetH Tryd.prog laidL w) ∧ sizedMet enc Tryd.prog Tryd.f3 (OpenSpec.ofChange Rows.spacePlaysSpec) false w args)
      (Rows.spacePlaysSpec.post enc Tryd.prog Tryd.f3 false true false false) := by
  refine returnsInHanded_of_change_and (C := Tryd.checked) (X := fun w _ => laidMetH Tryd.prog laidL w) (fun _ _ _ hh h => h.of_heap hh) own started (by kernel_rfl) Tryd.func3
    (ChangeSpec.witness_shaped (enc := enc) (C := Tryd.checked) (os := os) (X := fun w _ => laidMetH Tryd.prog laidL w) false (World.doorLaid Tryd.prog 400 os) #[.int .i64 0, .slice none 0 0] 8 rfl (World.shaped_of_RefB (by kernel_rfl) (by kernel_rfl)) (by kernel_rfl) (by kernel_rfl) (by kernel_rfl) (door_met os _)) ?_
  intro W base args ds gs before hval0 hW _ _ hL _
  have hval : ∀ (j : Nat) t v, Tryd.f3.params[j]? = some t → args[j]? = some v → Value.okWide Tryd.prog W .any base t v := hval0
  have hW' := hW
  obtain ⟨p, q, hA0, hV, rfl, hfz, hnd⟩ := hW
  have hA : DataW.TrodAll enc Tryd.prog W 0 (fun _ => true) true Tryd.f3.params.toList args.toList ds p := hA0
  rw [Tryd.params3] at hA hval
  obtain ⟨v0, vs0, d0, ds0, p0, q0, hargs, rfl, rfl, h0, r0⟩ := trodAll_cons hA
  obtain ⟨v1, vs1, d1, ds1, p1, q1, rfl, rfl, rfl, h1, r1⟩ := trodAll_cons r0
  obtain ⟨rfl, rfl, rfl⟩ := trodAll_nil r1
  obtain rfl : args = #[v0, v1] := by cases args; simp_all
  obtain ⟨rfl, rfl⟩ := trodVars_none hV
  obtain ⟨a0, rfl, rfl, rfl, w0⟩ := open_int Tryd.underlying3 (hval 0 3 v0 rfl rfl) h0
  obtain ⟨sa, sl, sc, rfl⟩ := okWide_slice Tryd.underlying22 (hval 1 22 v1 rfl rfl)
  have lt1 : ∀ x ∈ p1, x.block < W.heap.size := by obtain ⟨m, hm⟩ := h1; exact DataW.trod_lt m _ _ _ hm
  have ex : ∃ acts : List R29, Rep ⟨fun _ => none, fun _ => 0, fun _ => 0, fun k => k < W.heap.size⟩ W.heap (.slice sa sl sc) (.lst 2 (acts.map encS_t29)) := by
    obtain ⟨m, hm⟩ := h1
    rcases open_acts hm with hc | ⟨a, len, cap, hc, hl, hcell⟩
    · have hc : [Value.slice sa sl sc] = [Value.slice none 0 0] := hc
      cases hc
      exact ⟨[], .nil⟩
    · have hc : [Value.slice sa sl sc] = [Value.slice (some a) len cap] := hc
      cases hc
      rcases Nat.eq_zero_or_pos sl with h00 | hpos
      · subst h00
        exact ⟨[], .nil⟩
      · obtain ⟨b, hb, hrep⟩ := rep_acts hl hpos hcell
        exact ⟨_, hrep _ hb⟩
  obtain ⟨acts, hv⟩ := ex
  clear hA0 hval0
  refine (law a0 acts _ W hL hv).mono fun e W' ⟨he, bel⟩ => ?_
  subst he
  exact ⟨_, rfl, _, _, _, [], _, [], hW', trodAll_mk1 (shut_bool Tryd.underlying4 _), (trodAll_cons_mk (shut_int Tryd.underlying3 w0) (trodAll_cons_mk (Below.trod laidOut (by kernel_rfl) (of_decide_eq_true (by kernel_rfl)) h1 bel lt1) trodAll_mk0)), rfl, bel.frame _, fun h => by cases h⟩
theorem row_holds : Rows.SpacePlaysSaid :=
  OpenClaim.holds_of_wide 3 Tryd.f3 rfl rfl rfl rfl rfl rfl rfl ⟨rfl, rfl, rfl, rfl, rfl⟩ rfl rfl rfl rfl rfl (by kernel_rfl) Tryd.func3 (by kernel_rfl)
    (of_decide_eq_true (by kernel_rfl)) (by unfold Func.isWrapper; first | (rw [if_pos (by decide +kernel)]; kernel_rfl) | (rw [if_neg (by decide +kernel)]; exact ⟨rfl, rfl⟩))
    (fun os started H enc _ => lifted os started H enc)
theorem card_holds : Rows.SpacePlaysCardSaid :=
  Claim7.holds_tied_plain_at .later [] [.data] true (true, "37eda63dfc40520de62f8d55dddc7cd0118689a45a8e57d892b5f9376cda4a8b") false
    row_holds (fun _ h => by cases h) (by kernel_rfl) (fun _ h => by cases h) spacePlays_row_tie rfl ⟨rfl, rfl⟩ (by kernel_rfl) rfl
    (fun f fn hf hfn => by
      obtain rfl : f = 3 := Option.some.inj ((show Tryd.prog.funcNamed "keyway/keywaylaw06.SpacePlays" = some 3 by kernel_rfl).symm.trans hf) |>.symm
      obtain rfl : fn = Tryd.f3 := (Option.some.inj (Tryd.func3.symm.trans hfn)).symm
      exact ⟨by kernel_rfl, fun j t ht => by
        rw [Tryd.params3] at ht
        have hm : t ∈ [3, 22] := by simpa using Array.mem_of_getElem? ht
        have hall : ([3, 22].all fun u => !Tryd.prog.wantsStandIn u) = true := by kernel_rfl
        exact (show Tryd.prog.wantsStandIn t = false by simpa using List.all_eq_true.1 hall t hm)⟩)
    (by kernel_rfl)
#print axioms card_holds
end Go.Proofs.YtcbbpidnocgoiaaDoor.SvPlays
namespace Go.Proofs.YtcbbpidnocgoiaaDoor
/-- The card, under a short name, for the claim. -/
theorem spacePlays_holds : Rows.SpacePlaysCardSaid := SvPlays.card_holds
end Go.Proofs.YtcbbpidnocgoiaaDoor

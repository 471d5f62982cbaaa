/- Texts of this claim, put together: part 9. -/
import Derived.Test.YtmcflglkfgnbbaaDoorMzH
/- The numbers of a set, one by one: the iterator's contract. -/
namespace Go.Proofs.YtmcflglkfgnbbaaDoor.Bl
open Go Go.RowKit Go.Shelf Go.Proofs.YtmcflglkfgnbbaaDoor.Pu Go.Proofs.YtmcflglkfgnbbaaDoor.Eng
attribute [local go_sem] Oper.semAt_some
set_option linter.unusedVariables false
set_option linter.unusedSimpArgs false
/-- All numbers of a set. -/
def nmL (ps : List (Int × Nat)) : List Int := ps.flatMap fun p => bitsL p.1 p.2
/-- What a round keeps: what lay below, and whatever parts lie in boxes. -/
structure Kp (n₀ : Nat) (W W' : World) : Prop where
  below : Below n₀ W W'
  part : ∀ (k : Nat) (cs : Array Value) (fr : Nat × Nat), W.heap[k]? = some (.cells cs 54 fr) → W'.heap[k]? = some (.cells cs 54 fr)
theorem bits_and {x : Nat} (h0 : 0 < x) (h1 : x < 18446744073709551616) : bits .and .u64 (x : Int) ((x : Int) - 1) = ((x &&& (x - 1) : Nat) : Int) := by
  rw [show ((x : Int) - 1) = ((x - 1 : Nat) : Int) by omega]
  exact and_k h1 (by omega)
set_option maxRecDepth 100000 in
set_option maxHeartbeats 4000000 in
theorem all1_in (n : Nat) (hn : 1 ≤ n) (l Bs n₀ b off cap N : Nat) (ps : List (Int × Nat)) (hps : ∀ p ∈ ps, (0 ≤ p.1 ∧ p.1 < 16384) ∧ 0 < p.2 ∧ p.2 < 18446744073709551616) (hlen : ps.length ≤ 16384) (hb : b < n₀) (FF : Nat → Prop) (hFF : ∀ b, FF b → b < n₀)
    (hN : (nmL ps).length ≤ N) (J Jx : List Int → World → Prop) (W : World) (hn₀ : n₀ ≤ W.heap.size) (hT : TabsOk FF W) (hJa : AbidesFrom W.heap.size J)
    (hY : ∀ pre x W1, J pre W1 → pre.length < N → YieldAt Fence.wide (n - 1) Tryd.prog l #[.int .i64 x] W1 fun e W' =>
      (e = .returned (.bool true) ∧ J (pre ++ [x]) W' ∧ Kp n₀ W1 W') ∨ (e = .returned (.bool false) ∧ Jx (pre ++ [x]) W'))
    (hBs : W.cell? ⟨Bs, 0, none⟩ = some (.slice (some ⟨b, off, none⟩) ps.length cap)) (hc : ∀ (j : Nat) (p : Int × Nat), ps[j]? = some p → W.cell? ⟨b, off + j * 2, none⟩ = some (.int .i64 p.1) ∧ W.cell? ⟨b, off + j * 2 + 1, none⟩ = some (.int .u64 (p.2 : Int))) (h0 : J [] W) :
    CallsIn Fence.wide n Tryd.prog 31 #[.func (.yield l) #[] #[], .pointer (some ⟨Bs, 0, none⟩)] W fun e W' => (∃ v, e = .returned v) ∧ ((∃ xs, xs = nmL ps ∧ J xs W') ∨ (∃ pre, pre <+: nmL ps ∧ Jx pre W')) := by
  refine callsIn_of_wp Tryd.func31 rfl trivial ?_ rfl
  simp only [Tryd.ntmps31, List.size_toArray, List.length_cons, List.length_nil, Nat.reduceAdd, Nat.reduceSub, Array.replicate_succ, Array.replicate_zero, List.push_toArray, List.append_toArray, List.nil_append, List.cons_append]
  gi_wp2
  gi_loopw [9] (fun i wr => ∃ k : Nat, k ≤ ps.length ∧ i = .int .i64 k ∧ J (nmL (ps.take k)) wr ∧ Below n₀ W wr)
    (fun i _ => ps.length - (intOf i).toNat)
  case atStart => exact ⟨0, Nat.zero_le _, rfl, h0, Below.refl _ _⟩
  case round =>
    obtain ⟨k, hk, rfl, hJs, hnx⟩ := hrel
    by_cases hlt : k < ps.length
    · obtain ⟨p, hp⟩ : ∃ p, ps[k]? = some p := ⟨_, List.getElem?_eq_getElem hlt⟩
      obtain ⟨c1, c2⟩ := hc k p hp
      have d1 := (hnx.cell (p := ⟨b, off + k * 2, none⟩) hb).trans c1
      have d2 := (hnx.cell (p := ⟨b, off + k * 2 + 1, none⟩) hb).trans c2
      obtain ⟨w1, hw1⟩ : ∃ w1, w1 = wr := ⟨_, rfl⟩
      subst hw1
      have hpp := hps p (List.mem_of_getElem? hp)
      obtain ⟨⟨hp1, hp2⟩, hp3, hp4⟩ := hpp
      have htk : nmL (ps.take (k + 1)) = nmL (ps.take k) ++ bitsL p.1 p.2 := by
        rw [List.take_add_one, hp]
        unfold nmL
        rw [List.flatMap_append]
        simp
      have hpre : nmL (ps.take (k + 1)) <+: nmL ps := by
        obtain ⟨r, hr⟩ := List.take_prefix (k + 1) ps
        refine ⟨nmL r, ?_⟩
        conv => rhs; rw [← hr]
        unfold nmL
        rw [List.flatMap_append]
      gi_wp2
      gi_loopw [5] (fun v w => ∃ (x : Nat) (pre : List Int), v = .int .u64 (x : Int) ∧ x < 18446744073709551616 ∧ J pre w ∧ pre ++ bitsL p.1 x = nmL (ps.take k) ++ bitsL p.1 p.2 ∧ Below n₀ W w ∧ w.heap[w1.heap.size]? = some (.cells #[.int .i64 p.1, .int .u64 (p.2 : Int)] 54 (0, 0)))
        (fun v _ => (intOf v).toNat)
      case atStart => exact ⟨p.2, _, rfl, hp4, hJa _ _ _ none hJs (World.grownBy_alloc _ _ _) (fun r e => by cases e), rfl, hnx.trans ((Below.refl _ _).alloc (Nat.le_trans hn₀ hnx.size) _), World.alloc_heap_new _ _⟩
      case round =>
        obtain ⟨x, pre, rfl, hx, hJx, hpx, hbx, hbox⟩ := hrel
        by_cases hx0 : x = 0
        · subst hx0
          gi_wp2
          refine ⟨⟨k + 1, by omega, by simp, ?_, hbx⟩, by simp [intOf]; omega⟩
          rw [bitsL_zero, List.append_nil] at hpx
          rw [htk, ← hpx]
          exact hJx
        · have hx0 : 0 < x := by omega
          have hmx : Tryd.prog.follows .mixedOrders = true := by kernel_rfl
          have e1 : wr.cell? ⟨w1.heap.size, 0, none⟩ = some (.int .i64 p.1) := by simp [World.cell?, hbox]
          have hTd : TabsOk FF wr.drew := fun q hq => by
            obtain ⟨f1, cs, T, fr, f2, f3⟩ := hT q hq
            exact ⟨f1, cs, T, fr, (hbx.block _ (hFF _ f1)).trans f2, f3⟩
          have htz := tz_in (n - 1) x hx0 hx FF wr.drew (fun q hq => Nat.lt_of_lt_of_le (hFF q hq) (Nat.le_trans hn₀ hbx.size)) hTd
          have f32 : Fence.wide.fn 32 := trivial
          have hst := bitsL_step p.1 hx0 (by rw [lt64]; exact hx)
          have htl := (tz_spec 64 x hx0 (by rw [lt64]; exact hx)).1
          have hW1 : IntKind.i64.wrap (IntKind.i64.wrap (p.1 * 64) + ((tz 64 x : Nat) : Int)) = p.1 * 64 + ((tz 64 x : Nat) : Int) := by
            rw [show IntKind.i64.wrap (p.1 * 64) = p.1 * 64 from wrap_i64 (by omega) (by omega)]
            exact wrap_i64 (by omega) (by omega)
          have hpf : pre ++ bitsL p.1 x <+: nmL ps := by rw [hpx, ← htk]; exact hpre
          have hln : pre.length < N := by
            have := hpf.length_le
            rw [List.length_append, hst, List.length_cons] at this
            omega
          gi_wp2
          gi_region_with_o (first
            | (gi_at_call 32; refine htz.mono ?_; rintro e w' ⟨rfl, hg⟩
               have hbw : w'.heap[w1.heap.size]? = some (.cells #[.int .i64 p.1, .int .u64 (p.2 : Int)] 54 (0, 0)) := (hg.block _ (Array.getElem?_eq_some_iff.1 hbox).1 (by simp)).trans hbox
               have e2 : w'.cell? ⟨w1.heap.size, 0, none⟩ = some (.int .i64 p.1) := by simp [World.cell?, hbw]
               have hbe : Below n₀ W w' := hbx.trans ⟨hg.os, hg.tape, hg.output, hg.size, fun q hq => hg.block q (Nat.lt_of_lt_of_le hq (Nat.le_trans hn₀ hbx.size)) (by simp)⟩
               obtain ⟨fn, tmps, assign, body, hy, hR⟩ := hY pre (p.1 * 64 + ((tz 64 x : Nat) : Int)) w' (hJa _ _ w' none hJx ⟨hg.os, hg.tape, hg.output, hg.size, hg.block⟩ (fun r e => by cases e)) hln)
            | (refine hR.mono ?_; rintro e W3 hq
               obtain ⟨z, rfl, h4⟩ : ∃ z : Bool, e = .returned (.bool z) ∧ (cond z (J (pre ++ [p.1 * 64 + ((tz 64 x : Nat) : Int)]) W3 ∧ Kp n₀ w' W3) (Jx (pre ++ [p.1 * 64 + ((tz 64 x : Nat) : Int)]) W3)) := by
                 rcases hq with ⟨rfl, h3, h4⟩ | ⟨rfl, h3⟩
                 · exact ⟨true, rfl, h3, h4⟩
                 · exact ⟨false, rfl, h3⟩
               clear hq hR hy))
          all_goals
            cases z with
            | true =>
              obtain ⟨hJ3, hk3⟩ := h4
              gi_wp2
              have hlx : x &&& (x - 1) < x := by
                have := Nat.and_le_right (n := x) (m := x - 1)
                omega
              rw [bits_and hx0 hx]
              refine ⟨⟨x &&& (x - 1), _, rfl, by omega, hJ3, ?_, hbe.trans hk3.below, hk3.part _ _ _ hbw⟩, ?_⟩
              · rw [List.append_assoc, List.singleton_append, ← hst]
                exact hpx
              · simp only [intOf, Int.toNat_natCast]
                exact hlx
            | false =>
              gi_wp2
              refine bodyPost_ret (results_none rfl _ _ _) rfl ?_
              refine ⟨⟨_, rfl⟩, .inr ⟨_, ?_, h4⟩⟩
              rw [hst, ← List.singleton_append, ← List.append_assoc] at hpf
              exact (List.prefix_append _ _).trans hpf
    · obtain rfl : k = ps.length := by omega
      gi_wp2
      go_end0
      exact ⟨⟨_, rfl⟩, .inl ⟨_, by rw [List.take_length], hJs⟩⟩
end Go.Proofs.YtmcflglkfgnbbaaDoor.Bl


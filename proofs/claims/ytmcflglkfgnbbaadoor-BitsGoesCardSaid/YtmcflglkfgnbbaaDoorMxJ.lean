/- Texts of this claim, put together: part 10. -/
import Derived.Maps.AppendAt
import Derived.Test.YtmcflglkfgnbbaaDoorMxB
import Derived.Test.YtmcflglkfgnbbaaDoorMxE
import Derived.Test.YtmcflglkfgnbbaaDoorMxH
import Derived.Test.YtmcflglkfgnbbaaDoorMxI
/- The numbers of a set as a list. -/
namespace Go.Proofs.YtmcflglkfgnbbaaDoor.Bl
open Go Go.RowKit Go.Shelf Go.Proofs.YtmcflglkfgnbbaaDoor.Pu Go.Proofs.YtmcflglkfgnbbaaDoor.Eng
attribute [local go_sem] Oper.semAt_some
set_option linter.unusedVariables false
set_option linter.unusedSimpArgs false
set_option maxRecDepth 100000 in
set_option maxHeartbeats 4000000 in
theorem all1_nil (n : Nat) (l Bs cap : Nat) (A : Option Addr) (J : List Int → World → Prop) (W : World) (hBs : W.cell? ⟨Bs, 0, none⟩ = some (.slice A 0 cap)) (h0 : J [] W) :
    CallsIn Fence.wide n Tryd.prog 31 #[.func (.yield l) #[] #[], .pointer (some ⟨Bs, 0, none⟩)] W fun e W' => (∃ v, e = .returned v) ∧ J [] W' := by
  refine callsIn_of_wp Tryd.func31 rfl trivial ?_ rfl
  simp only [Tryd.ntmps31, List.size_toArray, List.length_cons, List.length_nil, Nat.reduceAdd, Nat.reduceSub, Array.replicate_succ, Array.replicate_zero, List.push_toArray, List.append_toArray, List.nil_append, List.cons_append]
  gi_wp2
  gi_loopw [9] (fun i wr => i = .int .i64 0 ∧ J [] wr) (fun _ _ => 0)
  case atStart => exact ⟨rfl, h0⟩
  case round =>
    obtain ⟨rfl, hJs⟩ := hrel
    gi_wp2
    go_end0
    exact ⟨⟨_, rfl⟩, hJs⟩
/-- A slice of parts, below. -/
inductive Parts (n₀ : Nat) (W : World) : Value → List (Int × Nat) → Prop where
  | nil {A : Option Addr} {cap : Nat} : Parts n₀ W (.slice A 0 cap) []
  | lst {b off cap : Nat} {ps : List (Int × Nat)} (hb : b < n₀) (hc : ∀ (j : Nat) (p : Int × Nat), ps[j]? = some p → W.cell? ⟨b, off + j * 2, none⟩ = some (.int .i64 p.1) ∧ W.cell? ⟨b, off + j * 2 + 1, none⟩ = some (.int .u64 (p.2 : Int))) : Parts n₀ W (.slice (some ⟨b, off, none⟩) ps.length cap) ps
theorem Parts.below {n₀ : Nat} {A B : World} (h : Below n₀ A B) {x : Value} {ps : List (Int × Nat)} : Parts n₀ A x ps → Parts n₀ B x ps
  | .nil => .nil
  | .lst hb hc => .lst hb fun j p hp => ⟨(h.cell (p := ⟨_, _, none⟩) hb).trans (hc j p hp).1, (h.cell (p := ⟨_, _, none⟩) hb).trans (hc j p hp).2⟩
theorem Kp.trans {n₀ : Nat} {A B C : World} (h : Kp n₀ A B) (k : Kp n₀ B C) : Kp n₀ A C := ⟨h.below.trans k.below, fun i cs fr hi => k.part i cs fr (h.part i cs fr hi)⟩
theorem Kp.putObj {n₀ : Nat} {w : World} (hn : n₀ ≤ w.heap.size) (W : World) (l : Nat) (o o' : Obj) (hl : w.heap.size ≤ l) (h : W.heap[l]? = some o) (h1 : o.isCells = false) (h2 : o.isWalk = false) : Kp n₀ W (W.putObj l o') :=
  ⟨belowK_b hn W l o o' hl h h1 h2, fun k cs fr hk => by
    by_cases e : k = l
    · subst e
      rw [h] at hk
      cases hk
      cases h1
    · exact (World.putObj_heap_other e).trans hk⟩
def PsOk (ps : List (Int × Nat)) : Prop := (∀ p ∈ ps, (0 ≤ p.1 ∧ p.1 < 16384) ∧ 0 < p.2 ∧ p.2 < 18446744073709551616) ∧ ps.length ≤ 16384
/-- s.All() hands back an iterator over the numbers. -/
theorem all_stops (n : Nat) (hn : 1 ≤ n) (Bs n₀ N : Nat) (x : Value) (ps : List (Int × Nat)) (hps : PsOk ps) (FF : Nat → Prop) (hFF : ∀ b, FF b → b < n₀) (hN : (nmL ps).length ≤ N) (w : World) (hBs : Bs < w.heap.size) (hn₀ : n₀ ≤ w.heap.size) (hT : TabsOk FF w)
    (hc : w.cell? ⟨Bs, 0, none⟩ = some x) (hP : Parts n₀ w x ps) :
    SeqStopsK Fence.wide n Tryd.prog 31 #[.pointer (some ⟨Bs, 0, none⟩)] (fun z : Int => #[Value.int .i64 z]) (Kp n₀) (fun xs => xs = nmL ps) (fun pre => pre <+: nmL ps) N w := fun l J Jx W hW hJa _ hY h0 => by
  have hc' := (hW.cell (p := ⟨Bs, 0, none⟩) hBs).trans hc
  have hW0 := hW.mono hn₀
  have hT' : TabsOk FF W := fun q hq => by
    obtain ⟨f1, cs, T, fr, f2, f3⟩ := hT q hq
    exact ⟨f1, cs, T, fr, (hW0.block _ (hFF _ f1)).trans f2, f3⟩
  cases hP.below hW0 with
  | nil => exact (all1_nil n l Bs _ _ J W hc' h0).mono fun e W' ⟨he, hj⟩ => ⟨he, .inl ⟨_, rfl, hj⟩⟩
  | lst hb hcs => exact all1_in n hn l Bs n₀ _ _ _ N ps hps.1 hps.2 hb FF hFF hN J Jx W (Nat.le_trans hn₀ hW.size) hT' hJa hY hc' hcs h0
theorem part_kept {W w1 : World} {n₀ B : Nat} {v v' : Value} {k : Nat} {xs : List Value} {tmp : Obj} (hv : Boxed W B 22 v) (hrow : W.ownsRow n₀ 3 1 v k xs) (hgrow : (W.alloc tmp).grownBy w1 v.ownBlock) (q : Nat) (cs : Array Value) (fr : Nat × Nat) (hq : W.heap[q]? = some (.cells cs 54 fr)) : (w1.setCell ⟨B, 0, none⟩ v').heap[q]? = some (.cells cs 54 fr) := by
  have hlt := (Array.getElem?_eq_some_iff.1 hq).1
  have hne : q ≠ B := by
    intro e
    subst e
    rw [show W.heap[q]? = _ from hv] at hq
    cases hq
  refine (Below.heap_setCell _ _ _ q hne).trans ((hgrow.block q (by simp; omega) ?_).trans ((Below.heap_alloc _ _ q hlt).trans hq))
  rcases hrow.2 with ⟨rfl, _⟩ | ⟨g, cap, cur, rfl, _, hgb, _⟩
  · simp [Value.ownBlock]
  · intro e'
    obtain rfl : q = g := by simpa [Value.ownBlock] using e'
    rw [hgb] at hq
    cases hq
theorem info3 : (Tryd.prog.info? 3).map (fun i => (i.zero, i.size, i.bytes)) = some (some (.int .i64 0), 1, 8) := by kernel_rfl
set_option maxRecDepth 100000 in
set_option maxHeartbeats 4000000 in
/-- s.List(): a row of one's own with the numbers; nil just where there is none; nothing that lay has turned. -/
theorem list_in (n : Nat) (hn : 3 ≤ n) (x : Value) (ps : List (Int × Nat)) (hps : PsOk ps) (hlen : (nmL ps).length ≤ 1048576) (FF : Nat → Prop) (w : World) (hFF : ∀ b, FF b → b < w.heap.size) (hT : TabsOk FF w) (hP : Parts w.heap.size w x ps) :
    CallsIn Fence.wide n Tryd.prog 30 #[.agg #[x]] w fun e W' => ∃ v, e = .returned v ∧ W'.ownsRow w.heap.size 3 1 v (nmL ps).length ((nmL ps).map (Value.int .i64)) ∧ (v = .slice none 0 0 ↔ nmL ps = []) ∧ Below w.heap.size w W' := by
  have h1 : 1 ≤ n := by omega
  obtain ⟨i0, hi, hz0, hz1, hz2⟩ := info_parts info3
  have hml : (nmL ps).length ≤ maxLen := Nat.le_trans hlen (by decide)
  have hmb : (nmL ps).length * 8 ≤ 140737488355328 := by omega
  refine callsIn_of_wp_marks Tryd.func30 rfl trivial ?_ rfl
  simp only [Tryd.ntmps30, List.size_toArray, List.length_cons, List.length_nil, Nat.reduceAdd, Nat.reduceSub, Array.replicate_succ, Array.replicate_zero, List.push_toArray, List.append_toArray, List.nil_append, List.cons_append]
  have f8 : Fence.wide.fn 8 := trivial
  gi_wp2_with (gi_at_call 8; refine (all_in (n - 1) _ _).mono ?_; rintro e w' ⟨rfl, rfl⟩)
  have bO := Boxed.new (w.alloc (.cells #[x] 25)) 22 (.slice none 0 0)
  have bN := Boxed.new ((w.alloc (.cells #[x] 25)).alloc (.cells #[.slice none 0 0] 22)) 25 x
  rw [World.size_alloc] at bO
  rw [World.size_alloc, World.size_alloc] at bN
  have hB0 : Below w.heap.size w (((w.alloc (.cells #[x] 25)).alloc (.cells #[.slice none 0 0] 22)).alloc (.cells #[x] 25)) := (((Below.refl _ w).alloc (Nat.le_refl _) _).alloc (by simp) _).alloc (by simp; omega) _
  have hT0 : TabsOk FF (((w.alloc (.cells #[x] 25)).alloc (.cells #[.slice none 0 0] 22)).alloc (.cells #[x] 25)) := fun q hq => by
    obtain ⟨f1, cs, T, fr, f2, f3⟩ := hT q hq
    exact ⟨f1, cs, T, fr, (hB0.block _ (hFF _ f1)).trans f2, f3⟩
  refine wpIn_rangeFunc_ownG rfl h1 (gf := 31) (lb := #[.pointer (some ⟨w.heap.size + 1 + 1, 0, none⟩)]) rfl trivial (enters_of Tryd.func31 (by kernel_rfl) rfl)
    (all_stops (n - 1) (by omega) (w.heap.size + 1 + 1) w.heap.size (nmL ps).length x ps hps FF hFF (Nat.le_refl _) _ (by simp) (by simp; omega) hT0 bN.cell (hP.below hB0)) Kp.trans (Kp.putObj (by simp; omega)) (Below.refl _ _) (fun _ => rfl)
    (fun pre W => (∃ v, Boxed W (w.heap.size + 1) 22 v ∧ W.ownsRow w.heap.size 3 1 v pre.length (pre.map (Value.int .i64)) ∧ (v = .slice none 0 0 ↔ pre = [])) ∧ Below w.heap.size w W)
    (fun _ _ _ => False)
    (OwnFrom.and (Own.from (holdsRow_own w.heap.size (w.heap.size + 1) 22 3 1 (fun pre => pre.length) (fun pre => pre.map (Value.int .i64)) (fun pre v => v = .slice none 0 0 ↔ pre = [])) _) (ownFrom_below (Nat.le_refl _) (by simp; omega)))
    (fun _ _ _ _ _ hs _ _ => hs)
    ⟨⟨_, bO.alloc _, World.ownsRow_nil _ _ _ _, by simp⟩, hB0⟩
    (fun z => { tmps := #[.agg #[x], .pointer (some ⟨w.heap.size, 0, none⟩), .slice none 0 0, .pointer (some ⟨w.heap.size + 1, 0, none⟩), .int .i64 z, .agg #[x], .func (.func 31) #[] #[.pointer (some ⟨w.heap.size + 1 + 1, 0, none⟩)], .int .i64 z, undef, undef, undef, undef, undef], defers := [] }) ?assign ?body ?done ?stop
  case assign =>
    intro l z W K hK
    gi_wp2
    exact hK
  case body =>
    rintro l pre z W ⟨⟨v, hv, hrow, hnil⟩, hB⟩ hlt
    have hc := hv.cell
    gi_wp2_with (gi_at_builtin; refine wpListIn_append_own _ rfl _ _ 22 rfl w.heap.size 3 i0 (.int .i64 0) 1 8 Tryd.underlying22 hi hz0 hz1 hz2 rfl (by decide) _ _ _ rfl (hrow.alloc _) ⟨W.heap.size, 0, none⟩ 1 1 [.int .i64 z] rfl rfl (cell_one_new _ _ _) (by simp [Value.oneCell']) (by omega) (by omega) (by have := hB.size; simp; omega) ?_; intro v' w1 hown' hgrow _; obtain ⟨g', cap', rfl⟩ := ownsRow_succ hown'; obtain ⟨hv1, hv2, hr2, hk2, hb2⟩ := hv.appended (by decide) hrow hB.size (Nat.le_succ _) hown' hgrow; have hpk := part_kept (v' := .slice (some ⟨g', 0, none⟩) (pre.length + 1) cap') hv hrow hgrow; have hc1 := hv1.cell; have hf1 := hv1.frozen)
    exact ⟨hk2.from _, ⟨hb2, hpk⟩, ⟨_, hv2, by simpa using hr2, by simp⟩, hB.trans hb2⟩
  case done =>
    rintro D ys W hD rfl ⟨⟨v, hv, hrow, hnil⟩, hB⟩ hK
    have hc := hv.cell
    gi_wp2
    refine ⟨by simp, .inl ⟨_, _, rfl, run_takeDeferred hK, ?_⟩⟩
    exact ⟨_, results_tmp rfl _ _ _, v, rfl, ownsRow_putObj hrow _ hK rfl, hnil, hB.trans (belowK_b (w := w) (Nat.le_refl _) W D _ _ (by simp at hD; omega) hK rfl rfl)⟩
  case stop =>
    rintro D c pre W _ _ h _
    exact h.elim
end Go.Proofs.YtmcflglkfgnbbaaDoor.Bl

/- The numbers of a set as a list: the contract in the small logic. -/
namespace Go.Proofs.YtmcflglkfgnbbaaDoor.Bl
open Go Go.RowKit Go.Shelf Go.Proofs.YtmcflglkfgnbbaaDoor.Pu Go.Proofs.YtmcflglkfgnbbaaDoor.Eng
set_option linter.unusedVariables false
set_option linter.unusedSimpArgs false
def rowS (p : Int × Nat) : List SV := [.v (.int .i64 p.1), .v (.int .u64 (p.2 : Int))]
def intS (z : Int) : List SV := [.v (.int .i64 z)]
/-- A list, none just if nothing is in it. -/
def resS : List Int → SV
  | [] => .v (.slice none 0 0)
  | z :: l => .lst 1 ((z :: l).map intS)
theorem repR_rows {g : Gh} {H : Array Go.Obj} : ∀ {ps : List (Int × Nat)} {L : List Value}, RepR g H L 2 (ps.map rowS) → ∀ (j : Nat) (p : Int × Nat), ps[j]? = some p → L[j * 2]? = some (.int .i64 p.1) ∧ L[j * 2 + 1]? = some (.int .u64 (p.2 : Int))
  | [], L, _, j, p, hp => by simp at hp
  | q :: ps, L, h, j, p, hp => by
    generalize hr : (q :: ps).map rowS = rs at h
    cases h with
    | nil => cases hr
    | @cons xs ys m r rows hm hx ht =>
      rw [List.map_cons] at hr
      injection hr with e1 e2
      subst e1 e2
      have hx' : RepL g H xs [.v (.int .i64 q.1), .v (.int .u64 (q.2 : Int))] := hx
      cases hx' with
      | cons h1 t1 =>
        cases t1 with
        | cons h2 t2 =>
          cases t2
          obtain rfl := rep_v h1
          obtain rfl := rep_v h2
          cases j with
          | zero =>
            obtain rfl : q = p := by simpa using hp
            exact ⟨rfl, rfl⟩
          | succ j =>
            have := repR_rows ht j p (by simpa using hp)
            rw [show (j + 1) * 2 = j * 2 + 2 by omega]
            exact this
theorem repR_ints {g : Gh} {H : Array Go.Obj} : ∀ (l : List Int) (r : List Value), RepR g H (l.map (Value.int .i64) ++ r) 1 (l.map intS)
  | [], r => .nil
  | z :: l, r => .cons (xs := [.int .i64 z]) rfl (.cons (.v _) .nil) (repR_ints l r)
theorem cell_toList {W : World} {b i : Nat} {cs : Array Value} {T : TypeId} {fr : Nat × Nat} (h : W.heap[b]? = some (.cells cs T fr)) : W.cell? ⟨b, i, none⟩ = cs.toList[i]? := by
  rw [Array.getElem?_toList]
  simp [World.cell?, h]
theorem list_hcall (ps : List (Int × Nat)) (hps : PsOk ps) (hlen : (nmL ps).length ≤ 1048576) (a : SV) (ha : (a = .v (.slice none 0 0) ∧ ps = []) ∨ a = .lst 2 (ps.map rowS)) : HCall Tryd.prog 30 [] [.agg [a]] [] (resS (nmL ps)) := by
  intro g w vs hp hrep
  obtain ⟨x, rfl, hx⟩ : ∃ x, vs = [.agg #[x]] ∧ Rep g w.heap x a := by
    cases hrep with
    | cons h t =>
      cases t
      cases h with
      | @agg va ss hl =>
        have hva : va = va.toList.toArray := by simp
        cases hv : va.toList with
        | nil => rw [hv] at hl; cases hl
        | cons y ys =>
          rw [hv] at hl
          cases hl with
          | cons h1 t1 =>
            cases t1
            rw [hv] at hva
            exact ⟨y, by rw [hva], h1⟩
  have hP : Parts w.heap.size w x ps := by
    rcases ha with ⟨rfl, rfl⟩ | rfl
    · obtain rfl := rep_v hx
      exact .nil
    · generalize hr : ps.map rowS = rs at hx
      cases hx with
      | nil =>
        obtain rfl : ps = [] := List.map_eq_nil_iff.1 hr
        exact .nil
      | @lst m b off n cap rows cs T fr hn hF hH hl hc hrr =>
        subst hr
        rw [List.length_map] at hn
        subst hn
        refine .lst (hp.Flt _ hF) fun j p hj => ?_
        obtain ⟨r1, r2⟩ := repR_rows hrr j p hj
        rw [List.getElem?_drop] at r1 r2
        rw [cell_toList hH, cell_toList hH]
        exact ⟨r1, r2⟩
  refine (callsIn_wide.1 (list_in 3 (Nat.le_refl _) x ps hps hlen g.F w hp.Flt hp.tb hP)).mono ?_
  rintro e w' ⟨v, rfl, hrow, hnil, hB⟩
  have kept : ∀ (b : Nat) (cs : Array Value) (T : TypeId) (fr : Nat × Nat), w.heap[b]? = some (Go.Obj.cells cs T fr) → ∃ (cs' : Array Value) (fr' : Nat × Nat), w'.heap[b]? = some (Go.Obj.cells cs' T fr') ∧ cs'.size = cs.size := fun b cs T fr hb => ⟨cs, fr, (hB.block b (Array.getElem?_eq_some_iff.1 hb).1).trans hb, rfl⟩
  cases hal : nmL ps with
  | nil =>
    obtain rfl := hnil.2 hal
    exact ⟨_, g, rfl, .v _, { ob := fun i o hi => by simp at hi, inj := fun i j o o' b hi => by simp at hi, own := fun i o b hi => by simp at hi, base := fun b hb _ => hB.block b hb, hsize := hB.size, F0 := fun b hb => hb, Fold := fun b hb _ => .inl hb, Flt := fun b hb => Nat.lt_of_lt_of_le (hp.Flt b hb) hB.size, os := hB.os, tape := hB.tape, output := hB.output, gext := fun id b hb => ⟨hb, rfl, rfl⟩, kept := kept }⟩
  | cons z l =>
    rw [hal] at hrow hnil
    rcases hrow.2 with ⟨_, h0⟩ | ⟨q, cap, cur, rfl, hbq, hgb, hl, hm, hcs, htk⟩
    · simp at h0
    · refine ⟨_, { g with F := fun b => g.F b ∨ b = q }, rfl, ?_, { ob := fun i o hi => by simp at hi, inj := fun i j o o' b hi => by simp at hi, own := fun i o b hi => by simp at hi, base := fun b hb _ => hB.block b hb, hsize := hB.size, F0 := fun b hb => .inl hb, Fold := fun b hb hlt => ?_, Flt := fun b hb => ?_, os := hB.os, tape := hB.tape, output := hB.output, gext := fun id b hb => ⟨hb, rfl, rfl⟩, kept := kept }⟩
      · have hL : cur.toList = (z :: l).map (Value.int .i64) ++ cur.toList.drop ((z :: l).length * 1) := by
          rw [← htk]
          exact (List.take_append_drop _ _).symm
        refine .lst (rows := (z :: l).map intS) (by rw [List.length_map]) (.inr rfl) hgb hl (by rw [hcs]; omega) ?_
        rw [List.drop_zero, hL]
        exact repR_ints _ _
      · rcases hb with hb | rfl
        · exact .inl hb
        · omega
      · rcases hb with hb | rfl
        · exact Nat.lt_of_lt_of_le (hp.Flt b hb) hB.size
        · exact (Array.getElem?_eq_some_iff.1 hgb).1
end Go.Proofs.YtmcflglkfgnbbaaDoor.Bl

/- The numbers of a set as a list: the contract. -/
namespace Go.Proofs.YtmcflglkfgnbbaaDoor.Bt
open Go Go.RowKit Go.Proofs.YtmcflglkfgnbbaaDoor.Eng Go.Proofs.YtmcflglkfgnbbaaDoor.Nd Go.Proofs.YtmcflglkfgnbbaaDoor.Bl
set_option linter.unusedVariables false
set_option linter.unusedSimpArgs false
set_option maxRecDepth 20000
def prP (p : R54) : Int × Nat := (p.At, p.Bits.toNat)
def numsR (ps : List R54) : List Int := nmL (ps.map prP)
theorem numsR_cons (p : R54) (ps : List R54) : numsR (p :: ps) = bitsL p.At p.Bits.toNat ++ numsR ps := by
  unfold numsR nmL
  rw [List.map_cons, List.flatMap_cons]
  rfl
theorem mem_nums : ∀ {ps : List R54} {n : Int}, n ∈ numsR ps ↔ ∃ p ∈ ps, n / 64 = p.At ∧ p.Bits.toNat.testBit (n % 64).toNat = true
  | [], n => by simp [numsR, nmL]
  | p :: ps, n => by
    rw [numsR_cons, List.mem_append, bitsL_mem, mem_nums (ps := ps)]
    simp
theorem rise_nums : ∀ {ps : List R54}, RiseP ps → (numsR ps).Pairwise (· < ·)
  | [], _ => by simp [numsR, nmL]
  | p :: ps, h => by
    obtain ⟨h1, h2⟩ := List.pairwise_cons.1 h
    rw [numsR_cons, List.pairwise_append]
    refine ⟨bitsL_rise _ _, rise_nums h2, fun a ha b hb => ?_⟩
    obtain ⟨q, hq, hb1, _⟩ := mem_nums.1 hb
    have ha1 := (bitsL_mem.1 ha).1
    have := h1 q hq
    omega
theorem len_nums : ∀ (ps : List R54), (numsR ps).length ≤ 64 * ps.length
  | [] => by simp [numsR, nmL]
  | p :: ps => by
    have := len_nums ps
    have := bitsL_len p.At p.Bits.toNat
    rw [numsR_cons, List.length_append, List.length_cons]
    omega
theorem psOk {ps : List R54} (h : OkP ps) : PsOk (ps.map prP) := by
  refine ⟨fun p hp => ?_, by rw [List.length_map]; exact h.len⟩
  obtain ⟨q, hq, rfl⟩ := List.mem_map.1 hp
  obtain ⟨h1, h2, h3⟩ := h.2 q hq
  refine ⟨h1, ?_, ?_⟩
  · show 0 < q.Bits.toNat; omega
  · show q.Bits.toNat < _; omega
theorem nums_has {ps : List R54} (h : OkP ps) {n : Int} : n ∈ numsR ps ↔ hasP ps n = true := by
  rw [mem_nums]
  unfold hasP
  constructor
  · rintro ⟨p, hp, h1, h2⟩
    obtain ⟨i, hi, hpi⟩ := List.getElem_of_mem hp
    have hg : ps[i]? = some p := by rw [List.getElem?_eq_getElem hi, hpi]
    have e : rkP ps (n / 64) = i := by
      have a := rkP_ge hg (a := n / 64) (by omega)
      rcases Nat.lt_or_ge (rkP ps (n / 64)) i with hlt | hge
      · obtain ⟨q, hq⟩ : ∃ q, ps[rkP ps (n / 64)]? = some q := ⟨_, List.getElem?_eq_getElem (by omega)⟩
        have hqi : q.At < p.At := by
          have hh := List.pairwise_iff_getElem.1 h.1 (rkP ps (n / 64)) i (by omega) hi hlt
          rw [(List.getElem?_eq_some_iff.1 hq).2, hpi] at hh
          exact hh
        have := rkP_lt h.1 hq (a := n / 64) (by omega)
        omega
      · omega
    rw [e, hg]
    dsimp only
    rw [decide_eq_true h1.symm, Bool.true_and]
    exact h2
  · intro hh
    split at hh
    · rename_i p hp
      rw [Bool.and_eq_true] at hh
      exact ⟨p, List.mem_of_getElem? hp, (of_decide_eq_true hh.1).symm, hh.2⟩
    · cases hh
theorem rise_ext : ∀ {l k : List Int}, l.Pairwise (· < ·) → k.Pairwise (· < ·) → (∀ n, n ∈ l ↔ n ∈ k) → l = k
  | [], [], _, _, _ => rfl
  | [], z :: k, _, _, h => absurd ((h z).2 List.mem_cons_self) (by simp)
  | z :: l, [], _, _, h => absurd ((h z).1 List.mem_cons_self) (by simp)
  | x :: l, y :: k, hl, hk, h => by
    obtain ⟨l1, l2⟩ := List.pairwise_cons.1 hl
    obtain ⟨k1, k2⟩ := List.pairwise_cons.1 hk
    have e : x = y := by
      rcases List.mem_cons.1 ((h x).1 List.mem_cons_self) with e | e
      · exact e
      · rcases List.mem_cons.1 ((h y).2 List.mem_cons_self) with e' | e'
        · exact e'.symm
        · have := l1 y e'
          have := k1 x e
          omega
    subst e
    rw [rise_ext l2 k2 fun n => ?_]
    constructor
    · intro hn
      rcases List.mem_cons.1 ((h n).1 (List.mem_cons_of_mem _ hn)) with e | e
      · have := l1 n hn; omega
      · exact e
    · intro hn
      rcases List.mem_cons.1 ((h n).2 (List.mem_cons_of_mem _ hn)) with e | e
      · have := k1 n hn; omega
      · exact e
theorem hasP_nn {ps : List R54} (h : OkP ps) {n : Int} (hn : hasP ps n = true) : 0 ≤ n := by
  obtain ⟨p, hp, h1, _⟩ := mem_nums.1 ((nums_has h).2 hn)
  have := (h.2 p hp).1
  omega
/-- The numbers are the document's. -/
theorem nums_rel {ps : List R54} {l : List Int} (h : RelP ps l) : numsR ps = l := by
  obtain ⟨h1, h2, h3, h4⟩ := h
  refine rise_ext (rise_nums h1.1) h2 fun n => ?_
  rw [nums_has h1]
  constructor
  · intro hn
    exact (h4 n (hasP_nn h1 hn)).2 hn
  · intro hn
    exact (h4 n (h3 n hn).1).1 hn
/-! ### List -/
theorem rowS_eq {ps : List R54} (h : OkP ps) : (ps.map prP).map rowS = ps.map (encS C.t54) := by
  rw [List.map_map]
  refine List.map_congr_left fun p hp => ?_
  obtain ⟨h1, h2, h3⟩ := h.2 p hp
  show [SV.v (.int .i64 p.At), SV.v (.int .u64 ((p.Bits.toNat : Nat) : Int))] = [SV.v (.int .i64 p.At), SV.v (.int .u64 p.Bits)]
  rw [show ((p.Bits.toNat : Nat) : Int) = p.Bits by omega]
theorem resS_lst {g : Gh} {H : Array Go.Obj} {v : Value} (l : List Int) (h : Rep g H v (resS l)) : Rep g H v (.lst 1 (l.map encS_i64)) := by
  cases l with
  | nil =>
    obtain rfl := rep_v h
    exact .nil
  | cons z l => exact h
theorem list_call {ps : List R54} (h : OkP ps) : HCall Tryd.prog 30 [] [.agg [.lst 2 (ps.map (encS C.t54))]] [] (.lst 1 ((numsR ps).map encS_i64)) := by
  have hl : (nmL (ps.map prP)).length ≤ 1048576 := by
    have := len_nums ps
    have := h.len
    show (numsR ps).length ≤ _
    omega
  intro g w vs hp hr
  exact (list_hcall (ps.map prP) (psOk h) hl _ (.inr (by rw [rowS_eq h])) g w vs hp hr).mono fun e w' ⟨v, g', he, hv, hq⟩ => ⟨v, g', he, resS_lst _ hv, hq⟩
end Go.Proofs.YtmcflglkfgnbbaaDoor.Bt

/- The numbers of a set as a list: the contract; lists are the same; how many numbers there are. -/
namespace Go.Proofs.YtmcflglkfgnbbaaDoor.Bt
open Go Go.RowKit Go.Proofs.YtmcflglkfgnbbaaDoor.Eng Go.Proofs.YtmcflglkfgnbbaaDoor.Nd Go.Proofs.YtmcflglkfgnbbaaDoor.Pu
set_option linter.unusedVariables false
set_option linter.unusedSimpArgs false
set_option maxRecDepth 20000
def d30 (objs : List (TO U)) (args : List (TV U)) : Option (List R54) := match objs, args with
  | [], [a0] =>
    match a0 with
    | .agg [q0] =>
      match q0 with
      | .lst .t54 ps =>
        some ps
      | _ => none
    | _ => none
  | _, _ => none
theorem d30_ok {objs : List (TO U)} {args : List (TV U)} {ps : List R54} (h : d30 objs args = some ps) : objs = [] ∧ args = [.agg [.lst .t54 ps]] := by
  unfold d30 at h
  repeat' split at h
  all_goals first | (cases h; done) | (cases h; exact ⟨rfl, rfl⟩)
noncomputable def sList0 : Spc U := .of d30 (fun ps => PWith ps) (fun _ => []) fun ps => .lst .i64 (numsR ps)
theorem sList0_ok : SpecOk Tryd.prog 30 sList0 := by
  refine ⟨⟨_, Tryd.func30, by kernel_rfl, by kernel_rfl⟩, fun objs args => ?_, fun objs args objs' res h h1 h2 h3 => ?_⟩
  · intro R k r h'
    unfold sList0 Spc.of at h' ⊢
    dsimp only at h' ⊢
    cases hd : d30 objs args with
    | none => rw [hd] at h'; cases h'
    | some x =>
      rw [hd] at h'
      dsimp only at h' ⊢
      split at h' <;> try (cases h'; done)
      rename_i hp
      exact ⟨_, _, h', fun k' => by rw [if_pos hp]⟩
  · unfold sList0 Spc.of at h
    dsimp only at h
    split at h <;> try (cases h; done)
    rename_i x hd
    split at h <;> try (cases h; done)
    rename_i hp
    obtain ⟨rfl, rfl⟩ := d30_ok hd
    cases h
    exact ⟨list_call hp, Nat.le_refl _, fun i hi => rfl, rfl, rfl⟩
noncomputable def sList : Spc U := sList0.wkA [.a [.l .t54]]
theorem sList_ok : SpecOk Tryd.prog 30 sList := sList0_ok.wkA _
/-! ### Same -/
def an23 : Ann := ⟨fun | 0 => 35 | _ => 0, fun | 0 => 16 | _ => 0, fun _ => [], false⟩
def g23_S0 (xs : List
  Int) (ys : List
  Int) (v2 : Int) : TS U := mkS 26 [(0, TV.lst C.i64 xs), (1, TV.lst C.i64 ys), (5, TV.v (Value.int IntKind.i64 v2))] []
  0
theorem g23_e0 (lp : Lp
  U) (xs : List Int) (ys : List Int) (N : Nat) (v2 : Int) : fnLoop X E0 an23 lp Tryd.f23 0 N.succ (g23_S0 xs ys v2) =
  bif decide (v2 < (↑xs.length : Int)) then
  (getI xs v2).bind fun (z : X.U.T C.i64) =>
    (getI ys v2).bind fun (z_1 : X.U.T C.i64) =>
      bif !decide (z = z_1) then some (Exit.ret, mkS 26 [(4, TV.v (Value.bool false))] [] 0)
      else fnLoop X E0 an23 lp Tryd.f23 0 N (g23_S0 xs ys (IntKind.i64.wrap (v2 + 1)))
else some (Exit.exit 0, mkS 26 [] [] 0) := by kernel_rfl
theorem rounds23 (lp : Lp U) (xs ys : List Int) (hl : xs.length = ys.length) (hx : xs.length ≤ 100000000) : ∀ (m i : Nat), i + m = xs.length → fnLoop X E0 an23 lp Tryd.f23 0 (m + 1) (g23_S0 xs ys i) = cond (decide (xs.drop i = ys.drop i)) (some (.exit 0, mkS 26 [] [] 0)) (some (.ret, mkS 26 [(4, .v (.bool false))] [] 0)) := by
  intro m
  induction m with
  | zero => intro i hi; rw [g23_e0, decide_eq_false (by omega), List.drop_eq_nil_of_le (by omega), List.drop_eq_nil_of_le (by omega)]; rfl
  | succ m ih =>
    intro i hi
    obtain ⟨z, hz, hz2⟩ := getE (l := xs) (v := (i : Int)) (by omega) (by omega)
    obtain ⟨u, hu, hu2⟩ := getE (l := ys) (v := (i : Int)) (by omega) (by omega)
    rw [g23_e0, decide_eq_true (by omega), hz, hu, cond_true, Option.bind_some, Option.bind_some, drop_get (show xs[i]? = some z from hz2), drop_get (show ys[i]? = some u from hu2)]
    by_cases e : z = u
    · rw [decide_eq_true e, Bool.not_true, cond_false, wr (a := (i : Int) + 1) (by omega) (by omega)]
      have : decide (z :: xs.drop (i + 1) = u :: ys.drop (i + 1)) = decide (xs.drop (i + 1) = ys.drop (i + 1)) := by
        congr 1
        rw [e]
        simp
      rw [this]
      exact ih (i + 1) (by omega)
    · rw [decide_eq_false e]
      have : decide (z :: xs.drop (i + 1) = u :: ys.drop (i + 1)) = false := decide_eq_false fun h => e (List.cons.inj h).1
      rw [this]
      rfl
def P23 (xs ys : List Int) (i : Int) : Prop := xs.length = ys.length ∧ xs.length ≤ 100000000 ∧ i = 0
instance (xs ys : List Int) (i : Int) : Decidable (P23 xs ys i) := by unfold P23; infer_instance
def eqI (xs ys : List Int) : Bool := decide (xs = ys)
def dl23 (s : TS U) : Option (List Int × List Int × Int) := match told s 26 [0, 1, 5] 0, s.objs with
  | some [a0, a1, a2], [] =>
    match a0 with
    | .lst .i64 xs =>
      match a1 with
      | .lst .i64 ys =>
        match a2 with
        | .v (.int .i64 i) =>
          some (xs, ys, i)
        | _ => none
      | _ => none
    | _ => none
  | _, _ => none
theorem dl23_ok {s : TS U} {xs : List Int} {ys : List Int} {i : Int} (h : dl23 s = some (xs, ys, i)) : s = mkS (U := U) 26 ([0, 1, 5].zip ([.lst .i64 xs, .lst .i64 ys, .v (.int .i64 i)] : List (TV U))) ([] : List (TO U)) 0 := by
  unfold dl23 at h
  split at h <;> try (cases h; done)
  rename_i ht ho
  have hs := told_ok ht
  rw [ho] at hs
  repeat' split at h
  all_goals first | (cases h; done) | (cases h; exact hs)
def lc23 : LC U := .of2 dl23 (fun (xs, ys, i) => P23 xs ys i) (fun (xs, ys, i) => eqI xs ys) (.exit 0) (fun _ => mkS 26 [] [] 0) .ret fun _ => mkS 26 [(4, .v (.bool false))] [] 0
def lp23 : Lp U := lpL [(0, lc23)]
theorem lp23_ok : ∀ c, Tryd.f23.body = some c → LpOk X E0 an23 lp23 (loops c 0) := lpL_ok (by kernel_rfl) fun b L hm st p hs => by
  cases hm with
  | head =>
    obtain ⟨⟨xs, ys, i⟩, hx, ⟨h, h2, rfl⟩, rfl⟩ := LC.of2_some hs
    obtain rfl := dl23_ok hx
    refine ⟨_, (rounds23 _ xs ys h h2 xs.length 0 (Nat.zero_add _)).trans ?_⟩
    rw [List.drop_zero, List.drop_zero]
    show cond (eqI xs ys) _ _ = some (cond (eqI xs ys) _ _)
    cases eqI xs ys <;> rfl
  | tail _ hm => cases hm
theorem e23 (xs : List
  Int) (ys : List
  Int) : (evFn X E0 an23 lp23 Tryd.f23 [] [TV.lst C.i64 xs, TV.lst C.i64 ys] fun (o : List (TO X.U)) (v : TV X.U) =>
  some (o, v)) =
  bif !decide ((↑xs.length : Int) = (↑ys.length : Int)) then some ([], TV.v (Value.bool false))
else
  if P23 xs ys 0 then bif eqI xs ys then some ([], TV.v (Value.bool true)) else some ([], TV.v (Value.bool false))
  else none := by kernel_rfl
def d23 (objs : List (TO U)) (args : List (TV U)) : Option (List Int × List Int) := match objs, args with
  | [], [a0, a1] =>
    match a0 with
    | .lst .i64 xs =>
      match a1 with
      | .lst .i64 ys =>
        some (xs, ys)
      | _ => none
    | _ => none
  | _, _ => none
theorem d23_ok {objs : List (TO U)} {args : List (TV U)} {xs : List Int} {ys : List Int} (h : d23 objs args = some (xs, ys)) : objs = [] ∧ args = [.lst .i64 xs, .lst .i64 ys] := by
  unfold d23 at h
  repeat' split at h
  all_goals first | (cases h; done) | (cases h; exact ⟨rfl, rfl⟩)
def PSz (n : Nat) : Prop := n ≤ 100000000
instance (n : Nat) : Decidable (PSz n) := by unfold PSz; infer_instance
def sEqI0 : Spc U := .of d23 (fun (xs, ys) => PSz xs.length) (fun _ => []) fun (xs, ys) => .v (.bool (eqI xs ys))
theorem sEqI0_ok : SpecOk Tryd.prog 23 sEqI0 := by
  refine fn_ok X_ok mixed E0_ok an23 lp23 Tryd.func23 (by kernel_rfl) (by kernel_rfl) lp23_ok fun objs args x hx hp => ?_
  obtain ⟨xs, ys⟩ := x
  obtain ⟨rfl, rfl⟩ := d23_ok hx
  have hp : xs.length ≤ 100000000 := hp
  refine (e23 xs ys).trans ?_
  by_cases hl : xs.length = ys.length
  · rw [decide_eq_true (by omega), Bool.not_true, cond_false, if_pos (show P23 xs ys 0 from ⟨hl, hp, rfl⟩)]
    show _ = some ([], TV.v (Value.bool (eqI xs ys)))
    cases eqI xs ys <;> rfl
  · rw [decide_eq_false (by omega), Bool.not_false, cond_true]
    have : eqI xs ys = false := decide_eq_false fun e => hl (by rw [e])
    show _ = some ([], TV.v (Value.bool (eqI xs ys)))
    rw [this]
def sEqI : Spc U := sEqI0.wkA [.l .i64, .l .i64]
theorem sEqI_ok : SpecOk Tryd.prog 23 sEqI := sEqI0_ok.wkA _
end Go.Proofs.YtmcflglkfgnbbaaDoor.Bt

/- How many numbers there are. -/
namespace Go.Proofs.YtmcflglkfgnbbaaDoor.Bt
open Go Go.RowKit Go.Proofs.YtmcflglkfgnbbaaDoor.Eng Go.Proofs.YtmcflglkfgnbbaaDoor.Nd Go.Proofs.YtmcflglkfgnbbaaDoor.Pu
set_option linter.unusedVariables false
set_option linter.unusedSimpArgs false
set_option maxRecDepth 20000
abbrev andI (a b : Int) : Int := IntKind.u64.wrap ((BitVec.ofInt IntKind.u64.bits a &&& BitVec.ofInt IntKind.u64.bits b).toNat : Nat)
abbrev addI (a b : Int) : Int := IntKind.u64.wrap (a + b)
abbrev shrI (a b : Int) : Int := a.fdiv (2 ^ min b.toNat IntKind.u64.bits)
def o1 (x : Int) : Int := addI (andI (shrI x 1) 6148914691236517205) (andI x 6148914691236517205)
def o2 (x : Int) : Int := addI (andI (shrI x 2) 3689348814741910323) (andI x 3689348814741910323)
def o3 (x : Int) : Int := andI (addI (shrI x 4) x) 1085102592571150095
def o4 (r x : Int) : Int := addI x (shrI x r)
def o5 (x : Int) : Int := IntKind.i64.wrap ((BitVec.ofInt IntKind.i64.bits (IntKind.i64.wrap x) &&& BitVec.ofInt IntKind.i64.bits 127).toNat : Nat)
theorem e42 (x : Int) : (evFn X E0 an0 lp0 Tryd.f42 [] [.v (.int .u64 x)] fun o v => some (o, v)) = some ([], .v (.int .i64 (o5 (o4 32 (o4 16 (o4 8 (o3 (o2 (o1 x))))))))) := by kernel_rfl
theorem sh_n (a r : Nat) (h : r < 64) : shrI (a : Int) (r : Int) = ((a / 2 ^ r : Nat) : Int) := by
  have := shr_k a r (by omega) (by omega)
  rwa [Int.toNat_natCast] at this
theorem an_n {a b : Nat} (ha : a < 18446744073709551616) (hb : b < 18446744073709551616) : andI (a : Int) (b : Int) = ((a &&& b : Nat) : Int) := and_k ha hb
theorem ad_n {a b : Nat} (h : a + b < 18446744073709551616) : addI (a : Int) (b : Int) = ((a + b : Nat) : Int) := by
  have : ((a : Int) + (b : Int)) = ((a + b : Nat) : Int) := by simp
  unfold addI
  rw [this]
  exact wrapN h
theorem mk85 : mk 85 8 = 6148914691236517205 := by decide
theorem mk51 : mk 51 8 = 3689348814741910323 := by decide
theorem mk15 : mk 15 8 = 1085102592571150095 := by decide
theorem o1_n (x : Nat) (h : x < 18446744073709551616) : o1 (x : Int) = ((s1 8 x : Nat) : Int) ∧ s1 8 x < 12297829382473034411 := by
  have b1 : x / 2 &&& 6148914691236517205 ≤ 6148914691236517205 := Nat.and_le_right
  have b2 : x &&& 6148914691236517205 ≤ 6148914691236517205 := Nat.and_le_right
  have e1 := sh_n x 1 (by decide)
  have e2 := an_n (a := x / 2 ^ 1) (b := 6148914691236517205) (by omega) (by decide)
  have e3 := an_n (a := x) (b := 6148914691236517205) h (by decide)
  unfold o1 s1
  rw [mk85]
  refine ⟨?_, by omega⟩
  have e1' : shrI (x : Int) 1 = ((x / 2 ^ 1 : Nat) : Int) := e1
  rw [e1']
  have e2' : andI ((x / 2 ^ 1 : Nat) : Int) 6148914691236517205 = ((x / 2 ^ 1 &&& 6148914691236517205 : Nat) : Int) := e2
  have e3' : andI (x : Int) 6148914691236517205 = ((x &&& 6148914691236517205 : Nat) : Int) := e3
  rw [e2', e3', ad_n (by rw [Nat.pow_one]; omega), Nat.pow_one]
theorem o2_n (x : Nat) (h : x < 18446744073709551616) : o2 (x : Int) = ((s2 8 x : Nat) : Int) ∧ s2 8 x < 7378697629483820647 := by
  have b1 : x / 4 &&& 3689348814741910323 ≤ 3689348814741910323 := Nat.and_le_right
  have b2 : x &&& 3689348814741910323 ≤ 3689348814741910323 := Nat.and_le_right
  have e1' : shrI (x : Int) 2 = ((x / 2 ^ 2 : Nat) : Int) := sh_n x 2 (by decide)
  have e2' : andI ((x / 2 ^ 2 : Nat) : Int) 3689348814741910323 = ((x / 2 ^ 2 &&& 3689348814741910323 : Nat) : Int) := an_n (by omega) (by decide)
  have e3' : andI (x : Int) 3689348814741910323 = ((x &&& 3689348814741910323 : Nat) : Int) := an_n h (by decide)
  have hp : (2 : Nat) ^ 2 = 4 := rfl
  unfold o2 s2
  rw [mk51]
  refine ⟨?_, by omega⟩
  rw [e1', e2', e3', ad_n (by rw [hp]; omega), hp]
theorem o3_n (x : Nat) (h : x < 7378697629483820647) : o3 (x : Int) = ((s3 8 x : Nat) : Int) ∧ s3 8 x < 1085102592571150096 := by
  have b1 : x / 16 + x &&& 1085102592571150095 ≤ 1085102592571150095 := Nat.and_le_right
  have e1' : shrI (x : Int) 4 = ((x / 2 ^ 4 : Nat) : Int) := sh_n x 4 (by decide)
  have hp : (2 : Nat) ^ 4 = 16 := rfl
  rw [hp] at e1'
  have e2' : addI ((x / 16 : Nat) : Int) (x : Int) = ((x / 16 + x : Nat) : Int) := ad_n (by omega)
  have e3' : andI ((x / 16 + x : Nat) : Int) 1085102592571150095 = ((x / 16 + x &&& 1085102592571150095 : Nat) : Int) := an_n (by omega) (by decide)
  unfold o3 s3
  rw [mk15]
  refine ⟨?_, by omega⟩
  rw [e1', e2', e3']
theorem o4_n (r x : Nat) (hr : r < 64) (h : x + x / 2 ^ r < 18446744073709551616) : o4 (r : Int) (x : Int) = ((x + x / 2 ^ r : Nat) : Int) := by
  unfold o4
  rw [sh_n x r hr]
  exact ad_n h
theorem o5_n (x : Nat) (h : x < 9223372036854775808) : o5 (x : Int) = ((x % 128 : Nat) : Int) := by
  unfold o5
  have e0 : IntKind.i64.wrap (x : Int) = (x : Int) := wrap_i64 (by omega) (by omega)
  have e1 : (BitVec.ofInt IntKind.i64.bits (x : Int) &&& BitVec.ofInt IntKind.i64.bits 127).toNat = x &&& 127 := by
    show (BitVec.ofInt 64 (x : Int) &&& BitVec.ofInt 64 ((127 : Nat) : Int)).toNat = _
    rw [ofIntN, ofIntN, BitVec.toNat_and, BitVec.toNat_ofNat, BitVec.toNat_ofNat, Nat.mod_eq_of_lt (by rw [lt64]; omega), Nat.mod_eq_of_lt (by rw [lt64]; omega)]
  have e2 : x &&& 127 = x % 128 := Nat.and_two_pow_sub_one_eq_mod x 7
  rw [e0, e1, e2]
  exact wrap_i64 (by omega) (by omega)
theorem ones_all (x : Nat) (h : x < 18446744073709551616) : o5 (o4 32 (o4 16 (o4 8 (o3 (o2 (o1 (x : Int))))))) = ((pc 64 x : Nat) : Int) := by
  obtain ⟨h1, h2⟩ := o1_n x h
  obtain ⟨h3, h4⟩ := o2_n (s1 8 x) (by omega)
  obtain ⟨h5, h6⟩ := o3_n _ h4
  rw [h1, h3, h5, ← ones_pc]
  unfold ones
  dsimp only
  generalize s3 8 (s2 8 (s1 8 x)) = y at *
  have e8 : o4 8 (y : Int) = ((y + y / 256 : Nat) : Int) := o4_n 8 y (by decide) (by omega)
  rw [e8]
  obtain ⟨z, hz⟩ : ∃ z, y + y / 256 = z := ⟨_, rfl⟩
  rw [hz]
  have hzb : z < 1089341274573381151 := by omega
  have e16 : o4 16 (z : Int) = ((z + z / 65536 : Nat) : Int) := o4_n 16 z (by decide) (by omega)
  rw [e16]
  obtain ⟨w, hw⟩ : ∃ w, z + z / 65536 = w := ⟨_, rfl⟩
  rw [hw]
  have hwb : w < 1089357896602106942 := by omega
  have e32 : o4 32 (w : Int) = ((w + w / 4294967296 : Nat) : Int) := o4_n 32 w (by decide) (by omega)
  rw [e32, o5_n _ (by omega)]
def du (objs : List (TO U)) (args : List (TV U)) : Option (Int) := match objs, args with
  | [], [a0] =>
    match a0 with
    | .v (.int .u64 x) =>
      some x
    | _ => none
  | _, _ => none
theorem du_ok {objs : List (TO U)} {args : List (TV U)} {x : Int} (h : du objs args = some x) : objs = [] ∧ args = [.v (.int .u64 x)] := by
  unfold du at h
  repeat' split at h
  all_goals first | (cases h; done) | (cases h; exact ⟨rfl, rfl⟩)
def B64 (x : Int) : Prop := 0 ≤ x ∧ x < 18446744073709551616
instance (x : Int) : Decidable (B64 x) := by unfold B64; infer_instance
def pcI (x : Int) : Int := ((pc 64 x.toNat : Nat) : Int)
def sOnes : Spc U := .of du (fun x => B64 x) (fun x => []) fun x => .v (.int .i64 (pcI x))
theorem sOnes_ok : SpecOk Tryd.prog 42 sOnes := by
  refine fn_ok X_ok mixed E0_ok an0 lp0 Tryd.func42 (by kernel_rfl) (by kernel_rfl) (lp0_ok (by kernel_rfl)) fun objs args x hx hp => ?_
  obtain ⟨rfl, rfl⟩ := du_ok hx
  obtain ⟨hp1, hp2⟩ := hp
  obtain ⟨y, rfl⟩ : ∃ y : Nat, x = (y : Int) := ⟨x.toNat, by omega⟩
  unfold pcI
  rw [e42, ones_all y (by omega), Int.toNat_natCast]
def E33 : FuncId → Option (Spc U)
  | 42 => some sOnes
  | _ => none
theorem E33_ok : ∀ f S, E33 f = some S → SpecOk Tryd.prog f S := fun f S h => by
  unfold E33 at h
  split at h
  · cases h; exact sOnes_ok
  · cases h
def an33 : Ann := ⟨fun | 0 => 904 | _ => 0, fun | 0 => 12 | _ => 0, fun _ => [], false⟩
def g33_S0 (ps : List
  R54) (v0 : Int) (v3 : Int) : TS U := mkS 20
  [(3, TV.v (Value.int IntKind.i64 v0)), (7, TV.lst C.t54 ps), (8, TV.v (Value.int IntKind.i64 (↑ps.length : Int))),
    (9, TV.v (Value.int IntKind.i64 v3))]
  [] 0
theorem g33_e0 (lp : Lp
  U) (ps : List R54) (N : Nat) (v0 : Int) (v3 : Int) : fnLoop X E33 an33 lp Tryd.f33 0 N.succ (g33_S0 ps v0 v3) =
  bif decide (v3 < (↑ps.length : Int)) then
  (getI ps v3).bind fun (z : X.U.T C.t54) =>
    if B64 z.Bits then
      fnLoop X E33 an33 lp Tryd.f33 0 N (g33_S0 ps (IntKind.i64.wrap (v0 + pcI z.Bits)) (IntKind.i64.wrap (v3 + 1)))
    else none
else some (Exit.exit 0, mkS 20 [(3, TV.v (Value.int IntKind.i64 v0))] [] 0) := by kernel_rfl
theorem many_nums {ps : List R54} : ((numsR ps).length : Int) = (ps.map fun p => pcI p.Bits).sum := by
  induction ps with
  | nil => rfl
  | cons p ps ih =>
    rw [numsR_cons, List.length_append, List.map_cons, List.sum_cons, ← ih, Bl.bitsL_pc]
    unfold pcI
    omega
theorem pcI_le (x : Int) : 0 ≤ pcI x ∧ pcI x ≤ 64 := by
  have := pc_le 64 x.toNat
  unfold pcI
  omega
theorem dropG {α : Type} {l : List α} {i : Nat} {z : α} (h : l[i]? = some z) : l.drop i = z :: l.drop (i + 1) := by
  rw [List.drop_eq_getElem_cons (List.getElem?_eq_some_iff.1 h).1, (List.getElem?_eq_some_iff.1 h).2]
theorem rounds33 (lp : Lp U) (ps : List R54) (h : OkP ps) : ∀ (m i : Nat) (a : Int), i + m = ps.length → 0 ≤ a → a ≤ 64 * i → fnLoop X E33 an33 lp Tryd.f33 0 (m + 1) (g33_S0 ps a i) = some (.exit 0, mkS 20 [(3, .v (.int .i64 (a + ((ps.drop i).map fun p => pcI p.Bits).sum)))] [] 0) := by
  have hlen := h.len
  intro m
  induction m with
  | zero => intro i a hi h0 h1; rw [g33_e0, decide_eq_false (by omega), List.drop_eq_nil_of_le (by omega)]; show some (_, mkS 20 [(3, .v (.int .i64 a))] [] _) = some (_, mkS 20 [(3, .v (.int .i64 (a + 0)))] [] _); rw [Int.add_zero]
  | succ m ih =>
    intro i a hi h0 h1
    obtain ⟨z, hz, hz2⟩ := getE (l := ps) (v := (i : Int)) (by omega) (by omega)
    have hz3 : ps[i]? = some z := hz2
    have hb := h.2 z (List.mem_of_getElem? hz3)
    obtain ⟨p1, p2⟩ := pcI_le z.Bits
    rw [g33_e0, decide_eq_true (by omega), hz, cond_true, Option.bind_some, if_pos (show B64 z.Bits from ⟨by omega, hb.2.2⟩), wr (a := a + pcI z.Bits) (by omega) (by omega), wr (a := (i : Int) + 1) (by omega) (by omega), dropG hz3, List.map_cons, List.sum_cons]
    have := ih (i + 1) (a + pcI z.Bits) (by omega) (by omega) (by omega)
    rw [Int.add_assoc] at this
    exact this
def P33 (ps : List R54) (a n i : Int) : Prop := OkP ps ∧ a = 0 ∧ n = ps.length ∧ i = 0
noncomputable instance (ps : List R54) (a n i : Int) : Decidable (P33 ps a n i) := Classical.propDecidable _
def mnI (ps : List R54) : Int := (numsR ps).length
def dl33 (s : TS U) : Option (Int × List R54 × Int × Int) := match told s 20 [3, 7, 8, 9] 0, s.objs with
  | some [a0, a1, a2, a3], [] =>
    match a0 with
    | .v (.int .i64 a) =>
      match a1 with
      | .lst .t54 ps =>
        match a2 with
        | .v (.int .i64 n) =>
          match a3 with
          | .v (.int .i64 i) =>
            some (a, ps, n, i)
          | _ => none
        | _ => none
      | _ => none
    | _ => none
  | _, _ => none
theorem dl33_ok {s : TS U} {a : Int} {ps : List R54} {n : Int} {i : Int} (h : dl33 s = some (a, ps, n, i)) : s = mkS (U := U) 20 ([3, 7, 8, 9].zip ([.v (.int .i64 a), .lst .t54 ps, .v (.int .i64 n), .v (.int .i64 i)] : List (TV U))) ([] : List (TO U)) 0 := by
  unfold dl33 at h
  split at h <;> try (cases h; done)
  rename_i ht ho
  have hs := told_ok ht
  rw [ho] at hs
  repeat' split at h
  all_goals first | (cases h; done) | (cases h; exact hs)
noncomputable def lc33 : LC U := .of dl33 (fun (a, ps, n, i) => P33 ps a n i) (.exit 0) fun (a, ps, n, i) => mkS 20 [(3, .v (.int .i64 (mnI ps)))] [] 0
noncomputable def lp33 : Lp U := lpL [(0, lc33)]
theorem lp33_ok : ∀ c, Tryd.f33.body = some c → LpOk X E33 an33 lp33 (loops c 0) := lpL_ok (by kernel_rfl) fun b L hm st p hs => by
  cases hm with
  | head =>
    obtain ⟨⟨a, ps, n, i⟩, hx, ⟨h, rfl, rfl, rfl⟩, rfl⟩ := LC.of_some hs
    obtain rfl := dl33_ok hx
    refine ⟨_, (rounds33 _ ps h ps.length 0 0 (Nat.zero_add _) (Int.le_refl _) (by omega)).trans ?_⟩
    rw [List.drop_zero, Int.zero_add]
    show some (_, _) = some (_, mkS 20 [(3, .v (.int .i64 (mnI ps)))] [] 0)
    unfold mnI
    rw [many_nums]
  | tail _ hm => cases hm
theorem e33 (ps : List
  R54) : (evFn X E33 an33 lp33 Tryd.f33 [] [TV.agg [TV.lst C.t54 ps]] fun (o : List (TO X.U)) (v : TV X.U) =>
  some (o, v)) =
  if P33 ps 0 (↑ps.length : Int) 0 then some ([], TV.v (Value.int IntKind.i64 (mnI ps))) else none := by kernel_rfl
noncomputable def sMany0 : Spc U := .of d30 (fun ps => PWith ps) (fun _ => []) fun ps => .v (.int .i64 (mnI ps))
theorem sMany0_ok : SpecOk Tryd.prog 33 sMany0 := by
  refine fn_ok X_ok mixed E33_ok an33 lp33 Tryd.func33 (by kernel_rfl) (by kernel_rfl) lp33_ok fun objs args ps hx hp => ?_
  obtain ⟨rfl, rfl⟩ := d30_ok hx
  exact (e33 ps).trans (if_pos (show P33 ps 0 ps.length 0 from ⟨hp, rfl, rfl, rfl⟩))
noncomputable def sMany : Spc U := sMany0.wkA [.a [.l .t54]]
theorem sMany_ok : SpecOk Tryd.prog 33 sMany := sMany0_ok.wkA _
/-! ### Empty, same -/
theorem e37 (ps : List
  R54) : (evFn X E0 an0 lp0 Tryd.f37 [] [TV.agg [TV.lst C.t54 ps]] fun (o : List (TO X.U)) (v : TV X.U) =>
  some (o, v)) =
  some ([], TV.v (Value.bool (decide ((↑ps.length : Int) = 0)))) := by kernel_rfl
def sEmp0 : Spc U := .of d30 (fun ps => True) (fun _ => []) fun ps => .v (.bool (decide ((ps.length : Int) = 0)))
theorem sEmp0_ok : SpecOk Tryd.prog 37 sEmp0 := by
  refine fn_ok X_ok mixed E0_ok an0 lp0 Tryd.func37 (by kernel_rfl) (by kernel_rfl) (lp0_ok (by kernel_rfl)) fun objs args ps hx hp => ?_
  obtain ⟨rfl, rfl⟩ := d30_ok hx
  exact e37 ps
def sEmp : Spc U := sEmp0.wkA [.a [.l .t54]]
theorem sEmp_ok : SpecOk Tryd.prog 37 sEmp := sEmp0_ok.wkA _
noncomputable def E13 : FuncId → Option (Spc U)
  | 30 => some sList
  | 23 => some sEqI
  | 33 => some sMany
  | 37 => some sEmp
  | _ => none
theorem E13_ok : ∀ f S, E13 f = some S → SpecOk Tryd.prog f S := fun f S h => by
  unfold E13 at h
  split at h
  · cases h; exact sList_ok
  · cases h; exact sEqI_ok
  · cases h; exact sMany_ok
  · cases h; exact sEmp_ok
  · cases h
theorem e13 (ps : List
  R54) (l : List
  Int) : (evFn X E13 an0 lp0 Tryd.f13 [] [TV.agg [TV.lst C.t54 ps], TV.lst C.i64 l]
  fun (o : List (TO X.U)) (v : TV X.U) => some (o, v)) =
  if PWith ps then
  if PSz (numsR ps).length then
    bif eqI (numsR ps) l then
      if PWith ps then
        bif decide (mnI ps = (↑l.length : Int)) then
          if True then some ([], TV.v (Value.bool (decide ((↑ps.length : Int) = 0) == decide ((↑l.length : Int) = 0))))
          else none
        else some ([], TV.v (Value.bool false))
      else none
    else some ([], TV.v (Value.bool false))
  else none
else none := by kernel_rfl
end Go.Proofs.YtmcflglkfgnbbaaDoor.Bt

/- A set is the document's list; the law's first words are run. -/
namespace Go.Proofs.YtmcflglkfgnbbaaDoor.Bt
open Go Go.RowKit Go.Proofs.YtmcflglkfgnbbaaDoor.Eng Go.Proofs.YtmcflglkfgnbbaaDoor.Nd
set_option linter.unusedVariables false
set_option linter.unusedSimpArgs false
set_option maxRecDepth 20000
theorem nums_none {ps : List R54} (h : OkP ps) : (ps.length : Int) = 0 ↔ ((numsR ps).length : Int) = 0 := by
  cases ps with
  | nil => exact ⟨fun _ => rfl, fun _ => rfl⟩
  | cons p ps =>
    have hb := (h.2 p List.mem_cons_self).2
    have hs := Bl.bitsL_step p.At (x := p.Bits.toNat) (by omega) (by rw [Pu.lt64]; omega)
    rw [numsR_cons, hs]
    simp
    omega
def PSm (ps : List R54) (l : List Int) : Prop := RelP ps l
noncomputable instance (ps : List R54) (l : List Int) : Decidable (PSm ps l) := Classical.propDecidable _
def d13 (objs : List (TO U)) (args : List (TV U)) : Option (List R54 × List Int) := match objs, args with
  | [], [a0, a1] =>
    match a0 with
    | .agg [q0] =>
      match q0 with
      | .lst .t54 ps =>
        match a1 with
        | .lst .i64 l =>
          some (ps, l)
        | _ => none
      | _ => none
    | _ => none
  | _, _ => none
theorem d13_ok {objs : List (TO U)} {args : List (TV U)} {ps : List R54} {l : List Int} (h : d13 objs args = some (ps, l)) : objs = [] ∧ args = [.agg [.lst .t54 ps], .lst .i64 l] := by
  unfold d13 at h
  repeat' split at h
  all_goals first | (cases h; done) | (cases h; exact ⟨rfl, rfl⟩)
noncomputable def sSm0 : Spc U := .of d13 (fun (ps, l) => PSm ps l) (fun _ => []) fun _ => .v (.bool true)
theorem sSm0_ok : SpecOk Tryd.prog 13 sSm0 := by
  refine fn_ok X_ok mixed E13_ok an0 lp0 Tryd.func13 (by kernel_rfl) (by kernel_rfl) (lp0_ok (by kernel_rfl)) fun objs args x hx hp => ?_
  obtain ⟨ps, l⟩ := x
  obtain ⟨rfl, rfl⟩ := d13_ok hx
  have hp : RelP ps l := hp
  have hn := nums_rel hp
  have hok := hp.1
  have hz := nums_none hok
  have hl : PSz (numsR ps).length := by
    have := len_nums ps
    have := hok.len
    unfold PSz
    omega
  refine (e13 ps l).trans ?_
  rw [if_pos (show PWith ps from hok), if_pos hl, if_pos (show PWith ps from hok), if_pos trivial]
  unfold mnI
  rw [hn] at hz ⊢
  have e1 : eqI l l = true := decide_eq_true rfl
  rw [e1, cond_true, decide_eq_true rfl, cond_true]
  have : decide ((ps.length : Int) = 0) = decide ((l.length : Int) = 0) := by
    congr 1
    exact propext hz
  rw [this, beq_self_eq_true]
noncomputable def sSm : Spc U := sSm0.wkA [.a [.l .t54], .l .i64]
theorem sSm_ok : SpecOk Tryd.prog 13 sSm := sSm0_ok.wkA _
/-! ### awake: it is run -/
def rb29 : Ann := ⟨fun _ => 0, fun _ => 0, fun _ => [], false⟩
def rb36 : Ann := ⟨fun | 0 => 460 | _ => 0, fun | 0 => 12 | _ => 0, fun _ => [], false⟩
def rb65 : Ann := ⟨fun _ => 0, fun _ => 0, fun _ => [], false⟩
def rb66 : Ann := ⟨fun | 0 => 904 | _ => 0, fun | 0 => 12 | _ => 0, fun _ => [], false⟩
def rb60 : Ann := ⟨fun _ => 0, fun _ => 0, fun _ => [], false⟩
def rb81 : Ann := ⟨fun _ => 0, fun _ => 0, fun _ => [], false⟩
def rb90 : Ann := ⟨fun | 0 => 1799 | _ => 0, fun | 0 => 967 | _ => 0, fun _ => [], false⟩
def rb91 : Ann := ⟨fun _ => 0, fun _ => 0, fun _ => [], false⟩
def rb82 : Ann := ⟨fun _ => 0, fun _ => 0, fun _ => [], false⟩
def rb85 : Ann := ⟨fun _ => 0, fun _ => 0, fun _ => [], false⟩
/-- One element put into a row. -/
def sInsC : Spc U := .of dNP (fun (ys, i) => ys.length = 1 ∧ i = 0) (fun (ys, i) => [.dead ys.length, .row .t54 ys false]) fun _ => .full 1
theorem sInsC_ok : SpecOk Tryd.prog 36 sInsC := by
  refine SpecOk.of sInsPN_ok fun objs args x hx hp => ?_
  obtain ⟨ys, i⟩ := x
  obtain ⟨h1, rfl⟩ := hp
  have h1 : ys.length = 1 := h1
  unfold sInsPN Spc.of
  dsimp only
  rw [hx]
  exact if_pos (show PreN ys.length 0 from ⟨h1, rfl⟩)
def sInsD : Spc U := .of dIP (fun (xs, ys, i) => ys.length = 1 ∧ xs.length ≤ 1000 ∧ 0 ≤ i ∧ i ≤ xs.length) (fun (xs, ys, i) => [.dead xs.length, .row .t54 ys false, .row .t54 (insL xs ys i) false]) fun _ => .full 2
theorem sInsD_ok : SpecOk Tryd.prog 36 sInsD := by
  refine SpecOk.of sInsP0_ok fun objs args x hx hp => ?_
  obtain ⟨xs, ys, i⟩ := x
  obtain ⟨h1, h2, h3, h4⟩ := hp
  unfold sInsP0 Spc.of
  dsimp only
  rw [hx]
  exact if_pos (show PreIns xs.length ys.length 16 i from ⟨h3, h4, h1, by omega⟩)
def Eaw : FuncId → Option (Spc U)
  | 36 => some (alt isNl sInsC sInsD)
  | _ => none
theorem Eaw_ok : ∀ f S, Eaw f = some S → SpecOk Tryd.prog f S := fun f S h => by
  unfold Eaw at h
  split at h
  · cases h; exact alt_ok sInsC_ok sInsD_ok
  · cases h
noncomputable def fsB : FuncId → Option (Func × Ann)
  | 9 => some (Tryd.f9, rb29)
  | 28 => some (Tryd.f28, rb36)
  | 11 => some (Tryd.f11, rb65)
  | 33 => some (Tryd.f33, rb66)
  | 10 => some (Tryd.f10, rb60)
  | 34 => some (Tryd.f34, rb81)
  | 43 => some (Tryd.f43, rb90)
  | 44 => some (Tryd.f44, rb91)
  | 35 => some (Tryd.f35, { rb82 with own := true })
  | 42 => some (Tryd.f42, rb85)
  | _ => none
theorem fsB_ok : ∀ f fn an, fsB f = some (fn, an) → Runs Tryd.prog f fn := fun f fn an h => by
  unfold fsB at h
  split at h
  · cases h; exact ⟨Tryd.func9, by kernel_rfl, by kernel_rfl, by kernel_rfl⟩
  · cases h; exact ⟨Tryd.func28, by kernel_rfl, by kernel_rfl, by kernel_rfl⟩
  · cases h; exact ⟨Tryd.func11, by kernel_rfl, by kernel_rfl, by kernel_rfl⟩
  · cases h; exact ⟨Tryd.func33, by kernel_rfl, by kernel_rfl, by kernel_rfl⟩
  · cases h; exact ⟨Tryd.func10, by kernel_rfl, by kernel_rfl, by kernel_rfl⟩
  · cases h; exact ⟨Tryd.func34, by kernel_rfl, by kernel_rfl, by kernel_rfl⟩
  · cases h; exact ⟨Tryd.func43, by kernel_rfl, by kernel_rfl, by kernel_rfl⟩
  · cases h; exact ⟨Tryd.func44, by kernel_rfl, by kernel_rfl, by kernel_rfl⟩
  · cases h; exact ⟨Tryd.func35, by kernel_rfl, by kernel_rfl, by kernel_rfl⟩
  · cases h; exact ⟨Tryd.func42, by kernel_rfl, by kernel_rfl, by kernel_rfl⟩
  · cases h
set_option maxHeartbeats 0 in
theorem e29 : evFn X (runE X Eaw fsB 60 3 20) rb29 lp0 Tryd.f9 [] [] (fun o v => some (o, v)) = some ([], .v (.bool true)) := by kernel_rfl
def d00 (objs : List (TO U)) (args : List (TV U)) : Option (Unit) := match objs, args with
  | [], [] =>
    some ()
  | _, _ => none
theorem d00_ok {objs : List (TO U)} {args : List (TV U)} (h : d00 objs args = some ()) : objs = [] ∧ args = [] := by
  unfold d00 at h
  repeat' split at h
  all_goals first | (cases h; done) | (cases h; exact ⟨rfl, rfl⟩)
def sAwk : Spc U := .of d00 (fun _ => True) (fun _ => []) fun _ => .v (.bool true)
theorem sAwk_ok : SpecOk Tryd.prog 9 sAwk := by
  refine fn_ok X_ok mixed (runE_ok (N := 60) (k := 3) X_ok mixed Eaw_ok fsB_ok 20) rb29 lp0 Tryd.func9 (by kernel_rfl) (by kernel_rfl) (lp0_ok (by kernel_rfl)) fun objs args x hx hp => ?_
  obtain ⟨rfl, rfl⟩ := d00_ok hx
  exact e29
end Go.Proofs.YtmcflglkfgnbbaaDoor.Bt

/- Numbers are gone over: the contracts that are wanted, as the walk takes them. -/
namespace Go.Proofs.YtmcflglkfgnbbaaDoor.Bt
open Go Go.RowKit Go.Shelf Go.Proofs.YtmcflglkfgnbbaaDoor.Eng Go.Proofs.YtmcflglkfgnbbaaDoor.Nd Go.Proofs.YtmcflglkfgnbbaaDoor.Bl
set_option linter.unusedVariables false
set_option linter.unusedSimpArgs false
set_option maxRecDepth 20000
theorem hc_in {f : FuncId} {args : List SV} {res : SV} (key : HCall Tryd.prog f [] args [] res) (n : Nat) (FF : Nat → Prop) (w : World) (hFF : ∀ b, FF b → b < w.heap.size) (hT : TabsOk FF w) (vs : List Value) (hv : RepL (clo FF) w.heap vs args) :
    CallsIn Fence.wide n Tryd.prog f vs.toArray w fun e w' => ∃ v g', e = .returned v ∧ Rep g' w'.heap v res ∧ w.grownBy w' none ∧ ∀ b, g'.F b → b < w'.heap.size := by
  refine callsIn_wide.2 ?_
  refine (key (clo FF) w vs ⟨hT, hFF, fun i o hi => by simp at hi, fun _ _ => rfl, fun i j o o' b hi => by simp at hi⟩ hv).mono fun e w' ⟨v, g', he, hr, hp⟩ => ?_
  exact ⟨v, g', he, hr, ⟨hp.os, hp.tape, hp.output, hp.hsize, fun k hk _ => hp.base k hk fun ⟨i, o, hi, _⟩ => by simp at hi⟩, hp.Flt⟩
theorem awake_in (n : Nat) (FF : Nat → Prop) (w : World) (hFF : ∀ b, FF b → b < w.heap.size) (hT : TabsOk FF w) : CallsIn Fence.wide n Tryd.prog 9 #[] w fun e w' => e = .returned (.bool true) ∧ w.grownBy w' none := by
  refine (hc_in (sAwk_ok.ok [] [] [] (.v (.bool true)) rfl rfl rfl rfl).1 n FF w hFF hT [] .nil).mono ?_
  rintro e w' ⟨v, g', rfl, hv, hg, _⟩
  obtain rfl := rep_v hv
  exact ⟨rfl, hg⟩
/-- A slice of numbers, below. -/
inductive Ints (n₀ : Nat) (W : World) : Value → List Int → Prop where
  | nil {A : Option Addr} {cap : Nat} : Ints n₀ W (.slice A 0 cap) []
  | lst {b off cap : Nat} {l : List Int} (hb : b < n₀) (hc : ∀ (j : Nat) (z : Int), l[j]? = some z → W.cell? ⟨b, off + j, none⟩ = some (.int .i64 z)) : Ints n₀ W (.slice (some ⟨b, off, none⟩) l.length cap) l
theorem repR_get1 {g : Gh} {H : Array Go.Obj} : ∀ {l : List Int} {L : List Value}, RepR g H L 1 (l.map encS_i64) → ∀ (j : Nat) (z : Int), l[j]? = some z → L[j]? = some (.int .i64 z)
  | [], L, _, j, p, hp => by simp at hp
  | q :: l, L, h, j, p, hp => by
    generalize hr : (q :: l).map encS_i64 = rs at h
    cases h with
    | nil => cases hr
    | @cons xs ys m r rows hm hx ht =>
      rw [List.map_cons] at hr
      injection hr with e1 e2
      subst e1 e2
      have hx' : RepL g H xs [.v (.int .i64 q)] := hx
      cases hx' with
      | cons h1 t1 =>
        cases t1
        obtain rfl := rep_v h1
        cases j with
        | zero =>
          obtain rfl : q = p := by simpa using hp
          rfl
        | succ j => exact repR_get1 ht j p (by simpa using hp)
theorem ints_of {g : Gh} {W : World} {v : Value} {l : List Int} (hF : ∀ b, g.F b → b < W.heap.size) (h : Rep g W.heap v (.lst 1 (l.map encS_i64))) : Ints W.heap.size W v l := by
  generalize hr : l.map encS_i64 = rs at h
  cases h with
  | nil =>
    obtain rfl : l = [] := List.map_eq_nil_iff.1 hr
    exact .nil
  | @lst m b off n cap rows cs T fr hn hf hH hl hc hrr =>
    subst hr
    rw [List.length_map] at hn
    subst hn
    refine .lst (hF _ hf) fun j z hj => ?_
    have := repR_get1 hrr j z hj
    rw [List.getElem?_drop] at this
    rw [cell_toList hH]
    exact this
theorem parts_of {g : Gh} {W : World} {x : Value} {ps : List R54} (h : OkP ps) (hF : ∀ b, g.F b → b < W.heap.size) (hx : (Rep g W.heap x (.v (.slice none 0 0)) ∧ ps = []) ∨ Rep g W.heap x (.lst 2 (ps.map (encS C.t54)))) : Parts W.heap.size W x (ps.map prP) := by
  rcases hx with ⟨hx, rfl⟩ | hx
  · obtain rfl := rep_v hx
    exact .nil
  · rw [← rowS_eq h] at hx
    generalize hq : ps.map prP = qs at hx
    generalize hr : qs.map rowS = rs at hx
    cases hx with
    | nil =>
      obtain rfl : qs = [] := List.map_eq_nil_iff.1 hr
      exact .nil
    | @lst m b off n cap rows cs T fr hn hf hH hl hc hrr =>
      subst hr
      rw [List.length_map] at hn
      subst hn
      refine .lst (hF _ hf) fun j p hj => ?_
      obtain ⟨r1, r2⟩ := repR_rows hrr j p hj
      rw [List.getElem?_drop] at r1 r2
      rw [cell_toList hH, cell_toList hH]
      exact ⟨r1, r2⟩
theorem tup2 {g : Gh} {H : Array Go.Obj} {v : Value} {a b : SV} (h : Rep g H v (.tup [.agg [a], b])) : ∃ x y, v = .tuple #[.agg #[x], y] ∧ Rep g H x a ∧ Rep g H y b := by
  cases h with
  | @tup vs ss hl =>
    have hva : vs = vs.toList.toArray := by simp
    cases hv : vs.toList with
    | nil => rw [hv] at hl; cases hl
    | cons p r =>
      rw [hv] at hl
      cases hl with
      | cons h1 t1 =>
        cases t1 with
        | @cons y _ ys _ h2 t2 =>
          cases t2
          rw [hv] at hva
          cases h1 with
          | @agg us _ hl1 =>
            have hua : us = us.toList.toArray := by simp
            cases hu : us.toList with
            | nil => rw [hu] at hl1; cases hl1
            | cons x xs =>
              rw [hu] at hl1
              cases hl1 with
              | cons h3 t3 =>
                cases t3
                rw [hu] at hua
                exact ⟨x, y, by rw [hva, hua], h3, h2⟩
theorem set_in (n : Nat) (l : List Int) (y : Value) (w : World) (FF : Nat → Prop) (hFF : ∀ b, FF b → b < w.heap.size) (hT : TabsOk FF w) (hy : Rep (clo FF) w.heap y (.lst 1 (l.map encS_i64))) :
    CallsIn Fence.wide n Tryd.prog 7 #[y] w fun e w' => ∃ x v, e = .returned (.tuple #[.agg #[x], v]) ∧ Parts w'.heap.size w' x ((ofP (l.take 100)).map prP) ∧ Ints w'.heap.size w' v (ofR (l.take 100)) ∧ w.grownBy w' none := by
  have hok := (relP_of (l.take 100)).1
  cases hq : (ofP (l.take 100)).isEmpty with
  | true =>
    have key : HCall Tryd.prog 7 [] [.lst 1 (l.map encS_i64)] [] (.tup [.agg [.v (.slice none 0 0)], .lst 1 ((ofR (l.take 100)).map encS_i64)]) :=
      (sSet0_ok.ok [] [.lst .i64 l] [] (.tup [.agg [nlv], .lst .i64 (ofR (l.take 100))]) (by
        show (if True then cond (ofP (l.take 100)).isEmpty (some ([], _)) (some ([], _)) else none) = _
        rw [if_pos trivial, hq]
        rfl) rfl rfl rfl).1
    refine (hc_in key n FF w hFF hT [y] (.cons hy .nil)).mono ?_
    rintro e w' ⟨v, g', rfl, hv, hg, hF'⟩
    obtain ⟨x, z, rfl, hx, hz⟩ := tup2 hv
    exact ⟨x, z, rfl, parts_of hok hF' (.inl ⟨hx, List.isEmpty_iff.1 hq⟩), ints_of hF' hz, hg⟩
  | false =>
    have key : HCall Tryd.prog 7 [] [.lst 1 (l.map encS_i64)] [] (.tup [.agg [.lst 2 ((cP (ofP (l.take 100))).map (encS C.t54))], .lst 1 ((ofR (l.take 100)).map encS_i64)]) :=
      (sSet0_ok.ok [] [.lst .i64 l] [] (.tup [.agg [.lst .t54 (cP (ofP (l.take 100)))], .lst .i64 (ofR (l.take 100))]) (by
        show (if True then cond (ofP (l.take 100)).isEmpty (some ([], _)) (some ([], _)) else none) = _
        rw [if_pos trivial, hq]
        rfl) rfl rfl rfl).1
    rw [cP_eq hq] at key
    refine (hc_in key n FF w hFF hT [y] (.cons hy .nil)).mono ?_
    rintro e w' ⟨v, g', rfl, hv, hg, hF'⟩
    obtain ⟨x, z, rfl, hx, hz⟩ := tup2 hv
    exact ⟨x, z, rfl, parts_of hok hF' (.inr hx), ints_of hF' hz, hg⟩
theorem and63 (a : Int) : 0 ≤ bits .and .i64 a 63 ∧ bits .and .i64 a 63 ≤ 63 := by
  have e1 : bits .and .i64 a 63 = IntKind.wrap .i64 (((BitVec.ofInt 64 a &&& BitVec.ofInt 64 63).toNat : Nat) : Int) := rfl
  have e2 : (BitVec.ofInt 64 a &&& BitVec.ofInt 64 63).toNat ≤ 63 := by
    rw [BitVec.toNat_and]
    exact Nat.le_trans Nat.and_le_right (by decide)
  rw [e1, wrap_i64 (by omega) (by omega)]
  omega
end Go.Proofs.YtmcflglkfgnbbaaDoor.Bt


/- Texts of this claim, put together: part 10. -/
import Derived.Maps.AppendAt
import Derived.Test.YtmcflglkfgnbbaaDoorMzB
import Derived.Test.YtmcflglkfgnbbaaDoorMzE
import Derived.Test.YtmcflglkfgnbbaaDoorMzH
import Derived.Test.YtmcflglkfgnbbaaDoorMzI
/- The numbers of a set as a list. -/
namespace Go.Proofs.YtmcflglkfgnbbaaDoor.Bl
open Go Go.RowKit Go.Shelf Go.Proofs.YtmcflglkfgnbbaaDoor.Pu Go.Proofs.YtmcflglkfgnbbaaDoor.Eng
attribute [local go_sem] Oper.semAt_some
set_option linter.unusedVariables false
set_option linter.unusedSimpArgs false
set_option maxRecDepth 100000 in
set_option maxHeartbeats 4000000 in
theorem all1_nil (n : Nat) (l Bs cap : Nat) (A : Option Addr) (J : List Int → World → Prop) (W : World) (hBs : W.cell? ⟨Bs, 0, none⟩ = some (.slice A 0 cap)) (h0 : J [] W) :
    CallsIn Fence.wide n Tryd.prog 31 #[.func (.yield l) #[] #[], .pointer (some ⟨Bs, 0, none⟩)] W fun e W' => (∃ v, e = .returned v) ∧ J [] W' := by
  refine callsIn_of_wp Tryd.func31 rfl trivial ?_ rfl
  simp only [Tryd.ntmps31, List.size_toArray, List.length_cons, List.length_nil, Nat.reduceAdd, Nat.reduceSub, Array.replicate_succ, Array.replicate_zero, List.push_toArray, List.append_toArray, List.nil_append, List.cons_append]
  gi_wp2
  gi_loopw [9] (fun i wr => i = .int .i64 0 ∧ J [] wr) (fun _ _ => 0)
  case atStart => exact ⟨rfl, h0⟩
  case round =>
    obtain ⟨rfl, hJs⟩ := hrel
    gi_wp2
    go_end0
    exact ⟨⟨_, rfl⟩, hJs⟩
/-- A slice of parts, below. -/
inductive Parts (n₀ : Nat) (W : World) : Value → List (Int × Nat) → Prop where
  | nil {A : Option Addr} {cap : Nat} : Parts n₀ W (.slice A 0 cap) []
  | lst {b off cap : Nat} {ps : List (Int × Nat)} (hb : b < n₀) (hc : ∀ (j : Nat) (p : Int × Nat), ps[j]? = some p → W.cell? ⟨b, off + j * 2, none⟩ = some (.int .i64 p.1) ∧ W.cell? ⟨b, off + j * 2 + 1, none⟩ = some (.int .u64 (p.2 : Int))) : Parts n₀ W (.slice (some ⟨b, off, none⟩) ps.length cap) ps
theorem Parts.below {n₀ : Nat} {A B : World} (h : Below n₀ A B) {x : Value} {ps : List (Int × Nat)} : Parts n₀ A x ps → Parts n₀ B x ps
  | .nil => .nil
  | .lst hb hc => .lst hb fun j p hp => ⟨(h.cell (p := ⟨_, _, none⟩) hb).trans (hc j p hp).1, (h.cell (p := ⟨_, _, none⟩) hb).trans (hc j p hp).2⟩
theorem Kp.trans {n₀ : Nat} {A B C : World} (h : Kp n₀ A B) (k : Kp n₀ B C) : Kp n₀ A C := ⟨h.below.trans k.below, fun i cs fr hi => k.part i cs fr (h.part i cs fr hi)⟩
theorem Kp.putObj {n₀ : Nat} {w : World} (hn : n₀ ≤ w.heap.size) (W : World) (l : Nat) (o o' : Obj) (hl : w.heap.size ≤ l) (h : W.heap[l]? = some o) (h1 : o.isCells = false) (h2 : o.isWalk = false) : Kp n₀ W (W.putObj l o') :=
  ⟨belowK_b hn W l o o' hl h h1 h2, fun k cs fr hk => by
    by_cases e : k = l
    · subst e
      rw [h] at hk
      cases hk
      cases h1
    · exact (World.putObj_heap_other e).trans hk⟩
def PsOk (ps : List (Int × Nat)) : Prop := (∀ p ∈ ps, (0 ≤ p.1 ∧ p.1 < 16384) ∧ 0 < p.2 ∧ p.2 < 18446744073709551616) ∧ ps.length ≤ 16384
/-- s.All() hands back an iterator over the numbers. -/
theorem all_stops (n : Nat) (hn : 1 ≤ n) (Bs n₀ N : Nat) (x : Value) (ps : List (Int × Nat)) (hps : PsOk ps) (FF : Nat → Prop) (hFF : ∀ b, FF b → b < n₀) (hN : (nmL ps).length ≤ N) (w : World) (hBs : Bs < w.heap.size) (hn₀ : n₀ ≤ w.heap.size) (hT : TabsOk FF w)
    (hc : w.cell? ⟨Bs, 0, none⟩ = some x) (hP : Parts n₀ w x ps) :
    SeqStopsK Fence.wide n Tryd.prog 31 #[.pointer (some ⟨Bs, 0, none⟩)] (fun z : Int => #[Value.int .i64 z]) (Kp n₀) (fun xs => xs = nmL ps) (fun pre => pre <+: nmL ps) N w := fun l J Jx W hW hJa _ hY h0 => by
  have hc' := (hW.cell (p := ⟨Bs, 0, none⟩) hBs).trans hc
  have hW0 := hW.mono hn₀
  have hT' : TabsOk FF W := fun q hq => by
    obtain ⟨f1, cs, T, fr, f2, f3⟩ := hT q hq
    exact ⟨f1, cs, T, fr, (hW0.block _ (hFF _ f1)).trans f2, f3⟩
  cases hP.below hW0 with
  | nil => exact (all1_nil n l Bs _ _ J W hc' h0).mono fun e W' ⟨he, hj⟩ => ⟨he, .inl ⟨_, rfl, hj⟩⟩
  | lst hb hcs => exact all1_in n hn l Bs n₀ _ _ _ N ps hps.1 hps.2 hb FF hFF hN J Jx W (Nat.le_trans hn₀ hW.size) hT' hJa hY hc' hcs h0
theorem part_kept {W w1 : World} {n₀ B : Nat} {v v' : Value} {k : Nat} {xs : List Value} {tmp : Obj} (hv : Boxed W B 22 v) (hrow : W.ownsRow n₀ 3 1 v k xs) (hgrow : (W.alloc tmp).grownBy w1 v.ownBlock) (q : Nat) (cs : Array Value) (fr : Nat × Nat) (hq : W.heap[q]? = some (.cells cs 54 fr)) : (w1.setCell ⟨B, 0, none⟩ v').heap[q]? = some (.cells cs 54 fr) := by
  have hlt := (Array.getElem?_eq_some_iff.1 hq).1
  have hne : q ≠ B := by
    intro e
    subst e
    rw [show W.heap[q]? = _ from hv] at hq
    cases hq
  refine (Below.heap_setCell _ _ _ q hne).trans ((hgrow.block q (by simp; omega) ?_).trans ((Below.heap_alloc _ _ q hlt).trans hq))
  rcases hrow.2 with ⟨rfl, _⟩ | ⟨g, cap, cur, rfl, _, hgb, _⟩
  · simp [Value.ownBlock]
  · intro e'
    obtain rfl : q = g := by simpa [Value.ownBlock] using e'
    rw [hgb] at hq
    cases hq
theorem info3 : (Tryd.prog.info? 3).map (fun i => (i.zero, i.size, i.bytes)) = some (some (.int .i64 0), 1, 8) := by kernel_rfl
set_option maxRecDepth 100000 in
set_option maxHeartbeats 4000000 in
/-- s.List(): a row of one's own with the numbers; nil just where there is none; nothing that lay has turned. -/
theorem list_in (n : Nat) (hn : 3 ≤ n) (x : Value) (ps : List (Int × Nat)) (hps : PsOk ps) (hlen : (nmL ps).length ≤ 1048576) (FF : Nat → Prop) (w : World) (hFF : ∀ b, FF b → b < w.heap.size) (hT : TabsOk FF w) (hP : Parts w.heap.size w x ps) :
    CallsIn Fence.wide n Tryd.prog 30 #[.agg #[x]] w fun e W' => ∃ v, e = .returned v ∧ W'.ownsRow w.heap.size 3 1 v (nmL ps).length ((nmL ps).map (Value.int .i64)) ∧ (v = .slice none 0 0 ↔ nmL ps = []) ∧ Below w.heap.size w W' := by
  have h1 : 1 ≤ n := by omega
  obtain ⟨i0, hi, hz0, hz1, hz2⟩ := info_parts info3
  have hml : (nmL ps).length ≤ maxLen := Nat.le_trans hlen (by decide)
  have hmb : (nmL ps).length * 8 ≤ 140737488355328 := by omega
  refine callsIn_of_wp_marks Tryd.func30 rfl trivial ?_ rfl
  simp only [Tryd.ntmps30, List.size_toArray, List.length_cons, List.length_nil, Nat.reduceAdd, Nat.reduceSub, Array.replicate_succ, Array.replicate_zero, List.push_toArray, List.append_toArray, List.nil_append, List.cons_append]
  have f8 : Fence.wide.fn 8 := trivial
  gi_wp2_with (gi_at_call 8; refine (all_in (n - 1) _ _).mono ?_; rintro e w' ⟨rfl, rfl⟩)
  have bO := Boxed.new (w.alloc (.cells #[x] 25)) 22 (.slice none 0 0)
  have bN := Boxed.new ((w.alloc (.cells #[x] 25)).alloc (.cells #[.slice none 0 0] 22)) 25 x
  rw [World.size_alloc] at bO
  rw [World.size_alloc, World.size_alloc] at bN
  have hB0 : Below w.heap.size w (((w.alloc (.cells #[x] 25)).alloc (.cells #[.slice none 0 0] 22)).alloc (.cells #[x] 25)) := (((Below.refl _ w).alloc (Nat.le_refl _) _).alloc (by simp) _).alloc (by simp; omega) _
  have hT0 : TabsOk FF (((w.alloc (.cells #[x] 25)).alloc (.cells #[.slice none 0 0] 22)).alloc (.cells #[x] 25)) := fun q hq => by
    obtain ⟨f1, cs, T, fr, f2, f3⟩ := hT q hq
    exact ⟨f1, cs, T, fr, (hB0.block _ (hFF _ f1)).trans f2, f3⟩
  refine wpIn_rangeFunc_ownG rfl h1 (gf := 31) (lb := #[.pointer (some ⟨w.heap.size + 1 + 1, 0, none⟩)]) rfl trivial (enters_of Tryd.func31 (by kernel_rfl) rfl)
    (all_stops (n - 1) (by omega) (w.heap.size + 1 + 1) w.heap.size (nmL ps).length x ps hps FF hFF (Nat.le_refl _) _ (by simp) (by simp; omega) hT0 bN.cell (hP.below hB0)) Kp.trans (Kp.putObj (by simp; omega)) (Below.refl _ _) (fun _ => rfl)
    (fun pre W => (∃ v, Boxed W (w.heap.size + 1) 22 v ∧ W.ownsRow w.heap.size 3 1 v pre.length (pre.map (Value.int .i64)) ∧ (v = .slice none 0 0 ↔ pre = [])) ∧ Below w.heap.size w W)
    (fun _ _ _ => False)
    (OwnFrom.and (Own.from (holdsRow_own w.heap.size (w.heap.size + 1) 22 3 1 (fun pre => pre.length) (fun pre => pre.map (Value.int .i64)) (fun pre v => v = .slice none 0 0 ↔ pre = [])) _) (ownFrom_below (Nat.le_refl _) (by simp; omega)))
    (fun _ _ _ _ _ hs _ _ => hs)
    ⟨⟨_, bO.alloc _, World.ownsRow_nil _ _ _ _, by simp⟩, hB0⟩
    (fun z => { tmps := #[.agg #[x], .pointer (some ⟨w.heap.size, 0, none⟩), .slice none 0 0, .pointer (some ⟨w.heap.size + 1, 0, none⟩), .int .i64 z, .agg #[x], .func (.func 31) #[] #[.pointer (some ⟨w.heap.size + 1 + 1, 0, none⟩)], .int .i64 z, undef, undef, undef, undef, undef], defers := [] }) ?assign ?body ?done ?stop
  case assign =>
    intro l z W K hK
    gi_wp2
    exact hK
  case body =>
    rintro l pre z W ⟨⟨v, hv, hrow, hnil⟩, hB⟩ hlt
    have hc := hv.cell
    gi_wp2_with (gi_at_builtin; refine wpListIn_append_own _ rfl _ _ 22 rfl w.heap.size 3 i0 (.int .i64 0) 1 8 Tryd.underlying22 hi hz0 hz1 hz2 rfl (by decide) _ _ _ rfl (hrow.alloc _) ⟨W.heap.size, 0, none⟩ 1 1 [.int .i64 z] rfl rfl (cell_one_new _ _ _) (by simp [Value.oneCell']) (by omega) (by omega) (by have := hB.size; simp; omega) ?_; intro v' w1 hown' hgrow _; obtain ⟨g', cap', rfl⟩ := ownsRow_succ hown'; obtain ⟨hv1, hv2, hr2, hk2, hb2⟩ := hv.appended (by decide) hrow hB.size (Nat.le_succ _) hown' hgrow; have hpk := part_kept (v' := .slice (some ⟨g', 0, none⟩) (pre.length + 1) cap') hv hrow hgrow; have hc1 := hv1.cell; have hf1 := hv1.frozen)
    exact ⟨hk2.from _, ⟨hb2, hpk⟩, ⟨_, hv2, by simpa using hr2, by simp⟩, hB.trans hb2⟩
  case done =>
    rintro D ys W hD rfl ⟨⟨v, hv, hrow, hnil⟩, hB⟩ hK
    have hc := hv.cell
    gi_wp2
    refine ⟨by simp, .inl ⟨_, _, rfl, run_takeDeferred hK, ?_⟩⟩
    exact ⟨_, results_tmp rfl _ _ _, v, rfl, ownsRow_putObj hrow _ hK rfl, hnil, hB.trans (belowK_b (w := w) (Nat.le_refl _) W D _ _ (by simp at hD; omega) hK rfl rfl)⟩
  case stop =>
    rintro D c pre W _ _ h _
    exact h.elim
end Go.Proofs.YtmcflglkfgnbbaaDoor.Bl

/- The numbers of a set as a list: the contract in the small logic. -/
namespace Go.Proofs.YtmcflglkfgnbbaaDoor.Bl
open Go Go.RowKit Go.Shelf Go.Proofs.YtmcflglkfgnbbaaDoor.Pu Go.Proofs.YtmcflglkfgnbbaaDoor.Eng
set_option linter.unusedVariables false
set_option linter.unusedSimpArgs false
def rowS (p : Int × Nat) : List SV := [.v (.int .i64 p.1), .v (.int .u64 (p.2 : Int))]
def intS (z : Int) : List SV := [.v (.int .i64 z)]
/-- A list, none just if nothing is in it. -/
def resS : List Int → SV
  | [] => .v (.slice none 0 0)
  | z :: l => .lst 1 ((z :: l).map intS)
theorem repR_rows {g : Gh} {H : Array Go.Obj} : ∀ {ps : List (Int × Nat)} {L : List Value}, RepR g H L 2 (ps.map rowS) → ∀ (j : Nat) (p : Int × Nat), ps[j]? = some p → L[j * 2]? = some (.int .i64 p.1) ∧ L[j * 2 + 1]? = some (.int .u64 (p.2 : Int))
  | [], L, _, j, p, hp => by simp at hp
  | q :: ps, L, h, j, p, hp => by
    generalize hr : (q :: ps).map rowS = rs at h
    cases h with
    | nil => cases hr
    | @cons xs ys m r rows hm hx ht =>
      rw [List.map_cons] at hr
      injection hr with e1 e2
      subst e1 e2
      have hx' : RepL g H xs [.v (.int .i64 q.1), .v (.int .u64 (q.2 : Int))] := hx
      cases hx' with
      | cons h1 t1 =>
        cases t1 with
        | cons h2 t2 =>
          cases t2
          obtain rfl := rep_v h1
          obtain rfl := rep_v h2
          cases j with
          | zero =>
            obtain rfl : q = p := by simpa using hp
            exact ⟨rfl, rfl⟩
          | succ j =>
            have := repR_rows ht j p (by simpa using hp)
            rw [show (j + 1) * 2 = j * 2 + 2 by omega]
            exact this
theorem repR_ints {g : Gh} {H : Array Go.Obj} : ∀ (l : List Int) (r : List Value), RepR g H (l.map (Value.int .i64) ++ r) 1 (l.map intS)
  | [], r => .nil
  | z :: l, r => .cons (xs := [.int .i64 z]) rfl (.cons (.v _) .nil) (repR_ints l r)
theorem cell_toList {W : World} {b i : Nat} {cs : Array Value} {T : TypeId} {fr : Nat × Nat} (h : W.heap[b]? = some (.cells cs T fr)) : W.cell? ⟨b, i, none⟩ = cs.toList[i]? := by
  rw [Array.getElem?_toList]
  simp [World.cell?, h]
theorem list_hcall (ps : List (Int × Nat)) (hps : PsOk ps) (hlen : (nmL ps).length ≤ 1048576) (a : SV) (ha : (a = .v (.slice none 0 0) ∧ ps = []) ∨ a = .lst 2 (ps.map rowS)) : HCall Tryd.prog 30 [] [.agg [a]] [] (resS (nmL ps)) := by
  intro g w vs hp hrep
  obtain ⟨x, rfl, hx⟩ : ∃ x, vs = [.agg #[x]] ∧ Rep g w.heap x a := by
    cases hrep with
    | cons h t =>
      cases t
      cases h with
      | @agg va ss hl =>
        have hva : va = va.toList.toArray := by simp
        cases hv : va.toList with
        | nil => rw [hv] at hl; cases hl
        | cons y ys =>
          rw [hv] at hl
          cases hl with
          | cons h1 t1 =>
            cases t1
            rw [hv] at hva
            exact ⟨y, by rw [hva], h1⟩
  have hP : Parts w.heap.size w x ps := by
    rcases ha with ⟨rfl, rfl⟩ | rfl
    · obtain rfl := rep_v hx
      exact .nil
    · generalize hr : ps.map rowS = rs at hx
      cases hx with
      | nil =>
        obtain rfl : ps = [] := List.map_eq_nil_iff.1 hr
        exact .nil
      | @lst m b off n cap rows cs T fr hn hF hH hl hc hrr =>
        subst hr
        rw [List.length_map] at hn
        subst hn
        refine .lst (hp.Flt _ hF) fun j p hj => ?_
        obtain ⟨r1, r2⟩ := repR_rows hrr j p hj
        rw [List.getElem?_drop] at r1 r2
        rw [cell_toList hH, cell_toList hH]
        exact ⟨r1, r2⟩
  refine (callsIn_wide.1 (list_in 3 (Nat.le_refl _) x ps hps hlen g.F w hp.Flt hp.tb hP)).mono ?_
  rintro e w' ⟨v, rfl, hrow, hnil, hB⟩
  have kept : ∀ (b : Nat) (cs : Array Value) (T : TypeId) (fr : Nat × Nat), w.heap[b]? = some (Go.Obj.cells cs T fr) → ∃ (cs' : Array Value) (fr' : Nat × Nat), w'.heap[b]? = some (Go.Obj.cells cs' T fr') ∧ cs'.size = cs.size := fun b cs T fr hb => ⟨cs, fr, (hB.block b (Array.getElem?_eq_some_iff.1 hb).1).trans hb, rfl⟩
  cases hal : nmL ps with
  | nil =>
    obtain rfl := hnil.2 hal
    exact ⟨_, g, rfl, .v _, { ob := fun i o hi => by simp at hi, inj := fun i j o o' b hi => by simp at hi, own := fun i o b hi => by simp at hi, base := fun b hb _ => hB.block b hb, hsize := hB.size, F0 := fun b hb => hb, Fold := fun b hb _ => .inl hb, Flt := fun b hb => Nat.lt_of_lt_of_le (hp.Flt b hb) hB.size, os := hB.os, tape := hB.tape, output := hB.output, gext := fun id b hb => ⟨hb, rfl, rfl⟩, kept := kept }⟩
  | cons z l =>
    rw [hal] at hrow hnil
    rcases hrow.2 with ⟨_, h0⟩ | ⟨q, cap, cur, rfl, hbq, hgb, hl, hm, hcs, htk⟩
    · simp at h0
    · refine ⟨_, { g with F := fun b => g.F b ∨ b = q }, rfl, ?_, { ob := fun i o hi => by simp at hi, inj := fun i j o o' b hi => by simp at hi, own := fun i o b hi => by simp at hi, base := fun b hb _ => hB.block b hb, hsize := hB.size, F0 := fun b hb => .inl hb, Fold := fun b hb hlt => ?_, Flt := fun b hb => ?_, os := hB.os, tape := hB.tape, output := hB.output, gext := fun id b hb => ⟨hb, rfl, rfl⟩, kept := kept }⟩
      · have hL : cur.toList = (z :: l).map (Value.int .i64) ++ cur.toList.drop ((z :: l).length * 1) := by
          rw [← htk]
          exact (List.take_append_drop _ _).symm
        refine .lst (rows := (z :: l).map intS) (by rw [List.length_map]) (.inr rfl) hgb hl (by rw [hcs]; omega) ?_
        rw [List.drop_zero, hL]
        exact repR_ints _ _
      · rcases hb with hb | rfl
        · exact .inl hb
        · omega
      · rcases hb with hb | rfl
        · exact Nat.lt_of_lt_of_le (hp.Flt b hb) hB.size
        · exact (Array.getElem?_eq_some_iff.1 hgb).1
end Go.Proofs.YtmcflglkfgnbbaaDoor.Bl

/- The numbers of a set as a list: the contract. -/
namespace Go.Proofs.YtmcflglkfgnbbaaDoor.Bt
open Go Go.RowKit Go.Proofs.YtmcflglkfgnbbaaDoor.Eng Go.Proofs.YtmcflglkfgnbbaaDoor.Nd Go.Proofs.YtmcflglkfgnbbaaDoor.Bl
set_option linter.unusedVariables false
set_option linter.unusedSimpArgs false
set_option maxRecDepth 20000
def prP (p : R54) : Int × Nat := (p.At, p.Bits.toNat)
def numsR (ps : List R54) : List Int := nmL (ps.map prP)
theorem numsR_cons (p : R54) (ps : List R54) : numsR (p :: ps) = bitsL p.At p.Bits.toNat ++ numsR ps := by
  unfold numsR nmL
  rw [List.map_cons, List.flatMap_cons]
  rfl
theorem mem_nums : ∀ {ps : List R54} {n : Int}, n ∈ numsR ps ↔ ∃ p ∈ ps, n / 64 = p.At ∧ p.Bits.toNat.testBit (n % 64).toNat = true
  | [], n => by simp [numsR, nmL]
  | p :: ps, n => by
    rw [numsR_cons, List.mem_append, bitsL_mem, mem_nums (ps := ps)]
    simp
theorem rise_nums : ∀ {ps : List R54}, RiseP ps → (numsR ps).Pairwise (· < ·)
  | [], _ => by simp [numsR, nmL]
  | p :: ps, h => by
    obtain ⟨h1, h2⟩ := List.pairwise_cons.1 h
    rw [numsR_cons, List.pairwise_append]
    refine ⟨bitsL_rise _ _, rise_nums h2, fun a ha b hb => ?_⟩
    obtain ⟨q, hq, hb1, _⟩ := mem_nums.1 hb
    have ha1 := (bitsL_mem.1 ha).1
    have := h1 q hq
    omega
theorem len_nums : ∀ (ps : List R54), (numsR ps).length ≤ 64 * ps.length
  | [] => by simp [numsR, nmL]
  | p :: ps => by
    have := len_nums ps
    have := bitsL_len p.At p.Bits.toNat
    rw [numsR_cons, List.length_append, List.length_cons]
    omega
theorem psOk {ps : List R54} (h : OkP ps) : PsOk (ps.map prP) := by
  refine ⟨fun p hp => ?_, by rw [List.length_map]; exact h.len⟩
  obtain ⟨q, hq, rfl⟩ := List.mem_map.1 hp
  obtain ⟨h1, h2, h3⟩ := h.2 q hq
  refine ⟨h1, ?_, ?_⟩
  · show 0 < q.Bits.toNat; omega
  · show q.Bits.toNat < _; omega
theorem nums_has {ps : List R54} (h : OkP ps) {n : Int} : n ∈ numsR ps ↔ hasP ps n = true := by
  rw [mem_nums]
  unfold hasP
  constructor
  · rintro ⟨p, hp, h1, h2⟩
    obtain ⟨i, hi, hpi⟩ := List.getElem_of_mem hp
    have hg : ps[i]? = some p := by rw [List.getElem?_eq_getElem hi, hpi]
    have e : rkP ps (n / 64) = i := by
      have a := rkP_ge hg (a := n / 64) (by omega)
      rcases Nat.lt_or_ge (rkP ps (n / 64)) i with hlt | hge
      · obtain ⟨q, hq⟩ : ∃ q, ps[rkP ps (n / 64)]? = some q := ⟨_, List.getElem?_eq_getElem (by omega)⟩
        have hqi : q.At < p.At := by
          have hh := List.pairwise_iff_getElem.1 h.1 (rkP ps (n / 64)) i (by omega) hi hlt
          rw [(List.getElem?_eq_some_iff.1 hq).2, hpi] at hh
          exact hh
        have := rkP_lt h.1 hq (a := n / 64) (by omega)
        omega
      · omega
    rw [e, hg]
    dsimp only
    rw [decide_eq_true h1.symm, Bool.true_and]
    exact h2
  · intro hh
    split at hh
    · rename_i p hp
      rw [Bool.and_eq_true] at hh
      exact ⟨p, List.mem_of_getElem? hp, (of_decide_eq_true hh.1).symm, hh.2⟩
    · cases hh
theorem rise_ext : ∀ {l k : List Int}, l.Pairwise (· < ·) → k.Pairwise (· < ·) → (∀ n, n ∈ l ↔ n ∈ k) → l = k
  | [], [], _, _, _ => rfl
  | [], z :: k, _, _, h => absurd ((h z).2 List.mem_cons_self) (by simp)
  | z :: l, [], _, _, h => absurd ((h z).1 List.mem_cons_self) (by simp)
  | x :: l, y :: k, hl, hk, h => by
    obtain ⟨l1, l2⟩ := List.pairwise_cons.1 hl
    obtain ⟨k1, k2⟩ := List.pairwise_cons.1 hk
    have e : x = y := by
      rcases List.mem_cons.1 ((h x).1 List.mem_cons_self) with e | e
      · exact e
      · rcases List.mem_cons.1 ((h y).2 List.mem_cons_self) with e' | e'
        · exact e'.symm
        · have := l1 y e'
          have := k1 x e
          omega
    subst e
    rw [rise_ext l2 k2 fun n => ?_]
    constructor
    · intro hn
      rcases List.mem_cons.1 ((h n).1 (List.mem_cons_of_mem _ hn)) with e | e
      · have := l1 n hn; omega
      · exact e
    · intro hn
      rcases List.mem_cons.1 ((h n).2 (List.mem_cons_of_mem _ hn)) with e | e
      · have := k1 n hn; omega
      · exact e
theorem hasP_nn {ps : List R54} (h : OkP ps) {n : Int} (hn : hasP ps n = true) : 0 ≤ n := by
  obtain ⟨p, hp, h1, _⟩ := mem_nums.1 ((nums_has h).2 hn)
  have := (h.2 p hp).1
  omega
/-- The numbers are the document's. -/
theorem nums_rel {ps : List R54} {l : List Int} (h : RelP ps l) : numsR ps = l := by
  obtain ⟨h1, h2, h3, h4⟩ := h
  refine rise_ext (rise_nums h1.1) h2 fun n => ?_
  rw [nums_has h1]
  constructor
  · intro hn
    exact (h4 n (hasP_nn h1 hn)).2 hn
  · intro hn
    exact (h4 n (h3 n hn).1).1 hn
/-! ### List -/
theorem rowS_eq {ps : List R54} (h : OkP ps) : (ps.map prP).map rowS = ps.map (encS C.t54) := by
  rw [List.map_map]
  refine List.map_congr_left fun p hp => ?_
  obtain ⟨h1, h2, h3⟩ := h.2 p hp
  show [SV.v (.int .i64 p.At), SV.v (.int .u64 ((p.Bits.toNat : Nat) : Int))] = [SV.v (.int .i64 p.At), SV.v (.int .u64 p.Bits)]
  rw [show ((p.Bits.toNat : Nat) : Int) = p.Bits by omega]
theorem resS_lst {g : Gh} {H : Array Go.Obj} {v : Value} (l : List Int) (h : Rep g H v (resS l)) : Rep g H v (.lst 1 (l.map encS_i64)) := by
  cases l with
  | nil =>
    obtain rfl := rep_v h
    exact .nil
  | cons z l => exact h
theorem list_call {ps : List R54} (h : OkP ps) : HCall Tryd.prog 30 [] [.agg [.lst 2 (ps.map (encS C.t54))]] [] (.lst 1 ((numsR ps).map encS_i64)) := by
  have hl : (nmL (ps.map prP)).length ≤ 1048576 := by
    have := len_nums ps
    have := h.len
    show (numsR ps).length ≤ _
    omega
  intro g w vs hp hr
  exact (list_hcall (ps.map prP) (psOk h) hl _ (.inr (by rw [rowS_eq h])) g w vs hp hr).mono fun e w' ⟨v, g', he, hv, hq⟩ => ⟨v, g', he, resS_lst _ hv, hq⟩
end Go.Proofs.YtmcflglkfgnbbaaDoor.Bt

/- The numbers of a set as a list: the contract; lists are the same; how many numbers there are. -/
namespace Go.Proofs.YtmcflglkfgnbbaaDoor.Bt
open Go Go.RowKit Go.Proofs.YtmcflglkfgnbbaaDoor.Eng Go.Proofs.YtmcflglkfgnbbaaDoor.Nd Go.Proofs.YtmcflglkfgnbbaaDoor.Pu
set_option linter.unusedVariables false
set_option linter.unusedSimpArgs false
set_option maxRecDepth 20000
def d30 (objs : List (TO U)) (args : List (TV U)) : Option (List R54) := match objs, args with
  | [], [a0] =>
    match a0 with
    | .agg [q0] =>
      match q0 with
      | .lst .t54 ps =>
        some ps
      | _ => none
    | _ => none
  | _, _ => none
theorem d30_ok {objs : List (TO U)} {args : List (TV U)} {ps : List R54} (h : d30 objs args = some ps) : objs = [] ∧ args = [.agg [.lst .t54 ps]] := by
  unfold d30 at h
  repeat' split at h
  all_goals first | (cases h; done) | (cases h; exact ⟨rfl, rfl⟩)
noncomputable def sList0 : Spc U := .of d30 (fun ps => PWith ps) (fun _ => []) fun ps => .lst .i64 (numsR ps)
theorem sList0_ok : SpecOk Tryd.prog 30 sList0 := by
  refine ⟨⟨_, Tryd.func30, by kernel_rfl, by kernel_rfl⟩, fun objs args => ?_, fun objs args objs' res h h1 h2 h3 => ?_⟩
  · intro R k r h'
    unfold sList0 Spc.of at h' ⊢
    dsimp only at h' ⊢
    cases hd : d30 objs args with
    | none => rw [hd] at h'; cases h'
    | some x =>
      rw [hd] at h'
      dsimp only at h' ⊢
      split at h' <;> try (cases h'; done)
      rename_i hp
      exact ⟨_, _, h', fun k' => by rw [if_pos hp]⟩
  · unfold sList0 Spc.of at h
    dsimp only at h
    split at h <;> try (cases h; done)
    rename_i x hd
    split at h <;> try (cases h; done)
    rename_i hp
    obtain ⟨rfl, rfl⟩ := d30_ok hd
    cases h
    exact ⟨list_call hp, Nat.le_refl _, fun i hi => rfl, rfl, rfl⟩
noncomputable def sList : Spc U := sList0.wkA [.a [.l .t54]]
theorem sList_ok : SpecOk Tryd.prog 30 sList := sList0_ok.wkA _
/-! ### Same -/
def an23 : Ann := ⟨fun | 0 => 35 | _ => 0, fun | 0 => 16 | _ => 0, fun _ => [], false⟩
def g23_S0 (xs : List
  Int) (ys : List
  Int) (v2 : Int) : TS U := mkS 26 [(0, TV.lst C.i64 xs), (1, TV.lst C.i64 ys), (5, TV.v (Value.int IntKind.i64 v2))] []
  0
theorem g23_e0 (lp : Lp
  U) (xs : List Int) (ys : List Int) (N : Nat) (v2 : Int) : fnLoop X E0 an23 lp Tryd.f23 0 N.succ (g23_S0 xs ys v2) =
  bif decide (v2 < (↑xs.length : Int)) then
  (getI xs v2).bind fun (z : X.U.T C.i64) =>
    (getI ys v2).bind fun (z_1 : X.U.T C.i64) =>
      bif !decide (z = z_1) then some (Exit.ret, mkS 26 [(4, TV.v (Value.bool false))] [] 0)
      else fnLoop X E0 an23 lp Tryd.f23 0 N (g23_S0 xs ys (IntKind.i64.wrap (v2 + 1)))
else some (Exit.exit 0, mkS 26 [] [] 0) := by kernel_rfl
theorem rounds23 (lp : Lp U) (xs ys : List Int) (hl : xs.length = ys.length) (hx : xs.length ≤ 100000000) : ∀ (m i : Nat), i + m = xs.length → fnLoop X E0 an23 lp Tryd.f23 0 (m + 1) (g23_S0 xs ys i) = cond (decide (xs.drop i = ys.drop i)) (some (.exit 0, mkS 26 [] [] 0)) (some (.ret, mkS 26 [(4, .v (.bool false))] [] 0)) := by
  intro m
  induction m with
  | zero => intro i hi; rw [g23_e0, decide_eq_false (by omega), List.drop_eq_nil_of_le (by omega), List.drop_eq_nil_of_le (by omega)]; rfl
  | succ m ih =>
    intro i hi
    obtain ⟨z, hz, hz2⟩ := getE (l := xs) (v := (i : Int)) (by omega) (by omega)
    obtain ⟨u, hu, hu2⟩ := getE (l := ys) (v := (i : Int)) (by omega) (by omega)
    rw [g23_e0, decide_eq_true (by omega), hz, hu, cond_true, Option.bind_some, Option.bind_some, drop_get (show xs[i]? = some z from hz2), drop_get (show ys[i]? = some u from hu2)]
    by_cases e : z = u
    · rw [decide_eq_true e, Bool.not_true, cond_false, wr (a := (i : Int) + 1) (by omega) (by omega)]
      have : decide (z :: xs.drop (i + 1) = u :: ys.drop (i + 1)) = decide (xs.drop (i + 1) = ys.drop (i + 1)) := by
        congr 1
        rw [e]
        simp
      rw [this]
      exact ih (i + 1) (by omega)
    · rw [decide_eq_false e]
      have : decide (z :: xs.drop (i + 1) = u :: ys.drop (i + 1)) = false := decide_eq_false fun h => e (List.cons.inj h).1
      rw [this]
      rfl
def P23 (xs ys : List Int) (i : Int) : Prop := xs.length = ys.length ∧ xs.length ≤ 100000000 ∧ i = 0
instance (xs ys : List Int) (i : Int) : Decidable (P23 xs ys i) := by unfold P23; infer_instance
def eqI (xs ys : List Int) : Bool := decide (xs = ys)
def dl23 (s : TS U) : Option (List Int × List Int × Int) := match told s 26 [0, 1, 5] 0, s.objs with
  | some [a0, a1, a2], [] =>
    match a0 with
    | .lst .i64 xs =>
      match a1 with
      | .lst .i64 ys =>
        match a2 with
        | .v (.int .i64 i) =>
          some (xs, ys, i)
        | _ => none
      | _ => none
    | _ => none
  | _, _ => none
theorem dl23_ok {s : TS U} {xs : List Int} {ys : List Int} {i : Int} (h : dl23 s = some (xs, ys, i)) : s = mkS (U := U) 26 ([0, 1, 5].zip ([.lst .i64 xs, .lst .i64 ys, .v (.int .i64 i)] : List (TV U))) ([] : List (TO U)) 0 := by
  unfold dl23 at h
  split at h <;> try (cases h; done)
  rename_i ht ho
  have hs := told_ok ht
  rw [ho] at hs
  repeat' split at h
  all_goals first | (cases h; done) | (cases h; exact hs)
def lc23 : LC U := .of2 dl23 (fun (xs, ys, i) => P23 xs ys i) (fun (xs, ys, i) => eqI xs ys) (.exit 0) (fun _ => mkS 26 [] [] 0) .ret fun _ => mkS 26 [(4, .v (.bool false))] [] 0
def lp23 : Lp U := lpL [(0, lc23)]
theorem lp23_ok : ∀ c, Tryd.f23.body = some c → LpOk X E0 an23 lp23 (loops c 0) := lpL_ok (by kernel_rfl) fun b L hm st p hs => by
  cases hm with
  | head =>
    obtain ⟨⟨xs, ys, i⟩, hx, ⟨h, h2, rfl⟩, rfl⟩ := LC.of2_some hs
    obtain rfl := dl23_ok hx
    refine ⟨_, (rounds23 _ xs ys h h2 xs.length 0 (Nat.zero_add _)).trans ?_⟩
    rw [List.drop_zero, List.drop_zero]
    show cond (eqI xs ys) _ _ = some (cond (eqI xs ys) _ _)
    cases eqI xs ys <;> rfl
  | tail _ hm => cases hm
theorem e23 (xs : List
  Int) (ys : List
  Int) : (evFn X E0 an23 lp23 Tryd.f23 [] [TV.lst C.i64 xs, TV.lst C.i64 ys] fun (o : List (TO X.U)) (v : TV X.U) =>
  some (o, v)) =
  bif !decide ((↑xs.length : Int) = (↑ys.length : Int)) then some ([], TV.v (Value.bool false))
else
  if P23 xs ys 0 then bif eqI xs ys then some ([], TV.v (Value.bool true)) else some ([], TV.v (Value.bool false))
  else none := by kernel_rfl
def d23 (objs : List (TO U)) (args : List (TV U)) : Option (List Int × List Int) := match objs, args with
  | [], [a0, a1] =>
    match a0 with
    | .lst .i64 xs =>
      match a1 with
      | .lst .i64 ys =>
        some (xs, ys)
      | _ => none
    | _ => none
  | _, _ => none
theorem d23_ok {objs : List (TO U)} {args : List (TV U)} {xs : List Int} {ys : List Int} (h : d23 objs args = some (xs, ys)) : objs = [] ∧ args = [.lst .i64 xs, .lst .i64 ys] := by
  unfold d23 at h
  repeat' split at h
  all_goals first | (cases h; done) | (cases h; exact ⟨rfl, rfl⟩)
def PSz (n : Nat) : Prop := n ≤ 100000000
instance (n : Nat) : Decidable (PSz n) := by unfold PSz; infer_instance
def sEqI0 : Spc U := .of d23 (fun (xs, ys) => PSz xs.length) (fun _ => []) fun (xs, ys) => .v (.bool (eqI xs ys))
theorem sEqI0_ok : SpecOk Tryd.prog 23 sEqI0 := by
  refine fn_ok X_ok mixed E0_ok an23 lp23 Tryd.func23 (by kernel_rfl) (by kernel_rfl) lp23_ok fun objs args x hx hp => ?_
  obtain ⟨xs, ys⟩ := x
  obtain ⟨rfl, rfl⟩ := d23_ok hx
  have hp : xs.length ≤ 100000000 := hp
  refine (e23 xs ys).trans ?_
  by_cases hl : xs.length = ys.length
  · rw [decide_eq_true (by omega), Bool.not_true, cond_false, if_pos (show P23 xs ys 0 from ⟨hl, hp, rfl⟩)]
    show _ = some ([], TV.v (Value.bool (eqI xs ys)))
    cases eqI xs ys <;> rfl
  · rw [decide_eq_false (by omega), Bool.not_false, cond_true]
    have : eqI xs ys = false := decide_eq_false fun e => hl (by rw [e])
    show _ = some ([], TV.v (Value.bool (eqI xs ys)))
    rw [this]
def sEqI : Spc U := sEqI0.wkA [.l .i64, .l .i64]
theorem sEqI_ok : SpecOk Tryd.prog 23 sEqI := sEqI0_ok.wkA _
end Go.Proofs.YtmcflglkfgnbbaaDoor.Bt

/- How many numbers there are. -/
namespace Go.Proofs.YtmcflglkfgnbbaaDoor.Bt
open Go Go.RowKit Go.Proofs.YtmcflglkfgnbbaaDoor.Eng Go.Proofs.YtmcflglkfgnbbaaDoor.Nd Go.Proofs.YtmcflglkfgnbbaaDoor.Pu
set_option linter.unusedVariables false
set_option linter.unusedSimpArgs false
set_option maxRecDepth 20000
abbrev andI (a b : Int) : Int := IntKind.u64.wrap ((BitVec.ofInt IntKind.u64.bits a &&& BitVec.ofInt IntKind.u64.bits b).toNat : Nat)
abbrev addI (a b : Int) : Int := IntKind.u64.wrap (a + b)
abbrev shrI (a b : Int) : Int := a.fdiv (2 ^ min b.toNat IntKind.u64.bits)
def o1 (x : Int) : Int := addI (andI (shrI x 1) 6148914691236517205) (andI x 6148914691236517205)
def o2 (x : Int) : Int := addI (andI (shrI x 2) 3689348814741910323) (andI x 3689348814741910323)
def o3 (x : Int) : Int := andI (addI (shrI x 4) x) 1085102592571150095
def o4 (r x : Int) : Int := addI x (shrI x r)
def o5 (x : Int) : Int := IntKind.i64.wrap ((BitVec.ofInt IntKind.i64.bits (IntKind.i64.wrap x) &&& BitVec.ofInt IntKind.i64.bits 127).toNat : Nat)
theorem e42 (x : Int) : (evFn X E0 an0 lp0 Tryd.f42 [] [.v (.int .u64 x)] fun o v => some (o, v)) = some ([], .v (.int .i64 (o5 (o4 32 (o4 16 (o4 8 (o3 (o2 (o1 x))))))))) := by kernel_rfl
theorem sh_n (a r : Nat) (h : r < 64) : shrI (a : Int) (r : Int) = ((a / 2 ^ r : Nat) : Int) := by
  have := shr_k a r (by omega) (by omega)
  rwa [Int.toNat_natCast] at this
theorem an_n {a b : Nat} (ha : a < 18446744073709551616) (hb : b < 18446744073709551616) : andI (a : Int) (b : Int) = ((a &&& b : Nat) : Int) := and_k ha hb
theorem ad_n {a b : Nat} (h : a + b < 18446744073709551616) : addI (a : Int) (b : Int) = ((a + b : Nat) : Int) := by
  have : ((a : Int) + (b : Int)) = ((a + b : Nat) : Int) := by simp
  unfold addI
  rw [this]
  exact wrapN h
theorem mk85 : mk 85 8 = 6148914691236517205 := by decide
theorem mk51 : mk 51 8 = 3689348814741910323 := by decide
theorem mk15 : mk 15 8 = 1085102592571150095 := by decide
theorem o1_n (x : Nat) (h : x < 18446744073709551616) : o1 (x : Int) = ((s1 8 x : Nat) : Int) ∧ s1 8 x < 12297829382473034411 := by
  have b1 : x / 2 &&& 6148914691236517205 ≤ 6148914691236517205 := Nat.and_le_right
  have b2 : x &&& 6148914691236517205 ≤ 6148914691236517205 := Nat.and_le_right
  have e1 := sh_n x 1 (by decide)
  have e2 := an_n (a := x / 2 ^ 1) (b := 6148914691236517205) (by omega) (by decide)
  have e3 := an_n (a := x) (b := 6148914691236517205) h (by decide)
  unfold o1 s1
  rw [mk85]
  refine ⟨?_, by omega⟩
  have e1' : shrI (x : Int) 1 = ((x / 2 ^ 1 : Nat) : Int) := e1
  rw [e1']
  have e2' : andI ((x / 2 ^ 1 : Nat) : Int) 6148914691236517205 = ((x / 2 ^ 1 &&& 6148914691236517205 : Nat) : Int) := e2
  have e3' : andI (x : Int) 6148914691236517205 = ((x &&& 6148914691236517205 : Nat) : Int) := e3
  rw [e2', e3', ad_n (by rw [Nat.pow_one]; omega), Nat.pow_one]
theorem o2_n (x : Nat) (h : x < 18446744073709551616) : o2 (x : Int) = ((s2 8 x : Nat) : Int) ∧ s2 8 x < 7378697629483820647 := by
  have b1 : x / 4 &&& 3689348814741910323 ≤ 3689348814741910323 := Nat.and_le_right
  have b2 : x &&& 3689348814741910323 ≤ 3689348814741910323 := Nat.and_le_right
  have e1' : shrI (x : Int) 2 = ((x / 2 ^ 2 : Nat) : Int) := sh_n x 2 (by decide)
  have e2' : andI ((x / 2 ^ 2 : Nat) : Int) 3689348814741910323 = ((x / 2 ^ 2 &&& 3689348814741910323 : Nat) : Int) := an_n (by omega) (by decide)
  have e3' : andI (x : Int) 3689348814741910323 = ((x &&& 3689348814741910323 : Nat) : Int) := an_n h (by decide)
  have hp : (2 : Nat) ^ 2 = 4 := rfl
  unfold o2 s2
  rw [mk51]
  refine ⟨?_, by omega⟩
  rw [e1', e2', e3', ad_n (by rw [hp]; omega), hp]
theorem o3_n (x : Nat) (h : x < 7378697629483820647) : o3 (x : Int) = ((s3 8 x : Nat) : Int) ∧ s3 8 x < 1085102592571150096 := by
  have b1 : x / 16 + x &&& 1085102592571150095 ≤ 1085102592571150095 := Nat.and_le_right
  have e1' : shrI (x : Int) 4 = ((x / 2 ^ 4 : Nat) : Int) := sh_n x 4 (by decide)
  have hp : (2 : Nat) ^ 4 = 16 := rfl
  rw [hp] at e1'
  have e2' : addI ((x / 16 : Nat) : Int) (x : Int) = ((x / 16 + x : Nat) : Int) := ad_n (by omega)
  have e3' : andI ((x / 16 + x : Nat) : Int) 1085102592571150095 = ((x / 16 + x &&& 1085102592571150095 : Nat) : Int) := an_n (by omega) (by decide)
  unfold o3 s3
  rw [mk15]
  refine ⟨?_, by omega⟩
  rw [e1', e2', e3']
theorem o4_n (r x : Nat) (hr : r < 64) (h : x + x / 2 ^ r < 18446744073709551616) : o4 (r : Int) (x : Int) = ((x + x / 2 ^ r : Nat) : Int) := by
  unfold o4
  rw [sh_n x r hr]
  exact ad_n h
theorem o5_n (x : Nat) (h : x < 9223372036854775808) : o5 (x : Int) = ((x % 128 : Nat) : Int) := by
  unfold o5
  have e0 : IntKind.i64.wrap (x : Int) = (x : Int) := wrap_i64 (by omega) (by omega)
  have e1 : (BitVec.ofInt IntKind.i64.bits (x : Int) &&& BitVec.ofInt IntKind.i64.bits 127).toNat = x &&& 127 := by
    show (BitVec.ofInt 64 (x : Int) &&& BitVec.ofInt 64 ((127 : Nat) : Int)).toNat = _
    rw [ofIntN, ofIntN, BitVec.toNat_and, BitVec.toNat_ofNat, BitVec.toNat_ofNat, Nat.mod_eq_of_lt (by rw [lt64]; omega), Nat.mod_eq_of_lt (by rw [lt64]; omega)]
  have e2 : x &&& 127 = x % 128 := Nat.and_two_pow_sub_one_eq_mod x 7
  rw [e0, e1, e2]
  exact wrap_i64 (by omega) (by omega)
theorem ones_all (x : Nat) (h : x < 18446744073709551616) : o5 (o4 32 (o4 16 (o4 8 (o3 (o2 (o1 (x : Int))))))) = ((pc 64 x : Nat) : Int) := by
  obtain ⟨h1, h2⟩ := o1_n x h
  obtain ⟨h3, h4⟩ := o2_n (s1 8 x) (by omega)
  obtain ⟨h5, h6⟩ := o3_n _ h4
  rw [h1, h3, h5, ← ones_pc]
  unfold ones
  dsimp only
  generalize s3 8 (s2 8 (s1 8 x)) = y at *
  have e8 : o4 8 (y : Int) = ((y + y / 256 : Nat) : Int) := o4_n 8 y (by decide) (by omega)
  rw [e8]
  obtain ⟨z, hz⟩ : ∃ z, y + y / 256 = z := ⟨_, rfl⟩
  rw [hz]
  have hzb : z < 1089341274573381151 := by omega
  have e16 : o4 16 (z : Int) = ((z + z / 65536 : Nat) : Int) := o4_n 16 z (by decide) (by omega)
  rw [e16]
  obtain ⟨w, hw⟩ : ∃ w, z + z / 65536 = w := ⟨_, rfl⟩
  rw [hw]
  have hwb : w < 1089357896602106942 := by omega
  have e32 : o4 32 (w : Int) = ((w + w / 4294967296 : Nat) : Int) := o4_n 32 w (by decide) (by omega)
  rw [e32, o5_n _ (by omega)]
def du (objs : List (TO U)) (args : List (TV U)) : Option (Int) := match objs, args with
  | [], [a0] =>
    match a0 with
    | .v (.int .u64 x) =>
      some x
    | _ => none
  | _, _ => none
theorem du_ok {objs : List (TO U)} {args : List (TV U)} {x : Int} (h : du objs args = some x) : objs = [] ∧ args = [.v (.int .u64 x)] := by
  unfold du at h
  repeat' split at h
  all_goals first | (cases h; done) | (cases h; exact ⟨rfl, rfl⟩)
def B64 (x : Int) : Prop := 0 ≤ x ∧ x < 18446744073709551616
instance (x : Int) : Decidable (B64 x) := by unfold B64; infer_instance
def pcI (x : Int) : Int := ((pc 64 x.toNat : Nat) : Int)
def sOnes : Spc U := .of du (fun x => B64 x) (fun x => []) fun x => .v (.int .i64 (pcI x))
theorem sOnes_ok : SpecOk Tryd.prog 42 sOnes := by
  refine fn_ok X_ok mixed E0_ok an0 lp0 Tryd.func42 (by kernel_rfl) (by kernel_rfl) (lp0_ok (by kernel_rfl)) fun objs args x hx hp => ?_
  obtain ⟨rfl, rfl⟩ := du_ok hx
  obtain ⟨hp1, hp2⟩ := hp
  obtain ⟨y, rfl⟩ : ∃ y : Nat, x = (y : Int) := ⟨x.toNat, by omega⟩
  unfold pcI
  rw [e42, ones_all y (by omega), Int.toNat_natCast]
def E33 : FuncId → Option (Spc U)
  | 42 => some sOnes
  | _ => none
theorem E33_ok : ∀ f S, E33 f = some S → SpecOk Tryd.prog f S := fun f S h => by
  unfold E33 at h
  split at h
  · cases h; exact sOnes_ok
  · cases h
def an33 : Ann := ⟨fun | 0 => 904 | _ => 0, fun | 0 => 12 | _ => 0, fun _ => [], false⟩
def g33_S0 (ps : List
  R54) (v0 : Int) (v3 : Int) : TS U := mkS 20
  [(3, TV.v (Value.int IntKind.i64 v0)), (7, TV.lst C.t54 ps), (8, TV.v (Value.int IntKind.i64 (↑ps.length : Int))),
    (9, TV.v (Value.int IntKind.i64 v3))]
  [] 0
theorem g33_e0 (lp : Lp
  U) (ps : List R54) (N : Nat) (v0 : Int) (v3 : Int) : fnLoop X E33 an33 lp Tryd.f33 0 N.succ (g33_S0 ps v0 v3) =
  bif decide (v3 < (↑ps.length : Int)) then
  (getI ps v3).bind fun (z : X.U.T C.t54) =>
    if B64 z.Bits then
      fnLoop X E33 an33 lp Tryd.f33 0 N (g33_S0 ps (IntKind.i64.wrap (v0 + pcI z.Bits)) (IntKind.i64.wrap (v3 + 1)))
    else none
else some (Exit.exit 0, mkS 20 [(3, TV.v (Value.int IntKind.i64 v0))] [] 0) := by kernel_rfl
theorem many_nums {ps : List R54} : ((numsR ps).length : Int) = (ps.map fun p => pcI p.Bits).sum := by
  induction ps with
  | nil => rfl
  | cons p ps ih =>
    rw [numsR_cons, List.length_append, List.map_cons, List.sum_cons, ← ih, Bl.bitsL_pc]
    unfold pcI
    omega
theorem pcI_le (x : Int) : 0 ≤ pcI x ∧ pcI x ≤ 64 := by
  have := pc_le 64 x.toNat
  unfold pcI
  omega
theorem dropG {α : Type} {l : List α} {i : Nat} {z : α} (h : l[i]? = some z) : l.drop i = z :: l.drop (i + 1) := by
  rw [List.drop_eq_getElem_cons (List.getElem?_eq_some_iff.1 h).1, (List.getElem?_eq_some_iff.1 h).2]
theorem rounds33 (lp : Lp U) (ps : List R54) (h : OkP ps) : ∀ (m i : Nat) (a : Int), i + m = ps.length → 0 ≤ a → a ≤ 64 * i → fnLoop X E33 an33 lp Tryd.f33 0 (m + 1) (g33_S0 ps a i) = some (.exit 0, mkS 20 [(3, .v (.int .i64 (a + ((ps.drop i).map fun p => pcI p.Bits).sum)))] [] 0) := by
  have hlen := h.len
  intro m
  induction m with
  | zero => intro i a hi h0 h1; rw [g33_e0, decide_eq_false (by omega), List.drop_eq_nil_of_le (by omega)]; show some (_, mkS 20 [(3, .v (.int .i64 a))] [] _) = some (_, mkS 20 [(3, .v (.int .i64 (a + 0)))] [] _); rw [Int.add_zero]
  | succ m ih =>
    intro i a hi h0 h1
    obtain ⟨z, hz, hz2⟩ := getE (l := ps) (v := (i : Int)) (by omega) (by omega)
    have hz3 : ps[i]? = some z := hz2
    have hb := h.2 z (List.mem_of_getElem? hz3)
    obtain ⟨p1, p2⟩ := pcI_le z.Bits
    rw [g33_e0, decide_eq_true (by omega), hz, cond_true, Option.bind_some, if_pos (show B64 z.Bits from ⟨by omega, hb.2.2⟩), wr (a := a + pcI z.Bits) (by omega) (by omega), wr (a := (i : Int) + 1) (by omega) (by omega), dropG hz3, List.map_cons, List.sum_cons]
    have := ih (i + 1) (a + pcI z.Bits) (by omega) (by omega) (by omega)
    rw [Int.add_assoc] at this
    exact this
def P33 (ps : List R54) (a n i : Int) : Prop := OkP ps ∧ a = 0 ∧ n = ps.length ∧ i = 0
noncomputable instance (ps : List R54) (a n i : Int) : Decidable (P33 ps a n i) := Classical.propDecidable _
def mnI (ps : List R54) : Int := (numsR ps).length
def dl33 (s : TS U) : Option (Int × List R54 × Int × Int) := match told s 20 [3, 7, 8, 9] 0, s.objs with
  | some [a0, a1, a2, a3], [] =>
    match a0 with
    | .v (.int .i64 a) =>
      match a1 with
      | .lst .t54 ps =>
        match a2 with
        | .v (.int .i64 n) =>
          match a3 with
          | .v (.int .i64 i) =>
            some (a, ps, n, i)
          | _ => none
        | _ => none
      | _ => none
    | _ => none
  | _, _ => none
theorem dl33_ok {s : TS U} {a : Int} {ps : List R54} {n : Int} {i : Int} (h : dl33 s = some (a, ps, n, i)) : s = mkS (U := U) 20 ([3, 7, 8, 9].zip ([.v (.int .i64 a), .lst .t54 ps, .v (.int .i64 n), .v (.int .i64 i)] : List (TV U))) ([] : List (TO U)) 0 := by
  unfold dl33 at h
  split at h <;> try (cases h; done)
  rename_i ht ho
  have hs := told_ok ht
  rw [ho] at hs
  repeat' split at h
  all_goals first | (cases h; done) | (cases h; exact hs)
noncomputable def lc33 : LC U := .of dl33 (fun (a, ps, n, i) => P33 ps a n i) (.exit 0) fun (a, ps, n, i) => mkS 20 [(3, .v (.int .i64 (mnI ps)))] [] 0
noncomputable def lp33 : Lp U := lpL [(0, lc33)]
theorem lp33_ok : ∀ c, Tryd.f33.body = some c → LpOk X E33 an33 lp33 (loops c 0) := lpL_ok (by kernel_rfl) fun b L hm st p hs => by
  cases hm with
  | head =>
    obtain ⟨⟨a, ps, n, i⟩, hx, ⟨h, rfl, rfl, rfl⟩, rfl⟩ := LC.of_some hs
    obtain rfl := dl33_ok hx
    refine ⟨_, (rounds33 _ ps h ps.length 0 0 (Nat.zero_add _) (Int.le_refl _) (by omega)).trans ?_⟩
    rw [List.drop_zero, Int.zero_add]
    show some (_, _) = some (_, mkS 20 [(3, .v (.int .i64 (mnI ps)))] [] 0)
    unfold mnI
    rw [many_nums]
  | tail _ hm => cases hm
theorem e33 (ps : List
  R54) : (evFn X E33 an33 lp33 Tryd.f33 [] [TV.agg [TV.lst C.t54 ps]] fun (o : List (TO X.U)) (v : TV X.U) =>
  some (o, v)) =
  if P33 ps 0 (↑ps.length : Int) 0 then some ([], TV.v (Value.int IntKind.i64 (mnI ps))) else none := by kernel_rfl
noncomputable def sMany0 : Spc U := .of d30 (fun ps => PWith ps) (fun _ => []) fun ps => .v (.int .i64 (mnI ps))
theorem sMany0_ok : SpecOk Tryd.prog 33 sMany0 := by
  refine fn_ok X_ok mixed E33_ok an33 lp33 Tryd.func33 (by kernel_rfl) (by kernel_rfl) lp33_ok fun objs args ps hx hp => ?_
  obtain ⟨rfl, rfl⟩ := d30_ok hx
  exact (e33 ps).trans (if_pos (show P33 ps 0 ps.length 0 from ⟨hp, rfl, rfl, rfl⟩))
noncomputable def sMany : Spc U := sMany0.wkA [.a [.l .t54]]
theorem sMany_ok : SpecOk Tryd.prog 33 sMany := sMany0_ok.wkA _
/-! ### Empty, same -/
theorem e37 (ps : List
  R54) : (evFn X E0 an0 lp0 Tryd.f37 [] [TV.agg [TV.lst C.t54 ps]] fun (o : List (TO X.U)) (v : TV X.U) =>
  some (o, v)) =
  some ([], TV.v (Value.bool (decide ((↑ps.length : Int) = 0)))) := by kernel_rfl
def sEmp0 : Spc U := .of d30 (fun ps => True) (fun _ => []) fun ps => .v (.bool (decide ((ps.length : Int) = 0)))
theorem sEmp0_ok : SpecOk Tryd.prog 37 sEmp0 := by
  refine fn_ok X_ok mixed E0_ok an0 lp0 Tryd.func37 (by kernel_rfl) (by kernel_rfl) (lp0_ok (by kernel_rfl)) fun objs args ps hx hp => ?_
  obtain ⟨rfl, rfl⟩ := d30_ok hx
  exact e37 ps
def sEmp : Spc U := sEmp0.wkA [.a [.l .t54]]
theorem sEmp_ok : SpecOk Tryd.prog 37 sEmp := sEmp0_ok.wkA _
noncomputable def E13 : FuncId → Option (Spc U)
  | 30 => some sList
  | 23 => some sEqI
  | 33 => some sMany
  | 37 => some sEmp
  | _ => none
theorem E13_ok : ∀ f S, E13 f = some S → SpecOk Tryd.prog f S := fun f S h => by
  unfold E13 at h
  split at h
  · cases h; exact sList_ok
  · cases h; exact sEqI_ok
  · cases h; exact sMany_ok
  · cases h; exact sEmp_ok
  · cases h
theorem e13 (ps : List
  R54) (l : List
  Int) : (evFn X E13 an0 lp0 Tryd.f13 [] [TV.agg [TV.lst C.t54 ps], TV.lst C.i64 l]
  fun (o : List (TO X.U)) (v : TV X.U) => some (o, v)) =
  if PWith ps then
  if PSz (numsR ps).length then
    bif eqI (numsR ps) l then
      if PWith ps then
        bif decide (mnI ps = (↑l.length : Int)) then
          if True then some ([], TV.v (Value.bool (decide ((↑ps.length : Int) = 0) == decide ((↑l.length : Int) = 0))))
          else none
        else some ([], TV.v (Value.bool false))
      else none
    else some ([], TV.v (Value.bool false))
  else none
else none := by kernel_rfl
end Go.Proofs.YtmcflglkfgnbbaaDoor.Bt

/- A set is the document's list; the law's first words are run. -/
namespace Go.Proofs.YtmcflglkfgnbbaaDoor.Bt
open Go Go.RowKit Go.Proofs.YtmcflglkfgnbbaaDoor.Eng Go.Proofs.YtmcflglkfgnbbaaDoor.Nd
set_option linter.unusedVariables false
set_option linter.unusedSimpArgs false
set_option maxRecDepth 20000
theorem nums_none {ps : List R54} (h : OkP ps) : (ps.length : Int) = 0 ↔ ((numsR ps).length : Int) = 0 := by
  cases ps with
  | nil => exact ⟨fun _ => rfl, fun _ => rfl⟩
  | cons p ps =>
    have hb := (h.2 p List.mem_cons_self).2
    have hs := Bl.bitsL_step p.At (x := p.Bits.toNat) (by omega) (by rw [Pu.lt64]; omega)
    rw [numsR_cons, hs]
    simp
    omega
def PSm (ps : List R54) (l : List Int) : Prop := RelP ps l
noncomputable instance (ps : List R54) (l : List Int) : Decidable (PSm ps l) := Classical.propDecidable _
def d13 (objs : List (TO U)) (args : List (TV U)) : Option (List R54 × List Int) := match objs, args with
  | [], [a0, a1] =>
    match a0 with
    | .agg [q0] =>
      match q0 with
      | .lst .t54 ps =>
        match a1 with
        | .lst .i64 l =>
          some (ps, l)
        | _ => none
      | _ => none
    | _ => none
  | _, _ => none
theorem d13_ok {objs : List (TO U)} {args : List (TV U)} {ps : List R54} {l : List Int} (h : d13 objs args = some (ps, l)) : objs = [] ∧ args = [.agg [.lst .t54 ps], .lst .i64 l] := by
  unfold d13 at h
  repeat' split at h
  all_goals first | (cases h; done) | (cases h; exact ⟨rfl, rfl⟩)
noncomputable def sSm0 : Spc U := .of d13 (fun (ps, l) => PSm ps l) (fun _ => []) fun _ => .v (.bool true)
theorem sSm0_ok : SpecOk Tryd.prog 13 sSm0 := by
  refine fn_ok X_ok mixed E13_ok an0 lp0 Tryd.func13 (by kernel_rfl) (by kernel_rfl) (lp0_ok (by kernel_rfl)) fun objs args x hx hp => ?_
  obtain ⟨ps, l⟩ := x
  obtain ⟨rfl, rfl⟩ := d13_ok hx
  have hp : RelP ps l := hp
  have hn := nums_rel hp
  have hok := hp.1
  have hz := nums_none hok
  have hl : PSz (numsR ps).length := by
    have := len_nums ps
    have := hok.len
    unfold PSz
    omega
  refine (e13 ps l).trans ?_
  rw [if_pos (show PWith ps from hok), if_pos hl, if_pos (show PWith ps from hok), if_pos trivial]
  unfold mnI
  rw [hn] at hz ⊢
  have e1 : eqI l l = true := decide_eq_true rfl
  rw [e1, cond_true, decide_eq_true rfl, cond_true]
  have : decide ((ps.length : Int) = 0) = decide ((l.length : Int) = 0) := by
    congr 1
    exact propext hz
  rw [this, beq_self_eq_true]
noncomputable def sSm : Spc U := sSm0.wkA [.a [.l .t54], .l .i64]
theorem sSm_ok : SpecOk Tryd.prog 13 sSm := sSm0_ok.wkA _
/-! ### awake: it is run -/
def rb29 : Ann := ⟨fun _ => 0, fun _ => 0, fun _ => [], false⟩
def rb36 : Ann := ⟨fun | 0 => 460 | _ => 0, fun | 0 => 12 | _ => 0, fun _ => [], false⟩
def rb65 : Ann := ⟨fun _ => 0, fun _ => 0, fun _ => [], false⟩
def rb66 : Ann := ⟨fun | 0 => 904 | _ => 0, fun | 0 => 12 | _ => 0, fun _ => [], false⟩
def rb60 : Ann := ⟨fun _ => 0, fun _ => 0, fun _ => [], false⟩
def rb81 : Ann := ⟨fun _ => 0, fun _ => 0, fun _ => [], false⟩
def rb90 : Ann := ⟨fun | 0 => 1799 | _ => 0, fun | 0 => 967 | _ => 0, fun _ => [], false⟩
def rb91 : Ann := ⟨fun _ => 0, fun _ => 0, fun _ => [], false⟩
def rb82 : Ann := ⟨fun _ => 0, fun _ => 0, fun _ => [], false⟩
def rb85 : Ann := ⟨fun _ => 0, fun _ => 0, fun _ => [], false⟩
/-- One element put into a row. -/
def sInsC : Spc U := .of dNP (fun (ys, i) => ys.length = 1 ∧ i = 0) (fun (ys, i) => [.dead ys.length, .row .t54 ys false]) fun _ => .full 1
theorem sInsC_ok : SpecOk Tryd.prog 36 sInsC := by
  refine SpecOk.of sInsPN_ok fun objs args x hx hp => ?_
  obtain ⟨ys, i⟩ := x
  obtain ⟨h1, rfl⟩ := hp
  have h1 : ys.length = 1 := h1
  unfold sInsPN Spc.of
  dsimp only
  rw [hx]
  exact if_pos (show PreN ys.length 0 from ⟨h1, rfl⟩)
def sInsD : Spc U := .of dIP (fun (xs, ys, i) => ys.length = 1 ∧ xs.length ≤ 1000 ∧ 0 ≤ i ∧ i ≤ xs.length) (fun (xs, ys, i) => [.dead xs.length, .row .t54 ys false, .row .t54 (insL xs ys i) false]) fun _ => .full 2
theorem sInsD_ok : SpecOk Tryd.prog 36 sInsD := by
  refine SpecOk.of sInsP0_ok fun objs args x hx hp => ?_
  obtain ⟨xs, ys, i⟩ := x
  obtain ⟨h1, h2, h3, h4⟩ := hp
  unfold sInsP0 Spc.of
  dsimp only
  rw [hx]
  exact if_pos (show PreIns xs.length ys.length 16 i from ⟨h3, h4, h1, by omega⟩)
def Eaw : FuncId → Option (Spc U)
  | 36 => some (alt isNl sInsC sInsD)
  | _ => none
theorem Eaw_ok : ∀ f S, Eaw f = some S → SpecOk Tryd.prog f S := fun f S h => by
  unfold Eaw at h
  split at h
  · cases h; exact alt_ok sInsC_ok sInsD_ok
  · cases h
noncomputable def fsB : FuncId → Option (Func × Ann)
  | 9 => some (Tryd.f9, rb29)
  | 28 => some (Tryd.f28, rb36)
  | 11 => some (Tryd.f11, rb65)
  | 33 => some (Tryd.f33, rb66)
  | 10 => some (Tryd.f10, rb60)
  | 34 => some (Tryd.f34, rb81)
  | 43 => some (Tryd.f43, rb90)
  | 44 => some (Tryd.f44, rb91)
  | 35 => some (Tryd.f35, { rb82 with own := true })
  | 42 => some (Tryd.f42, rb85)
  | _ => none
theorem fsB_ok : ∀ f fn an, fsB f = some (fn, an) → Runs Tryd.prog f fn := fun f fn an h => by
  unfold fsB at h
  split at h
  · cases h; exact ⟨Tryd.func9, by kernel_rfl, by kernel_rfl, by kernel_rfl⟩
  · cases h; exact ⟨Tryd.func28, by kernel_rfl, by kernel_rfl, by kernel_rfl⟩
  · cases h; exact ⟨Tryd.func11, by kernel_rfl, by kernel_rfl, by kernel_rfl⟩
  · cases h; exact ⟨Tryd.func33, by kernel_rfl, by kernel_rfl, by kernel_rfl⟩
  · cases h; exact ⟨Tryd.func10, by kernel_rfl, by kernel_rfl, by kernel_rfl⟩
  · cases h; exact ⟨Tryd.func34, by kernel_rfl, by kernel_rfl, by kernel_rfl⟩
  · cases h; exact ⟨Tryd.func43, by kernel_rfl, by kernel_rfl, by kernel_rfl⟩
  · cases h; exact ⟨Tryd.func44, by kernel_rfl, by kernel_rfl, by kernel_rfl⟩
  · cases h; exact ⟨Tryd.func35, by kernel_rfl, by kernel_rfl, by kernel_rfl⟩
  · cases h; exact ⟨Tryd.func42, by kernel_rfl, by kernel_rfl, by kernel_rfl⟩
  · cases h
set_option maxHeartbeats 0 in
theorem e29 : evFn X (runE X Eaw fsB 60 3 20) rb29 lp0 Tryd.f9 [] [] (fun o v => some (o, v)) = some ([], .v (.bool true)) := by kernel_rfl
def d00 (objs : List (TO U)) (args : List (TV U)) : Option (Unit) := match objs, args with
  | [], [] =>
    some ()
  | _, _ => none
theorem d00_ok {objs : List (TO U)} {args : List (TV U)} (h : d00 objs args = some ()) : objs = [] ∧ args = [] := by
  unfold d00 at h
  repeat' split at h
  all_goals first | (cases h; done) | (cases h; exact ⟨rfl, rfl⟩)
def sAwk : Spc U := .of d00 (fun _ => True) (fun _ => []) fun _ => .v (.bool true)
theorem sAwk_ok : SpecOk Tryd.prog 9 sAwk := by
  refine fn_ok X_ok mixed (runE_ok (N := 60) (k := 3) X_ok mixed Eaw_ok fsB_ok 20) rb29 lp0 Tryd.func9 (by kernel_rfl) (by kernel_rfl) (lp0_ok (by kernel_rfl)) fun objs args x hx hp => ?_
  obtain ⟨rfl, rfl⟩ := d00_ok hx
  exact e29
end Go.Proofs.YtmcflglkfgnbbaaDoor.Bt

/- Facts: sets of numbers that are handed in. -/
namespace Go.Proofs.YtmcflglkfgnbbaaDoor.Bt
open Go Go.RowKit Go.Proofs.YtmcflglkfgnbbaaDoor.Eng Go.Proofs.YtmcflglkfgnbbaaDoor.Nd
set_option linter.unusedVariables false
set_option linter.unusedSimpArgs false
set_option maxRecDepth 20000
noncomputable def E28o : FuncId → Option (Spc U)
  | 10 => some sWith
  | _ => none
theorem E28o_ok : ∀ f S, E28o f = some S → SpecOk Tryd.prog f S := fun f S h => by
  unfold E28o at h
  split at h
  · cases h; exact sWith_ok
  · cases h
def an28o : Ann := ⟨fun | 0 => 460 | _ => 0, fun | 0 => 12 | _ => 0, fun _ => [], false⟩
def S28o (k : List Int) (v : TV U) (i : Int) : TS U := mkS 17 [(2, .ref 0 0 0), (3, .ref 1 0 0), (6, .lst .i64 k), (7, .v (.int .i64 (k.length : Int))), (8, .v (.int .i64 i))] [.cells [nlv] false, .cells [v] false] 0
def Z28o (v : TV U) : TS U := mkS 17 [(2, .ref 0 0 0), (3, .ref 1 0 0)] [.cells [nlv] false, .cells [v] false] 0
theorem r28a (lp : Lp U) (N : Nat) (k : List Int) (ps : List R54) (i : Int) : fnLoop X E28o an28o lp Tryd.f28 0 N.succ (S28o k (nvL .t54 ps) i) = cond (decide (i < (k.length : Int))) ((getI k i).bind fun z => if PWith ps then cond (withP ps z).isEmpty (fnLoop X E28o an28o lp Tryd.f28 0 N (S28o k nlv (IntKind.i64.wrap (i + 1)))) (fnLoop X E28o an28o lp Tryd.f28 0 N (S28o k (.lst .t54 (cP (withP ps z))) (IntKind.i64.wrap (i + 1)))) else none) (some (.exit 0, Z28o (nvL .t54 ps))) := by cases ps <;> kernel_rfl
theorem r28o (lp : Lp U) (N : Nat) (k : List Int) (ps : List R54) (i : Int) : fnLoop X E28o an28o lp Tryd.f28 0 N.succ (S28o k (nvL .t54 ps) i) = cond (decide (i < (k.length : Int))) ((getI k i).bind fun z => if PWith ps then fnLoop X E28o an28o lp Tryd.f28 0 N (S28o k (nvL .t54 (withP ps z)) (IntKind.i64.wrap (i + 1))) else none) (some (.exit 0, Z28o (nvL .t54 ps))) := by
  rw [r28a]
  congr 1
  cases getI k i with
  | none => rfl
  | some z =>
    rw [Option.bind_some, Option.bind_some]
    cases hq : (withP ps z).isEmpty with
    | true => rw [nvP_e hq]; rfl
    | false => rw [nvP_c hq]; rfl
theorem rounds28o (lp : Lp U) (k : List Int) (hl : k.length ≤ 1000000) : ∀ (m i : Nat) (ps : List R54), i + m = k.length → OkP ps → fnLoop X E28o an28o lp Tryd.f28 0 (m + 1) (S28o k (nvL .t54 ps) i) = some (.exit 0, Z28o (nvL .t54 ((k.drop i).foldl withP ps))) := by
  intro m
  induction m with
  | zero => intro i ps hi hx; rw [r28o, decide_eq_false (by omega), List.drop_eq_nil_of_le (by omega)]; rfl
  | succ m ih =>
    intro i ps hi hx
    obtain ⟨z, hz, hz2⟩ := getE (l := k) (v := (i : Int)) (by omega) (by omega)
    rw [r28o, decide_eq_true (by omega), hz, cond_true, Option.bind_some, if_pos (show PWith ps from hx), wr (a := (i : Int) + 1) (by omega) (by omega), drop_get (show k[i]? = some z from hz2), List.foldl_cons]
    exact ih (i + 1) (withP ps z) (by omega) (withP_ok hx z).1
def dl28o (s : TS U) : Option (List Int × Int × Int) := match told s 17 [2, 3, 6, 7, 8] 0, s.objs with
  | some [a0, a1, a2, a3, a4], [o0, o1] =>
    match o0 with
    | .cells [q0] false =>
      match q0 with
      | .v (.slice none 0 0) =>
        match o1 with
        | .cells [q1] false =>
          match q1 with
          | .v (.slice none 0 0) =>
            match a0 with
            | .ref 0 0 0 =>
              match a1 with
              | .ref 1 0 0 =>
                match a2 with
                | .lst .i64 k =>
                  match a3 with
                  | .v (.int .i64 n) =>
                    match a4 with
                    | .v (.int .i64 i) =>
                      some (k, n, i)
                    | _ => none
                  | _ => none
                | _ => none
              | _ => none
            | _ => none
          | _ => none
        | _ => none
      | _ => none
    | _ => none
  | _, _ => none
theorem dl28o_ok {s : TS U} {k : List Int} {n : Int} {i : Int} (h : dl28o s = some (k, n, i)) : s = mkS (U := U) 17 ([2, 3, 6, 7, 8].zip ([.ref 0 0 0, .ref 1 0 0, .lst .i64 k, .v (.int .i64 n), .v (.int .i64 i)] : List (TV U))) ([.cells [.v (.slice none 0 0)] false, .cells [.v (.slice none 0 0)] false] : List (TO U)) 0 := by
  unfold dl28o at h
  split at h <;> try (cases h; done)
  rename_i ht ho
  have hs := told_ok ht
  rw [ho] at hs
  repeat' split at h
  all_goals first | (cases h; done) | (cases h; exact hs)
def P28o (m : Nat) (n i : Int) : Prop := Pl m ∧ n = m ∧ i = 0
instance (m : Nat) (n i : Int) : Decidable (P28o m n i) := by unfold P28o; infer_instance
def lc28o : LC U := .of2 dl28o (fun (k, n, i) => P28o k.length n i) (fun (k, n, i) => (ofP k).isEmpty) (.exit 0) (fun _ => Z28o nlv) (.exit 0) fun (k, n, i) => Z28o (.lst .t54 (cP (ofP k)))
def lp28o : Lp U := lpL [(0, lc28o)]
theorem lp28o_ok : ∀ c, Tryd.f28.body = some c → LpOk X E28o an28o lp28o (loops c 0) := lpL_ok (by kernel_rfl) fun b L hm st p hs => by
  cases hm with
  | head =>
    obtain ⟨⟨k, n, i⟩, hx, ⟨h, rfl, rfl⟩, rfl⟩ := LC.of2_some hs
    obtain rfl := dl28o_ok hx
    refine ⟨_, (rounds28o _ k h k.length 0 [] (Nat.zero_add _) relP_nil.1).trans ?_⟩
    rw [List.drop_zero]
    show some (_, Z28o (nvL .t54 (ofP k))) = _
    dsimp only
    cases hq : (ofP k).isEmpty with
    | true => rw [nvP_e hq]; rfl
    | false => rw [nvP_c hq]; rfl
  | tail _ hm => cases hm
theorem e28o (l : List
  Int) : (evFn X E28o an28o lp28o Tryd.f28 [] [TV.lst C.i64 l] fun (o : List (TO X.U)) (v : TV X.U) => some (o, v)) =
  if P28o l.length (↑l.length : Int) 0 then
  bif (ofP l).isEmpty then some ([], TV.agg [TV.v (Value.slice none 0 0)])
  else some ([], TV.agg [@TV.lst U C.t54 (cP (ofP l))])
else none := by kernel_rfl
def sOfS0 : Spc U := .of2 dLi (fun l => Pl l.length) (fun l => (ofP l).isEmpty) (fun _ => []) (fun _ => .agg [nlv]) (fun _ => []) fun l => .agg [.lst .t54 (cP (ofP l))]
theorem sOfS0_ok : SpecOk Tryd.prog 28 sOfS0 := by
  refine fn_ok2 X_ok mixed E28o_ok an28o lp28o Tryd.func28 (by kernel_rfl) (by kernel_rfl) lp28o_ok fun objs args l hx hp => ?_
  obtain ⟨rfl, rfl⟩ := dLi_ok hx
  refine (e28o l).trans ?_
  rw [if_pos (show P28o l.length l.length 0 from ⟨hp, rfl, rfl⟩)]
  cases (ofP l).isEmpty <;> rfl
def sOfS : Spc U := sOfS0.wkA [.l .i64]
theorem sOfS_ok : SpecOk Tryd.prog 28 sOfS := sOfS0_ok.wkA _
end Go.Proofs.YtmcflglkfgnbbaaDoor.Bt

/- What is in both, in either, in the first one alone: the document's lists. -/
namespace Go.Proofs.YtmcflglkfgnbbaaDoor.Bt
open Go Go.RowKit Go.Proofs.YtmcflglkfgnbbaaDoor.Eng Go.Proofs.YtmcflglkfgnbbaaDoor.Nd
set_option linter.unusedVariables false
set_option linter.unusedSimpArgs false
set_option maxRecDepth 20000
def E15 : FuncId → Option (Spc U)
  | 12 => some sMem
  | _ => none
theorem E15_ok : ∀ f S, E15 f = some S → SpecOk Tryd.prog f S := fun f S h => by
  unfold E15 at h
  split at h
  · cases h; exact sMem_ok
  · cases h
def PSs (m n : Nat) : Prop := m ≤ 1000000 ∧ n ≤ 1000000
instance (m n : Nat) : Decidable (PSs m n) := by unfold PSs; infer_instance
def an15 : Ann := ⟨fun | 0 => 99 | _ => 0, fun | 0 => 48 | _ => 0, fun | 7 => [5] | _ => [], false⟩
def g15_S0 (a : List
  Int) (b : List
  Int) (v2 : Int) (v3 : List
  (T
    C.i64)) : TS U := mkS 29
  [(0, TV.lst C.i64 a), (1, TV.lst C.i64 b), (5, TV.full 0), (6, TV.v (Value.int IntKind.i64 v2))]
  [TO.row C.i64 v3 false] 0
theorem g15_e0 (lp : Lp
  U) (a : List
  Int) (b : List
  Int) (N : Nat) (v2 : Int) (v3 : List (T C.i64)) : fnLoop X E15 an15 lp Tryd.f15 0 N.succ (g15_S0 a b v2 v3) =
  bif decide (v2 < (↑a.length : Int)) then
  (getI a v2).bind fun (z : X.U.T C.i64) =>
    if Pl b.length then
      bif !memI b z then
        (getI a v2).bind fun (z : X.U.T C.i64) =>
          if (v3.length + 1) * 8 ≤ 140737488355328 then
            fnLoop X E15 an15 lp Tryd.f15 0 N (g15_S0 a b (IntKind.i64.wrap (v2 + 1)) (v3 ++ [z]))
          else none
      else fnLoop X E15 an15 lp Tryd.f15 0 N (g15_S0 a b (IntKind.i64.wrap (v2 + 1)) v3)
    else none
else some (Exit.exit 0, mkS 29 [(5, TV.full 0)] [TO.row C.i64 v3 false] 0) := by kernel_rfl
def Z15 (xs : List Int) : TS U := mkS 29 [(5, .full 0)] [.row .i64 xs false] 0
def lessR (a b : List Int) : List Int := a.filter fun z => !memI b z
theorem rounds15 (lp : Lp U) (a b : List Int) (hl : a.length ≤ 1000000) (hb : b.length ≤ 1000000) : ∀ (m i : Nat) (xs : List Int), i + m = a.length → xs.length ≤ i → fnLoop X E15 an15 lp Tryd.f15 0 (m + 1) (g15_S0 a b i xs) = some (.exit 0, Z15 (xs ++ lessR (a.drop i) b)) := by
  intro m
  induction m with
  | zero => intro i xs hi hx; rw [g15_e0, decide_eq_false (by omega), List.drop_eq_nil_of_le (by omega)]; unfold lessR; rw [List.filter_nil, List.append_nil]; rfl
  | succ m ih =>
    intro i xs hi hx
    obtain ⟨z, hz, hz2⟩ := getE (l := a) (v := (i : Int)) (by omega) (by omega)
    rw [g15_e0, decide_eq_true (by omega), hz, cond_true, Option.bind_some, if_pos (show Pl b.length from hb), drop_get (show a[i]? = some z from hz2), wr (a := (i : Int) + 1) (by omega) (by omega)]
    unfold lessR
    rw [List.filter_cons]
    cases hm : memI b z with
    | true =>
      simp only [Bool.not_true, Bool.not_false, cond_false, cond_true, if_false, Bool.false_eq_true]
      exact ih (i + 1) xs (by omega) (by omega)
    | false =>
      simp only [Bool.not_true, Bool.not_false, cond_false, cond_true, if_true, Option.bind_some]
      rw [if_pos (by omega)]
      have := ih (i + 1) (xs ++ [z]) (by omega) (by rw [List.length_append, List.length_singleton]; omega)
      rw [List.append_assoc] at this
      exact this
def dl15 (s : TS U) : Option (List Int × List Int × List Int × Int) := match told s 29 [0, 1, 5, 6] 0, s.objs with
  | some [a0, a1, a2, a3], [o0] =>
    match o0 with
    | .row .i64 xs false =>
      match a0 with
      | .lst .i64 a =>
        match a1 with
        | .lst .i64 b =>
          match a2 with
          | .full 0 =>
            match a3 with
            | .v (.int .i64 i) =>
              some (xs, a, b, i)
            | _ => none
          | _ => none
        | _ => none
      | _ => none
    | _ => none
  | _, _ => none
theorem dl15_ok {s : TS U} {xs : List Int} {a : List Int} {b : List Int} {i : Int} (h : dl15 s = some (xs, a, b, i)) : s = mkS (U := U) 29 ([0, 1, 5, 6].zip ([.lst .i64 a, .lst .i64 b, .full 0, .v (.int .i64 i)] : List (TV U))) ([.row .i64 xs false] : List (TO U)) 0 := by
  unfold dl15 at h
  split at h <;> try (cases h; done)
  rename_i ht ho
  have hs := told_ok ht
  rw [ho] at hs
  repeat' split at h
  all_goals first | (cases h; done) | (cases h; exact hs)
def P15 (a b xs : List Int) (i : Int) : Prop := (a.length ≤ 1000000 ∧ b.length ≤ 1000000) ∧ xs = [] ∧ i = 0
noncomputable instance (a b xs : List Int) (i : Int) : Decidable (P15 a b xs i) := Classical.propDecidable _
noncomputable def lc15 : LC U := .of dl15 (fun (xs, a, b, i) => P15 a b xs i) (.exit 0) fun (xs, a, b, i) => Z15 (lessR a b)
noncomputable def lp15 : Lp U := lpL [(0, lc15)]
theorem lp15_ok : ∀ c, Tryd.f15.body = some c → LpOk X E15 an15 lp15 (loops c 0) := lpL_ok (by kernel_rfl) fun b L hm st p hs => by
  cases hm with
  | head =>
    obtain ⟨⟨xs, a, b, i⟩, hx, ⟨⟨h, h2⟩, rfl, rfl⟩, rfl⟩ := LC.of_some hs
    obtain rfl := dl15_ok hx
    exact ⟨_, rounds15 _ a b h h2 a.length 0 [] (Nat.zero_add _) (Nat.le_refl 0)⟩
  | tail _ hm => cases hm
theorem e15 (a : List
  Int) (b : List
  Int) : (evFn X E15 an15 lp15 Tryd.f15 [] [TV.lst C.i64 a, TV.lst C.i64 b] fun (o : List (TO X.U)) (v : TV X.U) =>
  some (o, v)) =
  if P15 a b [] 0 then some ([], TV.lst C.i64 (lessR a b)) else none := by kernel_rfl
def sRLess0 : Spc U := .of d23 (fun (a, b) => PSs a.length b.length) (fun _ => []) fun (a, b) => .lst .i64 (lessR a b)
theorem sRLess0_ok : SpecOk Tryd.prog 15 sRLess0 := by
  refine fn_ok X_ok mixed E15_ok an15 lp15 Tryd.func15 (by kernel_rfl) (by kernel_rfl) lp15_ok fun objs args x hx hp => ?_
  obtain ⟨a, b⟩ := x
  obtain ⟨rfl, rfl⟩ := d23_ok hx
  exact (e15 a b).trans (if_pos (show P15 a b [] 0 from ⟨hp, rfl, rfl⟩))
def sRLess : Spc U := sRLess0.wkA [.l .i64, .l .i64]
theorem sRLess_ok : SpecOk Tryd.prog 15 sRLess := sRLess0_ok.wkA _
def an19 : Ann := ⟨fun | 0 => 99 | _ => 0, fun | 0 => 48 | _ => 0, fun | 7 => [5] | _ => [], false⟩
def g19_S0 (a : List
  Int) (b : List
  Int) (v2 : Int) (v3 : List
  (T
    C.i64)) : TS U := mkS 28
  [(0, TV.lst C.i64 a), (1, TV.lst C.i64 b), (5, TV.full 0), (6, TV.v (Value.int IntKind.i64 v2))]
  [TO.row C.i64 v3 false] 0
theorem g19_e0 (lp : Lp
  U) (a : List
  Int) (b : List
  Int) (N : Nat) (v2 : Int) (v3 : List (T C.i64)) : fnLoop X E15 an19 lp Tryd.f19 0 N.succ (g19_S0 a b v2 v3) =
  bif decide (v2 < (↑a.length : Int)) then
  (getI a v2).bind fun (z : X.U.T C.i64) =>
    if Pl b.length then
      bif memI b z then
        (getI a v2).bind fun (z : X.U.T C.i64) =>
          if (v3.length + 1) * 8 ≤ 140737488355328 then
            fnLoop X E15 an19 lp Tryd.f19 0 N (g19_S0 a b (IntKind.i64.wrap (v2 + 1)) (v3 ++ [z]))
          else none
      else fnLoop X E15 an19 lp Tryd.f19 0 N (g19_S0 a b (IntKind.i64.wrap (v2 + 1)) v3)
    else none
else some (Exit.exit 0, mkS 28 [(5, TV.full 0)] [TO.row C.i64 v3 false] 0) := by kernel_rfl
def Z19 (xs : List Int) : TS U := mkS 28 [(5, .full 0)] [.row .i64 xs false] 0
def andR (a b : List Int) : List Int := a.filter fun z => memI b z
theorem rounds19 (lp : Lp U) (a b : List Int) (hl : a.length ≤ 1000000) (hb : b.length ≤ 1000000) : ∀ (m i : Nat) (xs : List Int), i + m = a.length → xs.length ≤ i → fnLoop X E15 an19 lp Tryd.f19 0 (m + 1) (g19_S0 a b i xs) = some (.exit 0, Z19 (xs ++ andR (a.drop i) b)) := by
  intro m
  induction m with
  | zero => intro i xs hi hx; rw [g19_e0, decide_eq_false (by omega), List.drop_eq_nil_of_le (by omega)]; unfold andR; rw [List.filter_nil, List.append_nil]; rfl
  | succ m ih =>
    intro i xs hi hx
    obtain ⟨z, hz, hz2⟩ := getE (l := a) (v := (i : Int)) (by omega) (by omega)
    rw [g19_e0, decide_eq_true (by omega), hz, cond_true, Option.bind_some, if_pos (show Pl b.length from hb), drop_get (show a[i]? = some z from hz2), wr (a := (i : Int) + 1) (by omega) (by omega)]
    unfold andR
    rw [List.filter_cons]
    cases hm : memI b z with
    | false =>
      simp only [Bool.not_true, Bool.not_false, cond_false, cond_true, if_false, Bool.false_eq_true]
      exact ih (i + 1) xs (by omega) (by omega)
    | true =>
      simp only [Bool.not_true, Bool.not_false, cond_false, cond_true, if_true, Option.bind_some]
      rw [if_pos (by omega)]
      have := ih (i + 1) (xs ++ [z]) (by omega) (by rw [List.length_append, List.length_singleton]; omega)
      rw [List.append_assoc] at this
      exact this
def dl19 (s : TS U) : Option (List Int × List Int × List Int × Int) := match told s 28 [0, 1, 5, 6] 0, s.objs with
  | some [a0, a1, a2, a3], [o0] =>
    match o0 with
    | .row .i64 xs false =>
      match a0 with
      | .lst .i64 a =>
        match a1 with
        | .lst .i64 b =>
          match a2 with
          | .full 0 =>
            match a3 with
            | .v (.int .i64 i) =>
              some (xs, a, b, i)
            | _ => none
          | _ => none
        | _ => none
      | _ => none
    | _ => none
  | _, _ => none
theorem dl19_ok {s : TS U} {xs : List Int} {a : List Int} {b : List Int} {i : Int} (h : dl19 s = some (xs, a, b, i)) : s = mkS (U := U) 28 ([0, 1, 5, 6].zip ([.lst .i64 a, .lst .i64 b, .full 0, .v (.int .i64 i)] : List (TV U))) ([.row .i64 xs false] : List (TO U)) 0 := by
  unfold dl19 at h
  split at h <;> try (cases h; done)
  rename_i ht ho
  have hs := told_ok ht
  rw [ho] at hs
  repeat' split at h
  all_goals first | (cases h; done) | (cases h; exact hs)
def P19 (a b xs : List Int) (i : Int) : Prop := (a.length ≤ 1000000 ∧ b.length ≤ 1000000) ∧ xs = [] ∧ i = 0
noncomputable instance (a b xs : List Int) (i : Int) : Decidable (P19 a b xs i) := Classical.propDecidable _
noncomputable def lc19 : LC U := .of dl19 (fun (xs, a, b, i) => P19 a b xs i) (.exit 0) fun (xs, a, b, i) => Z19 (andR a b)
noncomputable def lp19 : Lp U := lpL [(0, lc19)]
theorem lp19_ok : ∀ c, Tryd.f19.body = some c → LpOk X E15 an19 lp19 (loops c 0) := lpL_ok (by kernel_rfl) fun b L hm st p hs => by
  cases hm with
  | head =>
    obtain ⟨⟨xs, a, b, i⟩, hx, ⟨⟨h, h2⟩, rfl, rfl⟩, rfl⟩ := LC.of_some hs
    obtain rfl := dl19_ok hx
    exact ⟨_, rounds19 _ a b h h2 a.length 0 [] (Nat.zero_add _) (Nat.le_refl 0)⟩
  | tail _ hm => cases hm
theorem e19 (a : List
  Int) (b : List
  Int) : (evFn X E15 an19 lp19 Tryd.f19 [] [TV.lst C.i64 a, TV.lst C.i64 b] fun (o : List (TO X.U)) (v : TV X.U) =>
  some (o, v)) =
  if P19 a b [] 0 then some ([], TV.lst C.i64 (andR a b)) else none := by kernel_rfl
def sRAnd0 : Spc U := .of d23 (fun (a, b) => PSs a.length b.length) (fun _ => []) fun (a, b) => .lst .i64 (andR a b)
theorem sRAnd0_ok : SpecOk Tryd.prog 19 sRAnd0 := by
  refine fn_ok X_ok mixed E15_ok an19 lp19 Tryd.func19 (by kernel_rfl) (by kernel_rfl) lp19_ok fun objs args x hx hp => ?_
  obtain ⟨a, b⟩ := x
  obtain ⟨rfl, rfl⟩ := d23_ok hx
  exact (e19 a b).trans (if_pos (show P19 a b [] 0 from ⟨hp, rfl, rfl⟩))
def sRAnd : Spc U := sRAnd0.wkA [.l .i64, .l .i64]
theorem sRAnd_ok : SpecOk Tryd.prog 19 sRAnd := sRAnd0_ok.wkA _
/-! ### Or -/
def E17 : FuncId → Option (Spc U)
  | 14 => some sRw
  | _ => none
theorem E17_ok : ∀ f S, E17 f = some S → SpecOk Tryd.prog f S := fun f S h => by
  unfold E17 at h
  split at h
  · cases h; exact sRw_ok
  · cases h
def an17 : Ann := ⟨fun | 0 => 98 | _ => 0, fun | 0 => 48 | _ => 0, fun _ => [], false⟩
def g17_S0 (b : List
  Int) (v1 : List
  Int) (v2 : Int) : TS U := mkS 21 [(1, TV.lst C.i64 b), (5, TV.lst C.i64 v1), (6, TV.v (Value.int IntKind.i64 v2))] []
  0
theorem g17_e0 (lp : Lp
  U) (b : List Int) (N : Nat) (v1 : List Int) (v2 : Int) : fnLoop X E17 an17 lp Tryd.f17 0 N.succ (g17_S0 b v1 v2) =
  bif decide (v2 < (↑b.length : Int)) then
  (getI b v2).bind fun (z : X.U.T C.i64) =>
    if Pl v1.length then fnLoop X E17 an17 lp Tryd.f17 0 N (g17_S0 b (rwR v1 z) (IntKind.i64.wrap (v2 + 1))) else none
else some (Exit.exit 0, mkS 21 [(5, TV.lst C.i64 v1)] [] 0) := by kernel_rfl
def orR (a b : List Int) : List Int := b.foldl rwR a
def Z17 (xs : List Int) : TS U := mkS 21 [(5, .lst .i64 xs)] [] 0
theorem rounds17 (lp : Lp U) (b : List Int) (hbl : b.length ≤ 1000000) : ∀ (m i : Nat) (xs : List Int), i + m = b.length → xs.length + m ≤ 1000000 → fnLoop X E17 an17 lp Tryd.f17 0 (m + 1) (g17_S0 b xs i) = some (.exit 0, Z17 ((b.drop i).foldl rwR xs)) := by
  intro m
  induction m with
  | zero => intro i xs hi hx; rw [g17_e0, decide_eq_false (by omega), List.drop_eq_nil_of_le (by omega)]; rfl
  | succ m ih =>
    intro i xs hi hx
    obtain ⟨z, hz, hz2⟩ := getE (l := b) (v := (i : Int)) (by omega) (by omega)
    have := rwR_len xs z
    rw [g17_e0, decide_eq_true (by omega), hz, cond_true, Option.bind_some, if_pos (show Pl xs.length by unfold Pl; omega), drop_get (show b[i]? = some z from hz2), List.foldl_cons]
    rw [show IntKind.i64.wrap ((i : Int) + 1) = (i : Int) + 1 from wr18 (by omega) (by omega)]
    exact ih (i + 1) (rwR xs z) (by omega) (by omega)
def dl17 (s : TS U) : Option (List Int × List Int × Int) := match told s 21 [1, 5, 6] 0, s.objs with
  | some [a0, a1, a2], [] =>
    match a0 with
    | .lst .i64 b =>
      match a1 with
      | .lst .i64 xs =>
        match a2 with
        | .v (.int .i64 i) =>
          some (b, xs, i)
        | _ => none
      | _ => none
    | _ => none
  | _, _ => none
theorem dl17_ok {s : TS U} {b : List Int} {xs : List Int} {i : Int} (h : dl17 s = some (b, xs, i)) : s = mkS (U := U) 21 ([1, 5, 6].zip ([.lst .i64 b, .lst .i64 xs, .v (.int .i64 i)] : List (TV U))) ([] : List (TO U)) 0 := by
  unfold dl17 at h
  split at h <;> try (cases h; done)
  rename_i ht ho
  have hs := told_ok ht
  rw [ho] at hs
  repeat' split at h
  all_goals first | (cases h; done) | (cases h; exact hs)
def P17 (b xs : List Int) (i : Int) : Prop := xs.length + b.length ≤ 1000000 ∧ i = 0
instance (b xs : List Int) (i : Int) : Decidable (P17 b xs i) := by unfold P17; infer_instance
def lc17 : LC U := .of dl17 (fun (b, xs, i) => P17 b xs i) (.exit 0) fun (b, xs, i) => Z17 (orR xs b)
def lp17 : Lp U := lpL [(0, lc17)]
theorem lp17_ok : ∀ c, Tryd.f17.body = some c → LpOk X E17 an17 lp17 (loops c 0) := lpL_ok (by kernel_rfl) fun b L hm st p hs => by
  cases hm with
  | head =>
    obtain ⟨⟨b, xs, i⟩, hx, ⟨h, rfl⟩, rfl⟩ := LC.of_some hs
    obtain rfl := dl17_ok hx
    exact ⟨_, rounds17 _ b (by omega) b.length 0 xs (Nat.zero_add _) h⟩
  | tail _ hm => cases hm
theorem e17 (a : List
  Int) (b : List
  Int) : (evFn X E17 an17 lp17 Tryd.f17 [] [TV.lst C.i64 a, TV.lst C.i64 b] fun (o : List (TO X.U)) (v : TV X.U) =>
  some (o, v)) =
  if P17 b a 0 then some ([], TV.lst C.i64 (orR a b)) else none := by kernel_rfl
def PSo (m n : Nat) : Prop := m + n ≤ 1000000
instance (m n : Nat) : Decidable (PSo m n) := by unfold PSo; infer_instance
def sROr0 : Spc U := .of d23 (fun (a, b) => PSo a.length b.length) (fun _ => []) fun (a, b) => .lst .i64 (orR a b)
theorem sROr0_ok : SpecOk Tryd.prog 17 sROr0 := by
  refine fn_ok X_ok mixed E17_ok an17 lp17 Tryd.func17 (by kernel_rfl) (by kernel_rfl) lp17_ok fun objs args x hx hp => ?_
  obtain ⟨a, b⟩ := x
  obtain ⟨rfl, rfl⟩ := d23_ok hx
  exact (e17 a b).trans (if_pos (show P17 b a 0 from ⟨hp, rfl⟩))
def sROr : Spc U := sROr0.wkA [.l .i64, .l .i64]
theorem sROr_ok : SpecOk Tryd.prog 17 sROr := sROr0_ok.wkA _
end Go.Proofs.YtmcflglkfgnbbaaDoor.Bt

/- What is in both, in the first one alone: sets. -/
namespace Go.Proofs.YtmcflglkfgnbbaaDoor.Bt
open Go Go.RowKit Go.Proofs.YtmcflglkfgnbbaaDoor.Eng Go.Proofs.YtmcflglkfgnbbaaDoor.Nd
set_option linter.unusedVariables false
set_option linter.unusedSimpArgs false
set_option maxRecDepth 20000
theorem e39 (a : Int) (b : Int) : (evFn X E0 an0 lp0 Tryd.f39 []
  [TV.v (Value.int IntKind.u64 a), TV.v (Value.int IntKind.u64 b)] fun (o : List (TO X.U)) (v : TV X.U) =>
  some (o, v)) =
  some
  ([],
    TV.v
      (Value.int IntKind.u64
        (IntKind.u64.wrap
          (↑(BitVec.ofInt IntKind.u64.bits a &&& BitVec.ofInt IntKind.u64.bits b).toNat : Int)))) := by kernel_rfl
theorem e40 (a : Int) (b : Int) : (evFn X E0 an0 lp0 Tryd.f40 []
  [TV.v (Value.int IntKind.u64 a), TV.v (Value.int IntKind.u64 b)] fun (o : List (TO X.U)) (v : TV X.U) =>
  some (o, v)) =
  some
  ([],
    TV.v
      (Value.int IntKind.u64
        (IntKind.u64.wrap
          (↑(BitVec.ofInt IntKind.u64.bits a &&& ~~~BitVec.ofInt IntKind.u64.bits b).toNat : Int)))) := by kernel_rfl
def d39 (objs : List (TO U)) (args : List (TV U)) : Option (Int × Int) := match objs, args with
  | [], [a0, a1] =>
    match a0 with
    | .v (.int .u64 a) =>
      match a1 with
      | .v (.int .u64 b) =>
        some (a, b)
      | _ => none
    | _ => none
  | _, _ => none
theorem d39_ok {objs : List (TO U)} {args : List (TV U)} {a : Int} {b : Int} (h : d39 objs args = some (a, b)) : objs = [] ∧ args = [.v (.int .u64 a), .v (.int .u64 b)] := by
  unfold d39 at h
  repeat' split at h
  all_goals first | (cases h; done) | (cases h; exact ⟨rfl, rfl⟩)
def B2 (a b : Int) : Prop := B64 a ∧ B64 b
instance (a b : Int) : Decidable (B2 a b) := by unfold B2; infer_instance
def andM (a b : Int) : Int := ((a.toNat &&& b.toNat : Nat) : Int)
def lessM (a b : Int) : Int := ((Pu.andn a.toNat b.toNat : Nat) : Int)
def sM39 : Spc U := .of d39 (fun (a, b) => B2 a b) (fun _ => []) fun (a, b) => .v (.int .u64 (andM a b))
theorem sM39_ok : SpecOk Tryd.prog 39 sM39 := by
  refine fn_ok X_ok mixed E0_ok an0 lp0 Tryd.func39 (by kernel_rfl) (by kernel_rfl) (lp0_ok (by kernel_rfl)) fun objs args x hx hp => ?_
  obtain ⟨a, b⟩ := x
  obtain ⟨rfl, rfl⟩ := d39_ok hx
  obtain ⟨⟨a0, a1⟩, b0, b1⟩ := hp
  obtain ⟨y, rfl⟩ : ∃ y : Nat, a = (y : Int) := ⟨a.toNat, by omega⟩
  obtain ⟨z, rfl⟩ : ∃ z : Nat, b = (z : Int) := ⟨b.toNat, by omega⟩
  refine (e39 _ _).trans ?_
  rw [Pu.and_k (by omega) (by omega)]
  rfl
def sM40 : Spc U := .of d39 (fun (a, b) => B2 a b) (fun _ => []) fun (a, b) => .v (.int .u64 (lessM a b))
theorem sM40_ok : SpecOk Tryd.prog 40 sM40 := by
  refine fn_ok X_ok mixed E0_ok an0 lp0 Tryd.func40 (by kernel_rfl) (by kernel_rfl) (lp0_ok (by kernel_rfl)) fun objs args x hx hp => ?_
  obtain ⟨a, b⟩ := x
  obtain ⟨rfl, rfl⟩ := d39_ok hx
  obtain ⟨⟨a0, a1⟩, b0, b1⟩ := hp
  obtain ⟨y, rfl⟩ : ∃ y : Nat, a = (y : Int) := ⟨a.toNat, by omega⟩
  obtain ⟨z, rfl⟩ : ∃ z : Nat, b = (z : Int) := ⟨b.toNat, by omega⟩
  refine (e40 _ _).trans ?_
  rw [Pu.andn_k (by omega) (by omega)]
  rfl
noncomputable def E38 : FuncId → Option (Spc U)
  | 34 => some sFnd
  | 39 => some sM39
  | 40 => some sM40
  | _ => none
theorem E38_ok : ∀ f S, E38 f = some S → SpecOk Tryd.prog f S := fun f S h => by
  unfold E38 at h
  split at h
  · cases h; exact sFnd_ok
  · cases h; exact sM39_ok
  · cases h; exact sM40_ok
  · cases h
def an38 : Ann := ⟨fun | 0 => 229588 | _ => 0, fun | 0 => 192 | _ => 0, fun | 13 => [7] | _ => [], false⟩
def fn39 : TV U := .v (.func (.func 39) #[] #[])
def fn40 : TV U := .v (.func (.func 40) #[] #[])
/-- The bits that a set has at a place. -/
def btA (T : List R54) (a : Int) : Int := match T[rkP T a]? with
  | some q => cond (decide (q.At = a)) q.Bits 0
  | none => 0
theorem btA_lt {T : List R54} (h : OkP T) (a : Int) : B64 (btA T a) := by
  unfold btA
  split
  · rename_i q hq
    have := (h.2 q (List.mem_of_getElem? hq)).2
    cases decide (q.At = a)
    · exact ⟨Int.le_refl 0, (by decide : (0 : Int) < 18446744073709551616)⟩
    · exact ⟨by show 0 ≤ q.Bits; omega, this.2⟩
  · exact ⟨Int.le_refl 0, (by decide : (0 : Int) < 18446744073709551616)⟩
theorem here_get {T : List R54} {a : Int} (h : hereP T a = true) : ∃ y, T[rkP T a]? = some y ∧ btA T a = y.Bits := by
  unfold hereP at h
  split at h
  · rename_i q hq
    refine ⟨q, hq, ?_⟩
    unfold btA
    rw [hq]
    dsimp only
    rw [h]
    rfl
  · cases h
theorem here_none {T : List R54} {a : Int} (h : hereP T a = false) : btA T a = 0 := by
  unfold hereP at h
  unfold btA
  split at h
  · rename_i q hq
    rw [hq]
    dsimp only
    rw [h]
    rfl
  · rename_i hq
    rw [hq]
theorem getI_nat2 {α : Type} {l : List α} {n : Nat} {x : α} (h : l[n]? = some x) : getI l (n : Int) = some x := by
  unfold getI
  rw [if_pos (by omega)]
  exact h
def Z38 (P : List R54) : TS U := mkS 52 [(6, .ref 0 0 0), (7, nvF 1 P)] ([.cells [nlv] false] ++ nvR .t54 P) 0
/-! ### And -/
def SAnd (S T P : List R54) (i : Int) : TS U := mkS 52 [(2, fn39), (4, .ref 0 0 0), (6, .ref 1 0 0), (7, nvF 2 P), (15, .lst .t54 S), (16, .v (.int .i64 (S.length : Int))), (17, .v (.int .i64 i))] ([.cells [.lst .t54 T] false, .cells [nlv] false] ++ nvR .t54 P) 0
theorem rAnd (lp : Lp U) (N : Nat) (S T P : List R54) (i : Int) : fnLoop X E38 an38 lp Tryd.f38 0 N.succ (SAnd S T P i) =
    cond (decide (i < (S.length : Int))) ((getI S i).bind fun z => if PreP T z.At then (cond (hereP T z.At)
      ((getI T (rkP T z.At : Int)).bind fun y => if B2 z.Bits y.Bits then (cond (!decide (andM z.Bits y.Bits = 0)) (if (P.length + 1) * 16 ≤ 140737488355328 then fnLoop X E38 an38 lp Tryd.f38 0 N (SAnd S T (P ++ [⟨z.At, andM z.Bits y.Bits⟩]) (IntKind.i64.wrap (i + 1))) else none) (fnLoop X E38 an38 lp Tryd.f38 0 N (SAnd S T P (IntKind.i64.wrap (i + 1))))) else none)
      (if B2 z.Bits 0 then (cond (!decide (andM z.Bits 0 = 0)) (if (P.length + 1) * 16 ≤ 140737488355328 then fnLoop X E38 an38 lp Tryd.f38 0 N (SAnd S T (P ++ [⟨z.At, andM z.Bits 0⟩]) (IntKind.i64.wrap (i + 1))) else none) (fnLoop X E38 an38 lp Tryd.f38 0 N (SAnd S T P (IntKind.i64.wrap (i + 1))))) else none)) else none)
      (some (.exit 0, Z38 P)) := by cases P <;> kernel_rfl
def AndP (S T : List R54) : List R54 := S.filterMap fun p => cond (decide (andM p.Bits (btA T p.At) = 0)) none (some ⟨p.At, andM p.Bits (btA T p.At)⟩)
theorem roundsAnd (lp : Lp U) (S T : List R54) (hS : OkP S) (hT : OkP T) : ∀ (m i : Nat) (P : List R54), i + m = S.length → P.length ≤ i → fnLoop X E38 an38 lp Tryd.f38 0 (m + 1) (SAnd S T P i) = some (.exit 0, Z38 (P ++ AndP (S.drop i) T)) := by
  have hlen := hS.len
  intro m
  induction m with
  | zero => intro i P hi hx; rw [rAnd, decide_eq_false (by omega), List.drop_eq_nil_of_le (by omega)]; unfold AndP; rw [List.filterMap_nil, List.append_nil]; rfl
  | succ m ih =>
    intro i P hi hx
    obtain ⟨z, hz, hz2⟩ := getE (l := S) (v := (i : Int)) (by omega) (by omega)
    have hz3 : S[i]? = some z := hz2
    have hb := hS.2 z (List.mem_of_getElem? hz3)
    rw [rAnd, decide_eq_true (by omega), hz, cond_true, Option.bind_some, if_pos (show PreP T z.At from ⟨hT, by omega, by omega⟩), dropG hz3, wr (a := (i : Int) + 1) (by omega) (by omega)]
    have hstep : ∀ b : Int, btA T z.At = b → (if B2 z.Bits b then (cond (!decide (andM z.Bits b = 0)) (if (P.length + 1) * 16 ≤ 140737488355328 then fnLoop X E38 an38 lp Tryd.f38 0 (m + 1) (SAnd S T (P ++ [⟨z.At, andM z.Bits b⟩]) ((i : Int) + 1)) else none) (fnLoop X E38 an38 lp Tryd.f38 0 (m + 1) (SAnd S T P ((i : Int) + 1)))) else none) = some (.exit 0, Z38 (P ++ AndP (z :: S.drop (i + 1)) T)) := by
      intro b hbe
      have hB : B2 z.Bits b := ⟨⟨by omega, hb.2.2⟩, hbe ▸ btA_lt hT z.At⟩
      rw [if_pos hB]
      unfold AndP
      rw [List.filterMap_cons, hbe]
      cases hq : decide (andM z.Bits b = 0) with
      | true => exact ih (i + 1) P (by omega) (by omega)
      | false =>
        have hp : (P.length + 1) * 16 ≤ 140737488355328 := by omega
        show (if (P.length + 1) * 16 ≤ 140737488355328 then _ else none) = _
        rw [if_pos hp]
        have := ih (i + 1) (P ++ [⟨z.At, andM z.Bits b⟩]) (by omega) (by rw [List.length_append, List.length_singleton]; omega)
        rw [List.append_assoc] at this
        exact this
    cases hh : hereP T z.At with
    | true =>
      obtain ⟨y, hy, hyb⟩ := here_get hh
      rw [cond_true, getI_nat2 hy, Option.bind_some]
      exact hstep y.Bits hyb
    | false =>
      rw [cond_false]
      exact hstep 0 (here_none hh)
def dlAnd (s : TS U) : Option (List R54 × List R54 × Int × Int) := match told s 52 [2, 4, 6, 7, 15, 16, 17] 0, s.objs with
  | some [.v (.func (.func 39) ⟨[]⟩ ⟨[]⟩), .ref 0 0 0, .ref 1 0 0, .v (.slice none 0 0), .lst .t54 S, .v (.int .i64 n), .v (.int .i64 i)], [.cells [.lst .t54 T] false, .cells [.v (.slice none 0 0)] false] => some (S, T, n, i)
  | _, _ => none
theorem dlAnd_ok {s : TS U} {S T : List R54} {n i : Int} (h : dlAnd s = some (S, T, n, i)) (hn : n = S.length) : s = SAnd S T [] i := by
  subst hn
  unfold dlAnd at h
  split at h <;> try (cases h; done)
  rename_i ht ho
  have hs := told_ok ht
  rw [ho] at hs
  cases h
  exact hs
def QAnd (S T : List R54) (n i : Int) : Prop := (OkP S ∧ OkP T) ∧ n = S.length ∧ i = 0
noncomputable instance (S T : List R54) (n i : Int) : Decidable (QAnd S T n i) := Classical.propDecidable _
/-! ### Less -/
def SLess (S T P : List R54) (i : Int) : TS U := mkS 52 [(2, fn40), (4, .ref 0 0 0), (6, .ref 1 0 0), (7, nvF 2 P), (15, .lst .t54 S), (16, .v (.int .i64 (S.length : Int))), (17, .v (.int .i64 i))] ([.cells [.lst .t54 T] false, .cells [nlv] false] ++ nvR .t54 P) 0
theorem rLess (lp : Lp U) (N : Nat) (S T P : List R54) (i : Int) : fnLoop X E38 an38 lp Tryd.f38 0 N.succ (SLess S T P i) =
    cond (decide (i < (S.length : Int))) ((getI S i).bind fun z => if PreP T z.At then (cond (hereP T z.At)
      ((getI T (rkP T z.At : Int)).bind fun y => if B2 z.Bits y.Bits then (cond (!decide (lessM z.Bits y.Bits = 0)) (if (P.length + 1) * 16 ≤ 140737488355328 then fnLoop X E38 an38 lp Tryd.f38 0 N (SLess S T (P ++ [⟨z.At, lessM z.Bits y.Bits⟩]) (IntKind.i64.wrap (i + 1))) else none) (fnLoop X E38 an38 lp Tryd.f38 0 N (SLess S T P (IntKind.i64.wrap (i + 1))))) else none)
      (if B2 z.Bits 0 then (cond (!decide (lessM z.Bits 0 = 0)) (if (P.length + 1) * 16 ≤ 140737488355328 then fnLoop X E38 an38 lp Tryd.f38 0 N (SLess S T (P ++ [⟨z.At, lessM z.Bits 0⟩]) (IntKind.i64.wrap (i + 1))) else none) (fnLoop X E38 an38 lp Tryd.f38 0 N (SLess S T P (IntKind.i64.wrap (i + 1))))) else none)) else none)
      (some (.exit 0, Z38 P)) := by cases P <;> kernel_rfl
def LessP (S T : List R54) : List R54 := S.filterMap fun p => cond (decide (lessM p.Bits (btA T p.At) = 0)) none (some ⟨p.At, lessM p.Bits (btA T p.At)⟩)
theorem roundsLess (lp : Lp U) (S T : List R54) (hS : OkP S) (hT : OkP T) : ∀ (m i : Nat) (P : List R54), i + m = S.length → P.length ≤ i → fnLoop X E38 an38 lp Tryd.f38 0 (m + 1) (SLess S T P i) = some (.exit 0, Z38 (P ++ LessP (S.drop i) T)) := by
  have hlen := hS.len
  intro m
  induction m with
  | zero => intro i P hi hx; rw [rLess, decide_eq_false (by omega), List.drop_eq_nil_of_le (by omega)]; unfold LessP; rw [List.filterMap_nil, List.append_nil]; rfl
  | succ m ih =>
    intro i P hi hx
    obtain ⟨z, hz, hz2⟩ := getE (l := S) (v := (i : Int)) (by omega) (by omega)
    have hz3 : S[i]? = some z := hz2
    have hb := hS.2 z (List.mem_of_getElem? hz3)
    rw [rLess, decide_eq_true (by omega), hz, cond_true, Option.bind_some, if_pos (show PreP T z.At from ⟨hT, by omega, by omega⟩), dropG hz3, wr (a := (i : Int) + 1) (by omega) (by omega)]
    have hstep : ∀ b : Int, btA T z.At = b → (if B2 z.Bits b then (cond (!decide (lessM z.Bits b = 0)) (if (P.length + 1) * 16 ≤ 140737488355328 then fnLoop X E38 an38 lp Tryd.f38 0 (m + 1) (SLess S T (P ++ [⟨z.At, lessM z.Bits b⟩]) ((i : Int) + 1)) else none) (fnLoop X E38 an38 lp Tryd.f38 0 (m + 1) (SLess S T P ((i : Int) + 1)))) else none) = some (.exit 0, Z38 (P ++ LessP (z :: S.drop (i + 1)) T)) := by
      intro b hbe
      have hB : B2 z.Bits b := ⟨⟨by omega, hb.2.2⟩, hbe ▸ btA_lt hT z.At⟩
      rw [if_pos hB]
      unfold LessP
      rw [List.filterMap_cons, hbe]
      cases hq : decide (lessM z.Bits b = 0) with
      | true => exact ih (i + 1) P (by omega) (by omega)
      | false =>
        have hp : (P.length + 1) * 16 ≤ 140737488355328 := by omega
        show (if (P.length + 1) * 16 ≤ 140737488355328 then _ else none) = _
        rw [if_pos hp]
        have := ih (i + 1) (P ++ [⟨z.At, lessM z.Bits b⟩]) (by omega) (by rw [List.length_append, List.length_singleton]; omega)
        rw [List.append_assoc] at this
        exact this
    cases hh : hereP T z.At with
    | true =>
      obtain ⟨y, hy, hyb⟩ := here_get hh
      rw [cond_true, getI_nat2 hy, Option.bind_some]
      exact hstep y.Bits hyb
    | false =>
      rw [cond_false]
      exact hstep 0 (here_none hh)
def dlLess (s : TS U) : Option (List R54 × List R54 × Int × Int) := match told s 52 [2, 4, 6, 7, 15, 16, 17] 0, s.objs with
  | some [.v (.func (.func 40) ⟨[]⟩ ⟨[]⟩), .ref 0 0 0, .ref 1 0 0, .v (.slice none 0 0), .lst .t54 S, .v (.int .i64 n), .v (.int .i64 i)], [.cells [.lst .t54 T] false, .cells [.v (.slice none 0 0)] false] => some (S, T, n, i)
  | _, _ => none
theorem dlLess_ok {s : TS U} {S T : List R54} {n i : Int} (h : dlLess s = some (S, T, n, i)) (hn : n = S.length) : s = SLess S T [] i := by
  subst hn
  unfold dlLess at h
  split at h <;> try (cases h; done)
  rename_i ht ho
  have hs := told_ok ht
  rw [ho] at hs
  cases h
  exact hs
def QLess (S T : List R54) (n i : Int) : Prop := (OkP S ∧ OkP T) ∧ n = S.length ∧ i = 0
noncomputable instance (S T : List R54) (n i : Int) : Decidable (QLess S T n i) := Classical.propDecidable _
end Go.Proofs.YtmcflglkfgnbbaaDoor.Bt

/- What is in both, in the first one alone: contracts. -/
namespace Go.Proofs.YtmcflglkfgnbbaaDoor.Bt
open Go Go.RowKit Go.Proofs.YtmcflglkfgnbbaaDoor.Eng Go.Proofs.YtmcflglkfgnbbaaDoor.Nd
set_option linter.unusedVariables false
set_option linter.unusedSimpArgs false
set_option maxRecDepth 20000
/-- A set that may be none, told as a list. -/
theorem SpecOk.lstW {f : FuncId} {A : Type} {d : List (TO U) → List (TV U) → Option A} {pre : A → Prop} [DecidablePred pre] {P : A → List R54}
    (h : SpecOk Tryd.prog f (Spc.of2 d pre (fun x => (P x).isEmpty) (fun _ => []) (fun _ => .agg [nlv]) (fun _ => []) fun x => .agg [.lst .t54 (cP (P x))])) (hd : ∀ objs args x, d objs args = some x → objs = []) :
    SpecOk Tryd.prog f (Spc.of d pre (fun _ => []) fun x => .agg [.lst .t54 (P x)]) := by
  refine ⟨h.fn, fun objs args => ?_, fun objs args objs' res hF h1 h2 h3 => ?_⟩
  · intro R k r h'
    unfold Spc.of at h' ⊢
    dsimp only at h' ⊢
    cases hx : d objs args with
    | none => rw [hx] at h'; cases h'
    | some x =>
      rw [hx] at h'
      dsimp only at h' ⊢
      split at h' <;> try (cases h'; done)
      rename_i hp
      exact ⟨_, _, h', fun k' => by rw [if_pos hp]⟩
  · unfold Spc.of at hF
    dsimp only at hF
    split at hF <;> try (cases hF; done)
    rename_i x hx
    split at hF <;> try (cases hF; done)
    rename_i hp
    obtain rfl := hd _ _ _ hx
    cases hF
    have h4 := h.ok [] args
    cases hq : (P x).isEmpty with
    | true =>
      have he : P x = [] := List.isEmpty_iff.1 hq
      obtain ⟨key, _⟩ := h4 [] (.agg [nlv]) (by unfold Spc.of2; dsimp only; rw [hx]; dsimp only; rw [if_pos hp, hq]; rfl) h1 h2 h3
      refine ⟨fun g w vs q1 q2 => (key g w vs q1 q2).mono fun e w' ⟨v, g', k1, k2, k3⟩ => ⟨v, g', k1, ?_, k3⟩, Nat.le_refl _, fun i hi => rfl, rfl, rfl⟩
      rw [he]
      cases k2 with
      | @agg us _ hl =>
        cases hu : us.toList with
        | nil => rw [hu] at hl; cases hl
        | cons p r =>
          rw [hu] at hl
          cases hl with
          | cons k4 k5 =>
            cases k5
            obtain rfl := rep_v k4
            refine .agg ?_
            rw [hu]
            exact .cons .nil .nil
    | false =>
      obtain ⟨key, _⟩ := h4 [] (.agg [.lst .t54 (cP (P x))]) (by unfold Spc.of2; dsimp only; rw [hx]; dsimp only; rw [if_pos hp, hq]; rfl) h1 h2 h3
      rw [cP_eq hq] at key
      exact ⟨key, Nat.le_refl _, fun i hi => rfl, rfl, rfl⟩
def Z38e : TS U := mkS 52 [(6, .ref 0 0 0), (7, nlv)] [.cells [nlv] false] 0
def Z38c (P : List R54) : TS U := mkS 52 [(6, .ref 0 0 0), (7, .full 1)] [.cells [nlv] false, .row .t54 P false] 0
theorem Z38_e {P : List R54} (h : P.isEmpty = true) : Z38 P = Z38e := by
  cases P with
  | nil => rfl
  | cons => cases h
theorem Z38_c {P : List R54} (h : P.isEmpty = false) : Z38 P = Z38c (cP P) := by
  cases P with
  | nil => cases h
  | cons => rfl
def POk2 (S T : List R54) : Prop := OkP S ∧ OkP T
noncomputable instance (S T : List R54) : Decidable (POk2 S T) := Classical.propDecidable _
def dST (objs : List (TO U)) (args : List (TV U)) : Option (List R54 × List R54) := match objs, args with
  | [], [a0, a1] =>
    match a0 with
    | .agg [q0] =>
      match q0 with
      | .lst .t54 S =>
        match a1 with
        | .agg [q1] =>
          match q1 with
          | .lst .t54 T =>
            some (S, T)
          | _ => none
        | _ => none
      | _ => none
    | _ => none
  | _, _ => none
theorem dST_ok {objs : List (TO U)} {args : List (TV U)} {S : List R54} {T : List R54} (h : dST objs args = some (S, T)) : objs = [] ∧ args = [.agg [.lst .t54 S], .agg [.lst .t54 T]] := by
  unfold dST at h
  repeat' split at h
  all_goals first | (cases h; done) | (cases h; exact ⟨rfl, rfl⟩)
noncomputable def lcAnd : LC U := .of2 dlAnd (fun (S, T, n, i) => QAnd S T n i) (fun (S, T, n, i) => (AndP S T).isEmpty) (.exit 0) (fun _ => Z38e) (.exit 0) fun (S, T, n, i) => Z38c (cP (AndP S T))
noncomputable def lpAnd : Lp U := lpL [(0, lcAnd)]
theorem lpAnd_ok : ∀ c, Tryd.f38.body = some c → LpOk X E38 an38 lpAnd (loops c 0) := lpL_ok (by kernel_rfl) fun b L hm st p hs => by
  cases hm with
  | head =>
    obtain ⟨⟨S, T, n, i⟩, hx, ⟨⟨h1, h2⟩, hn, rfl⟩, rfl⟩ := LC.of2_some hs
    obtain rfl := dlAnd_ok hx hn
    refine ⟨_, (roundsAnd _ S T h1 h2 S.length 0 [] (Nat.zero_add _) (Nat.le_refl 0)).trans ?_⟩
    rw [List.drop_zero, List.nil_append]
    dsimp only
    cases hq : (AndP S T).isEmpty with
    | true => rw [Z38_e hq]; rfl
    | false => rw [Z38_c hq]; rfl
  | tail _ hm => cases hm
theorem ekAnd (S : List
  R54) (T : List
  R54) : (evFn X E38 an38 lpAnd Tryd.f38 [] [TV.agg [TV.lst C.t54 S], TV.agg [TV.lst C.t54 T], fn39]
  fun (o : List (TO X.U)) (v : TV X.U) => some (o, v)) =
  if QAnd S T (↑S.length : Int) 0 then
  bif (AndP S T).isEmpty then some ([], TV.agg [TV.v (Value.slice none 0 0)])
  else some ([], TV.agg [@TV.lst U C.t54 (cP (AndP S T))])
else none := by kernel_rfl
def dkAnd (objs : List (TO U)) (args : List (TV U)) : Option (List R54 × List R54) := match objs, args with
  | [], [.agg [.lst .t54 S], .agg [.lst .t54 T], .v (.func (.func 39) ⟨[]⟩ ⟨[]⟩)] => some (S, T)
  | _, _ => none
theorem dkAnd_ok {objs : List (TO U)} {args : List (TV U)} {S T : List R54} (h : dkAnd objs args = some (S, T)) : objs = [] ∧ args = [.agg [.lst .t54 S], .agg [.lst .t54 T], fn39] := by
  unfold dkAnd at h
  split at h <;> try (cases h; done)
  cases h
  exact ⟨rfl, rfl⟩
noncomputable def sPkAnd0 : Spc U := .of2 dkAnd (fun (S, T) => POk2 S T) (fun (S, T) => (AndP S T).isEmpty) (fun _ => []) (fun _ => .agg [nlv]) (fun _ => []) fun (S, T) => .agg [.lst .t54 (cP (AndP S T))]
theorem sPkAnd0_ok : SpecOk Tryd.prog 38 sPkAnd0 := by
  refine fn_ok2 X_ok mixed E38_ok an38 lpAnd Tryd.func38 (by kernel_rfl) (by kernel_rfl) lpAnd_ok fun objs args x hx hp => ?_
  obtain ⟨S, T⟩ := x
  obtain ⟨rfl, rfl⟩ := dkAnd_ok hx
  refine (ekAnd S T).trans ?_
  rw [if_pos (show QAnd S T S.length 0 from ⟨hp, rfl, rfl⟩)]
  dsimp only
  cases (AndP S T).isEmpty <;> rfl
noncomputable def sPkAnd : Spc U := sPkAnd0.wkA [.a [.l .t54], .a [.l .t54], .no]
theorem sPkAnd_ok : SpecOk Tryd.prog 38 sPkAnd := sPkAnd0_ok.wkA _
noncomputable def EkAnd : FuncId → Option (Spc U)
  | 38 => some sPkAnd
  | _ => none
theorem EkAnd_ok : ∀ f S, EkAnd f = some S → SpecOk Tryd.prog f S := fun f S h => by
  unfold EkAnd at h
  split at h
  · cases h; exact sPkAnd_ok
  · cases h
theorem eoAnd (S : List
  R54) (T : List
  R54) : (evFn X EkAnd an0 lp0 Tryd.f18 [] [TV.agg [TV.lst C.t54 S], TV.agg [TV.lst C.t54 T]]
  fun (o : List (TO X.U)) (v : TV X.U) => some (o, v)) =
  if POk2 S T then
  bif (AndP S T).isEmpty then some ([], TV.agg [TV.v (Value.slice none 0 0)])
  else some ([], TV.agg [@TV.lst U C.t54 (cP (AndP S T))])
else none := by kernel_rfl
noncomputable def sAndS0 : Spc U := .of2 dST (fun (S, T) => POk2 S T) (fun (S, T) => (AndP S T).isEmpty) (fun _ => []) (fun _ => .agg [nlv]) (fun _ => []) fun (S, T) => .agg [.lst .t54 (cP (AndP S T))]
theorem sAndS0_ok : SpecOk Tryd.prog 18 sAndS0 := by
  refine fn_ok2 X_ok mixed EkAnd_ok an0 lp0 Tryd.func18 (by kernel_rfl) (by kernel_rfl) (lp0_ok (by kernel_rfl)) fun objs args x hx hp => ?_
  obtain ⟨S, T⟩ := x
  obtain ⟨rfl, rfl⟩ := dST_ok hx
  have hp : POk2 S T := hp
  refine (eoAnd S T).trans ?_
  rw [if_pos hp]
  dsimp only
  cases (AndP S T).isEmpty <;> rfl
noncomputable def sAndS1 : Spc U := .of dST (fun x => POk2 x.1 x.2) (fun _ => []) fun x => .agg [.lst .t54 (AndP x.1 x.2)]
theorem sAndS1_ok : SpecOk Tryd.prog 18 sAndS1 := SpecOk.lstW (P := fun x : List R54 × List R54 => AndP x.1 x.2) sAndS0_ok fun objs args x hx => by obtain ⟨S, T⟩ := x; exact (dST_ok hx).1
noncomputable def sAndS : Spc U := sAndS1.wkA [.a [.l .t54], .a [.l .t54]]
theorem sAndS_ok : SpecOk Tryd.prog 18 sAndS := sAndS1_ok.wkA _
noncomputable def lcLess : LC U := .of2 dlLess (fun (S, T, n, i) => QLess S T n i) (fun (S, T, n, i) => (LessP S T).isEmpty) (.exit 0) (fun _ => Z38e) (.exit 0) fun (S, T, n, i) => Z38c (cP (LessP S T))
noncomputable def lpLess : Lp U := lpL [(0, lcLess)]
theorem lpLess_ok : ∀ c, Tryd.f38.body = some c → LpOk X E38 an38 lpLess (loops c 0) := lpL_ok (by kernel_rfl) fun b L hm st p hs => by
  cases hm with
  | head =>
    obtain ⟨⟨S, T, n, i⟩, hx, ⟨⟨h1, h2⟩, hn, rfl⟩, rfl⟩ := LC.of2_some hs
    obtain rfl := dlLess_ok hx hn
    refine ⟨_, (roundsLess _ S T h1 h2 S.length 0 [] (Nat.zero_add _) (Nat.le_refl 0)).trans ?_⟩
    rw [List.drop_zero, List.nil_append]
    dsimp only
    cases hq : (LessP S T).isEmpty with
    | true => rw [Z38_e hq]; rfl
    | false => rw [Z38_c hq]; rfl
  | tail _ hm => cases hm
theorem ekLess (S : List
  R54) (T : List
  R54) : (evFn X E38 an38 lpLess Tryd.f38 [] [TV.agg [TV.lst C.t54 S], TV.agg [TV.lst C.t54 T], fn40]
  fun (o : List (TO X.U)) (v : TV X.U) => some (o, v)) =
  if QLess S T (↑S.length : Int) 0 then
  bif (LessP S T).isEmpty then some ([], TV.agg [TV.v (Value.slice none 0 0)])
  else some ([], TV.agg [@TV.lst U C.t54 (cP (LessP S T))])
else none := by kernel_rfl
def dkLess (objs : List (TO U)) (args : List (TV U)) : Option (List R54 × List R54) := match objs, args with
  | [], [.agg [.lst .t54 S], .agg [.lst .t54 T], .v (.func (.func 40) ⟨[]⟩ ⟨[]⟩)] => some (S, T)
  | _, _ => none
theorem dkLess_ok {objs : List (TO U)} {args : List (TV U)} {S T : List R54} (h : dkLess objs args = some (S, T)) : objs = [] ∧ args = [.agg [.lst .t54 S], .agg [.lst .t54 T], fn40] := by
  unfold dkLess at h
  split at h <;> try (cases h; done)
  cases h
  exact ⟨rfl, rfl⟩
noncomputable def sPkLess0 : Spc U := .of2 dkLess (fun (S, T) => POk2 S T) (fun (S, T) => (LessP S T).isEmpty) (fun _ => []) (fun _ => .agg [nlv]) (fun _ => []) fun (S, T) => .agg [.lst .t54 (cP (LessP S T))]
theorem sPkLess0_ok : SpecOk Tryd.prog 38 sPkLess0 := by
  refine fn_ok2 X_ok mixed E38_ok an38 lpLess Tryd.func38 (by kernel_rfl) (by kernel_rfl) lpLess_ok fun objs args x hx hp => ?_
  obtain ⟨S, T⟩ := x
  obtain ⟨rfl, rfl⟩ := dkLess_ok hx
  refine (ekLess S T).trans ?_
  rw [if_pos (show QLess S T S.length 0 from ⟨hp, rfl, rfl⟩)]
  dsimp only
  cases (LessP S T).isEmpty <;> rfl
noncomputable def sPkLess : Spc U := sPkLess0.wkA [.a [.l .t54], .a [.l .t54], .no]
theorem sPkLess_ok : SpecOk Tryd.prog 38 sPkLess := sPkLess0_ok.wkA _
noncomputable def EkLess : FuncId → Option (Spc U)
  | 38 => some sPkLess
  | _ => none
theorem EkLess_ok : ∀ f S, EkLess f = some S → SpecOk Tryd.prog f S := fun f S h => by
  unfold EkLess at h
  split at h
  · cases h; exact sPkLess_ok
  · cases h
theorem eoLess (S : List
  R54) (T : List
  R54) : (evFn X EkLess an0 lp0 Tryd.f20 [] [TV.agg [TV.lst C.t54 S], TV.agg [TV.lst C.t54 T]]
  fun (o : List (TO X.U)) (v : TV X.U) => some (o, v)) =
  if POk2 S T then
  bif (LessP S T).isEmpty then some ([], TV.agg [TV.v (Value.slice none 0 0)])
  else some ([], TV.agg [@TV.lst U C.t54 (cP (LessP S T))])
else none := by kernel_rfl
noncomputable def sLessS0 : Spc U := .of2 dST (fun (S, T) => POk2 S T) (fun (S, T) => (LessP S T).isEmpty) (fun _ => []) (fun _ => .agg [nlv]) (fun _ => []) fun (S, T) => .agg [.lst .t54 (cP (LessP S T))]
theorem sLessS0_ok : SpecOk Tryd.prog 20 sLessS0 := by
  refine fn_ok2 X_ok mixed EkLess_ok an0 lp0 Tryd.func20 (by kernel_rfl) (by kernel_rfl) (lp0_ok (by kernel_rfl)) fun objs args x hx hp => ?_
  obtain ⟨S, T⟩ := x
  obtain ⟨rfl, rfl⟩ := dST_ok hx
  have hp : POk2 S T := hp
  refine (eoLess S T).trans ?_
  rw [if_pos hp]
  dsimp only
  cases (LessP S T).isEmpty <;> rfl
noncomputable def sLessS1 : Spc U := .of dST (fun x => POk2 x.1 x.2) (fun _ => []) fun x => .agg [.lst .t54 (LessP x.1 x.2)]
theorem sLessS1_ok : SpecOk Tryd.prog 20 sLessS1 := SpecOk.lstW (P := fun x : List R54 × List R54 => LessP x.1 x.2) sLessS0_ok fun objs args x hx => by obtain ⟨S, T⟩ := x; exact (dST_ok hx).1
noncomputable def sLessS : Spc U := sLessS1.wkA [.a [.l .t54], .a [.l .t54]]
theorem sLessS_ok : SpecOk Tryd.prog 20 sLessS := sLessS1_ok.wkA _
end Go.Proofs.YtmcflglkfgnbbaaDoor.Bt

/- Within, the same, either. -/
namespace Go.Proofs.YtmcflglkfgnbbaaDoor.Bt
open Go Go.RowKit Go.Proofs.YtmcflglkfgnbbaaDoor.Eng Go.Proofs.YtmcflglkfgnbbaaDoor.Nd
set_option linter.unusedVariables false
set_option linter.unusedSimpArgs false
set_option maxRecDepth 20000
deriving instance DecidableEq for R54
noncomputable def E21 : FuncId → Option (Spc U)
  | 20 => some sLessS
  | 37 => some sEmp
  | _ => none
theorem E21_ok : ∀ f S, E21 f = some S → SpecOk Tryd.prog f S := fun f S h => by
  unfold E21 at h
  split at h
  · cases h; exact sLessS_ok
  · cases h; exact sEmp_ok
  · cases h
theorem e21 (S : List
  R54) (T : List
  R54) : (evFn X E21 an0 lp0 Tryd.f21 [] [TV.agg [TV.lst C.t54 S], TV.agg [TV.lst C.t54 T]]
  fun (o : List (TO X.U)) (v : TV X.U) => some (o, v)) =
  if POk2 S T then if True then some ([], TV.v (Value.bool (decide ((↑(LessP S T).length : Int) = 0)))) else none
else none := by kernel_rfl
noncomputable def sWi0 : Spc U := .of dST (fun (S, T) => POk2 S T) (fun _ => []) fun (S, T) => .v (.bool (decide (((LessP S T).length : Int) = 0)))
theorem sWi0_ok : SpecOk Tryd.prog 21 sWi0 := by
  refine fn_ok X_ok mixed E21_ok an0 lp0 Tryd.func21 (by kernel_rfl) (by kernel_rfl) (lp0_ok (by kernel_rfl)) fun objs args x hx hp => ?_
  obtain ⟨S, T⟩ := x
  obtain ⟨rfl, rfl⟩ := dST_ok hx
  have hp : POk2 S T := hp
  refine (e21 S T).trans ?_
  rw [if_pos hp]
  rfl
noncomputable def sWi : Spc U := sWi0.wkA [.a [.l .t54], .a [.l .t54]]
theorem sWi_ok : SpecOk Tryd.prog 21 sWi := sWi0_ok.wkA _
def an41 : Ann := ⟨fun | 0 => 12291 | _ => 0, fun | 0 => 16 | _ => 0, fun _ => [], false⟩
def g41_S0 (S : List
  R54) (T : List
  R54) (v3 : Int) : TS U := mkS 26
  [(0, TV.lst C.t54 S), (1, TV.lst C.t54 T), (12, TV.v (Value.int IntKind.i64 (↑S.length : Int))),
    (13, TV.v (Value.int IntKind.i64 v3))]
  [] 0
theorem g41_e0 (lp : Lp
  U) (S : List R54) (T : List R54) (N : Nat) (v3 : Int) : fnLoop X E0 an41 lp Tryd.f41 0 N.succ (g41_S0 S T v3) =
  bif decide (v3 < (↑S.length : Int)) then
  (getI S v3).bind fun (z : X.U.T C.t54) =>
    (getI T v3).bind fun (z_1 : X.U.T C.t54) =>
      bif !(decide (z.At = z_1.At) && (decide (z.Bits = z_1.Bits) && true)) then
        some (Exit.ret, mkS 26 [(4, TV.v (Value.bool false))] [] 0)
      else fnLoop X E0 an41 lp Tryd.f41 0 N (g41_S0 S T (IntKind.i64.wrap (v3 + 1)))
else some (Exit.exit 0, mkS 26 [] [] 0) := by kernel_rfl
theorem rounds41 (lp : Lp U) (S T : List R54) (hl : S.length = T.length) (hx : S.length ≤ 100000000) : ∀ (m i : Nat), i + m = S.length → fnLoop X E0 an41 lp Tryd.f41 0 (m + 1) (g41_S0 S T i) = cond (decide (S.drop i = T.drop i)) (some (.exit 0, mkS 26 [] [] 0)) (some (.ret, mkS 26 [(4, .v (.bool false))] [] 0)) := by
  intro m
  induction m with
  | zero => intro i hi; rw [g41_e0, decide_eq_false (by omega), List.drop_eq_nil_of_le (by omega), List.drop_eq_nil_of_le (by omega)]; rfl
  | succ m ih =>
    intro i hi
    obtain ⟨z, hz, hz2⟩ := getE (l := S) (v := (i : Int)) (by omega) (by omega)
    obtain ⟨u, hu, hu2⟩ := getE (l := T) (v := (i : Int)) (by omega) (by omega)
    rw [g41_e0, decide_eq_true (by omega), hz, hu, cond_true, Option.bind_some, Option.bind_some, dropG (show S[i]? = some z from hz2), dropG (show T[i]? = some u from hu2)]
    have e0 : (decide (z.At = u.At) && (decide (z.Bits = u.Bits) && true)) = decide (z = u) := by
      cases z
      cases u
      simp
    rw [e0]
    by_cases e : z = u
    · rw [decide_eq_true e, Bool.not_true, cond_false, wr (a := (i : Int) + 1) (by omega) (by omega)]
      have : decide (z :: S.drop (i + 1) = u :: T.drop (i + 1)) = decide (S.drop (i + 1) = T.drop (i + 1)) := by
        congr 1
        rw [e]
        simp
      rw [this]
      exact ih (i + 1) (by omega)
    · rw [decide_eq_false e]
      have : decide (z :: S.drop (i + 1) = u :: T.drop (i + 1)) = false := decide_eq_false fun h => e (List.cons.inj h).1
      rw [this]
      rfl
def P41 (S T : List R54) (n i : Int) : Prop := S.length = T.length ∧ S.length ≤ 100000000 ∧ n = S.length ∧ i = 0
instance (S T : List R54) (n i : Int) : Decidable (P41 S T n i) := by unfold P41; infer_instance
def eqP (S T : List R54) : Bool := decide (S = T)
def dl41 (s : TS U) : Option (List R54 × List R54 × Int × Int) := match told s 26 [0, 1, 12, 13] 0, s.objs with
  | some [a0, a1, a2, a3], [] =>
    match a0 with
    | .lst .t54 S =>
      match a1 with
      | .lst .t54 T =>
        match a2 with
        | .v (.int .i64 n) =>
          match a3 with
          | .v (.int .i64 i) =>
            some (S, T, n, i)
          | _ => none
        | _ => none
      | _ => none
    | _ => none
  | _, _ => none
theorem dl41_ok {s : TS U} {S : List R54} {T : List R54} {n : Int} {i : Int} (h : dl41 s = some (S, T, n, i)) : s = mkS (U := U) 26 ([0, 1, 12, 13].zip ([.lst .t54 S, .lst .t54 T, .v (.int .i64 n), .v (.int .i64 i)] : List (TV U))) ([] : List (TO U)) 0 := by
  unfold dl41 at h
  split at h <;> try (cases h; done)
  rename_i ht ho
  have hs := told_ok ht
  rw [ho] at hs
  repeat' split at h
  all_goals first | (cases h; done) | (cases h; exact hs)
def lc41 : LC U := .of2 dl41 (fun (S, T, n, i) => P41 S T n i) (fun (S, T, n, i) => eqP S T) (.exit 0) (fun _ => mkS 26 [] [] 0) .ret fun _ => mkS 26 [(4, .v (.bool false))] [] 0
def lp41 : Lp U := lpL [(0, lc41)]
theorem lp41_ok : ∀ c, Tryd.f41.body = some c → LpOk X E0 an41 lp41 (loops c 0) := lpL_ok (by kernel_rfl) fun b L hm st p hs => by
  cases hm with
  | head =>
    obtain ⟨⟨S, T, n, i⟩, hx, ⟨h, h2, rfl, rfl⟩, rfl⟩ := LC.of2_some hs
    obtain rfl := dl41_ok hx
    refine ⟨_, (rounds41 _ S T h h2 S.length 0 (Nat.zero_add _)).trans ?_⟩
    rw [List.drop_zero, List.drop_zero]
    show cond (eqP S T) _ _ = some (cond (eqP S T) _ _)
    cases eqP S T <;> rfl
  | tail _ hm => cases hm
theorem e41 (S : List
  R54) (T : List
  R54) : (evFn X E0 an41 lp41 Tryd.f41 [] [TV.lst C.t54 S, TV.lst C.t54 T] fun (o : List (TO X.U)) (v : TV X.U) =>
  some (o, v)) =
  bif !decide ((↑S.length : Int) = (↑T.length : Int)) then some ([], TV.v (Value.bool false))
else
  if P41 S T (↑S.length : Int) 0 then
    bif eqP S T then some ([], TV.v (Value.bool true)) else some ([], TV.v (Value.bool false))
  else none := by kernel_rfl
def d41 (objs : List (TO U)) (args : List (TV U)) : Option (List R54 × List R54) := match objs, args with
  | [], [a0, a1] =>
    match a0 with
    | .lst .t54 S =>
      match a1 with
      | .lst .t54 T =>
        some (S, T)
      | _ => none
    | _ => none
  | _, _ => none
theorem d41_ok {objs : List (TO U)} {args : List (TV U)} {S : List R54} {T : List R54} (h : d41 objs args = some (S, T)) : objs = [] ∧ args = [.lst .t54 S, .lst .t54 T] := by
  unfold d41 at h
  repeat' split at h
  all_goals first | (cases h; done) | (cases h; exact ⟨rfl, rfl⟩)
def sEqP0 : Spc U := .of d41 (fun (S, T) => PSz S.length) (fun _ => []) fun (S, T) => .v (.bool (eqP S T))
theorem sEqP0_ok : SpecOk Tryd.prog 41 sEqP0 := by
  refine fn_ok X_ok mixed E0_ok an41 lp41 Tryd.func41 (by kernel_rfl) (by kernel_rfl) lp41_ok fun objs args x hx hp => ?_
  obtain ⟨S, T⟩ := x
  obtain ⟨rfl, rfl⟩ := d41_ok hx
  have hp : S.length ≤ 100000000 := hp
  refine (e41 S T).trans ?_
  by_cases hl : S.length = T.length
  · rw [decide_eq_true (by omega), Bool.not_true, cond_false, if_pos (show P41 S T S.length 0 from ⟨hl, hp, rfl, rfl⟩)]
    show _ = some ([], TV.v (Value.bool (eqP S T)))
    cases eqP S T <;> rfl
  · rw [decide_eq_false (by omega), Bool.not_false, cond_true]
    have : eqP S T = false := decide_eq_false fun e => hl (by rw [e])
    show _ = some ([], TV.v (Value.bool (eqP S T)))
    rw [this]
def sEqP : Spc U := sEqP0.wkA [.l .t54, .l .t54]
theorem sEqP_ok : SpecOk Tryd.prog 41 sEqP := sEqP0_ok.wkA _
def E22 : FuncId → Option (Spc U)
  | 41 => some sEqP
  | _ => none
theorem E22_ok : ∀ f S, E22 f = some S → SpecOk Tryd.prog f S := fun f S h => by
  unfold E22 at h
  split at h
  · cases h; exact sEqP_ok
  · cases h
theorem e22 (S : List
  R54) (T : List
  R54) : (evFn X E22 an0 lp0 Tryd.f22 [] [TV.agg [TV.lst C.t54 S], TV.agg [TV.lst C.t54 T]]
  fun (o : List (TO X.U)) (v : TV X.U) => some (o, v)) =
  if PSz S.length then some ([], TV.v (Value.bool (eqP S T))) else none := by kernel_rfl
def sSame0 : Spc U := .of dST (fun (S, T) => PSz S.length) (fun _ => []) fun (S, T) => .v (.bool (eqP S T))
theorem sSame0_ok : SpecOk Tryd.prog 22 sSame0 := by
  refine fn_ok X_ok mixed E22_ok an0 lp0 Tryd.func22 (by kernel_rfl) (by kernel_rfl) (lp0_ok (by kernel_rfl)) fun objs args x hx hp => ?_
  obtain ⟨S, T⟩ := x
  obtain ⟨rfl, rfl⟩ := dST_ok hx
  exact (e22 S T).trans (if_pos hp)
def sSame : Spc U := sSame0.wkA [.a [.l .t54], .a [.l .t54]]
theorem sSame_ok : SpecOk Tryd.prog 22 sSame := sSame0_ok.wkA _
end Go.Proofs.YtmcflglkfgnbbaaDoor.Bt


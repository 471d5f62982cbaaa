/- Texts of this claim, put together: part 11. -/
import Derived.Test.YtmcflglkfgnbbaaDoorMxJ
/- Numbers are gone over: the law's function. -/
namespace Go.Proofs.YtmcflglkfgnbbaaDoor.Bt
open Go Go.RowKit Go.Shelf Go.Proofs.YtmcflglkfgnbbaaDoor.Eng Go.Proofs.YtmcflglkfgnbbaaDoor.Nd Go.Proofs.YtmcflglkfgnbbaaDoor.Bl
attribute [local go_sem] Oper.semAt_some
set_option linter.unusedVariables false
set_option linter.unusedSimpArgs false
theorem ints_slice {n₀ : Nat} {W : World} {v : Value} {l : List Int} (h : Ints n₀ W v l) : ∃ A cap, v = .slice A l.length cap := by
  cases h with
  | nil => exact ⟨_, _, rfl⟩
  | lst _ _ => exact ⟨_, _, rfl⟩
theorem parts_slice {n₀ : Nat} {W : World} {v : Value} {ps : List (Int × Nat)} (h : Parts n₀ W v ps) : ∃ A n cap, v = .slice A n cap := by
  cases h with
  | nil => exact ⟨_, _, _, rfl⟩
  | lst _ _ => exact ⟨_, _, _, rfl⟩
theorem ints_cell {n₀ : Nat} {W : World} {A : Option Addr} {n cap : Nat} {l : List Int} (h : Ints n₀ W (.slice A n cap) l) {j : Nat} {z : Int} (hj : l[j]? = some z) : ∃ b off, A = some ⟨b, off, none⟩ ∧ b < n₀ ∧ W.cell? ⟨b, off + j, none⟩ = some (.int .i64 z) := by
  generalize hv : Value.slice A n cap = v at h
  cases h with
  | nil => simp at hj
  | lst hb hc =>
    cases hv
    exact ⟨_, _, rfl, hb, hc j z hj⟩
theorem pre_snoc {pre L : List Int} {u : Int} (h : pre <+: L) (hu : L[pre.length]? = some u) : pre ++ [u] <+: L := by
  obtain ⟨r, rfl⟩ := h
  rw [List.getElem?_append_right (Nat.le_refl _), Nat.sub_self] at hu
  cases r with
  | nil => simp at hu
  | cons v r =>
    obtain rfl : v = u := by simpa using hu
    exact ⟨r, by simp⟩
theorem snoc_pre {pre L : List Int} {u : Int} (h : pre ++ [u] <+: L) : L[pre.length]? = some u := by
  obtain ⟨r, rfl⟩ := h
  simp
theorem kp_set {n₀ nb : Nat} {W : World} {v : Value} (v' : Value) (h : Boxed W nb 3 v) (hn : n₀ ≤ nb) : Kp n₀ W (W.setCell ⟨nb, 0, none⟩ v') :=
  ⟨(Below.refl _ _).setCell (p := ⟨nb, 0, none⟩) hn _, fun k cs fr hk => (Below.heap_setCell _ _ _ k (fun e => by
    subst e
    rw [show W.heap[k]? = _ from h] at hk
    cases hk)).trans hk⟩
theorem grown_set {nb : Nat} {A W : World} (v' : Value) (h : A.grownBy W (some nb)) : A.grownBy (W.setCell ⟨nb, 0, none⟩ v') (some nb) :=
  ⟨h.os, h.tape, h.output, Nat.le_trans h.size (KeepsWalks.setCell W _ v').size, fun k hk hk2 => (Below.heap_setCell _ _ _ k (fun e => hk2 (by rw [e]))).trans (h.block k hk hk2)⟩
theorem eq_nilf (W : World) (a : Option Addr) : Sem.run Tryd.prog (binOp BinOp.eql 29 (Value.func (Fn.func 31) #[] #[Value.pointer a]) Value.nilFunc) W = .ok (.bool false) W := by kernel_rfl
set_option maxRecDepth 100000 in
set_option maxHeartbeats 8000000 in
theorem goes_in (n : Nat) (hn : 3 ≤ n) (l : List Int) (y : Value) (most : Int) (w : World) (FF : Nat → Prop) (hFF : ∀ b, FF b → b < w.heap.size) (hT : TabsOk FF w) (hy : Rep (clo FF) w.heap y (.lst 1 (l.map encS_i64))) :
    CallsIn Fence.wide n Tryd.prog 3 #[y, .int .i64 most] w fun e W' => e = .returned (.bool true) ∧ Below w.heap.size w W' := by
  have h1 : 1 ≤ n := by omega
  obtain ⟨S, hS⟩ : ∃ S, ofP (l.take 100) = S := ⟨_, rfl⟩
  obtain ⟨L, hL⟩ : ∃ L, ofR (l.take 100) = L := ⟨_, rfl⟩
  have hr := relP_of (l.take 100)
  rw [hS, hL] at hr
  refine callsIn_of_wp_marks Tryd.func3 rfl trivial ?_ rfl
  simp only [Tryd.ntmps3, List.size_toArray, List.length_cons, List.length_nil, Nat.reduceAdd, Nat.reduceSub, Array.replicate_succ, Array.replicate_zero, List.push_toArray, List.append_toArray, List.nil_append, List.cons_append]
  have f7 : Fence.wide.fn 7 := trivial
  have f8 : Fence.wide.fn 8 := trivial
  have f9 : Fence.wide.fn 9 := trivial
  obtain ⟨w1, hw1⟩ : ∃ w1, (w.alloc (.cells #[.int .i64 most] 3)).alloc (.cells #[.bool false] 4) = w1 := ⟨_, rfl⟩
  have hb1 : Below w.heap.size w w1 := by rw [← hw1]; exact ((Below.refl _ w).alloc (Nat.le_refl _) _).alloc (by simp) _
  have hs1 : w1.heap.size = w.heap.size + 2 := by rw [← hw1]; simp
  have bm1 : Boxed w1 w.heap.size 3 (.int .i64 most) := by rw [← hw1]; exact (Boxed.new w 3 (.int .i64 most)).alloc _
  have br1 : Boxed w1 (w.heap.size + 1) 4 (.bool false) := by
    rw [← hw1]
    have := Boxed.new (w.alloc (.cells #[.int .i64 most] 3)) 4 (.bool false)
    rwa [World.size_alloc] at this
  have hT1 : TabsOk FF w1 := fun q hq => by
    obtain ⟨f1, cs, T, fr, f2, f3⟩ := hT q hq
    exact ⟨f1, cs, T, fr, (hb1.block _ (hFF _ f1)).trans f2, f3⟩
  have hy1 : Rep (clo FF) w1.heap y (.lst 1 (l.map encS_i64)) := hy.ext ⟨fun id b h => ⟨h, rfl, rfl⟩, fun b h => h⟩ ⟨fun b cs T fr h => ⟨cs, fr, (hb1.block _ (Array.getElem?_eq_some_iff.1 h).1).trans h, rfl, fun _ => rfl⟩⟩
  have hset := set_in (n - 1) l y w1 FF (fun b hb => Nat.lt_of_lt_of_le (hFF b hb) hb1.size) hT1 hy1
  rw [hS, hL] at hset
  have hnf := eq_nilf
  gi_wp2_with (first
    | (gi_at_call 7; refine hset.mono ?_; rintro e w2 ⟨x, v, rfl, hP, hI, hg⟩; obtain ⟨A, cap, rfl⟩ := ints_slice hI; obtain ⟨A2, n2, cap2, rfl⟩ := parts_slice hP)
    | (gi_at_call 8; refine (all_in (n - 1) _ _).mono ?_; rintro e w' ⟨rfl, rfl⟩))
  obtain ⟨W0, hW0⟩ : ∃ W0, ((((w2.alloc (.cells #[.slice A2 n2 cap2] 25)).alloc (.cells #[.slice A L.length cap] 22)).alloc (.cells #[.slice A2 n2 cap2] 25)).alloc (.cells #[.int .i64 0] 3)) = W0 := ⟨_, rfl⟩
  have hs0 : W0.heap.size = w2.heap.size + 4 := by rw [← hW0]; simp
  have hs2 : w1.heap.size ≤ w2.heap.size := hg.size
  have hB2 : Below w2.heap.size w2 W0 := by rw [← hW0]; exact (((((Below.refl _ w2).alloc (Nat.le_refl _) _).alloc (by simp) _).alloc (by simp; omega) _).alloc (by simp; omega) _)
  have hB1 : Below w.heap.size w W0 := (hb1.grown hg (by omega) (fun k e => by cases e)).trans (hB2.mono (by omega))
  have bm0 : Boxed W0 w.heap.size 3 (.int .i64 most) := (hB2.block _ (by omega)).trans (bm1.kept hg (by simp))
  have br0 : Boxed W0 (w.heap.size + 1) 4 (.bool false) := (hB2.block _ (by omega)).trans (br1.kept hg (by simp))
  have bx0 : Boxed W0 (w2.heap.size + 1) 22 (.slice A L.length cap) := by
    rw [← hW0]
    have := Boxed.new (w2.alloc (.cells #[.slice A2 n2 cap2] 25)) 22 (.slice A L.length cap)
    rw [World.size_alloc] at this
    exact (this.alloc _).alloc _
  have bs0 : Boxed W0 (w2.heap.size + 1 + 1) 25 (.slice A2 n2 cap2) := by
    rw [← hW0]
    have := Boxed.new ((w2.alloc (.cells #[.slice A2 n2 cap2] 25)).alloc (.cells #[.slice A L.length cap] 22)) 25 (.slice A2 n2 cap2)
    rw [World.size_alloc, World.size_alloc] at this
    exact this.alloc _
  have bn0 : Boxed W0 (w2.heap.size + 1 + 1 + 1) 3 (.int .i64 0) := by
    rw [← hW0]
    have := Boxed.new (((w2.alloc (.cells #[.slice A2 n2 cap2] 25)).alloc (.cells #[.slice A L.length cap] 22)).alloc (.cells #[.slice A2 n2 cap2] 25)) 3 (.int .i64 0)
    rwa [World.size_alloc, World.size_alloc, World.size_alloc] at this
  have hT0 : TabsOk FF W0 := fun q hq => by
    obtain ⟨f1, cs, T, fr, f2, f3⟩ := hT q hq
    exact ⟨f1, cs, T, fr, (hB1.block _ (hFF _ f1)).trans f2, f3⟩
  have hnm : nmL (S.map prP) = L := nums_rel hr
  obtain ⟨m0, m1⟩ := and63 most
  have hps : PsOk (S.map prP) := psOk hr.1
  rw [hW0]
  refine wpIn_rangeFunc_ownG rfl h1 (gf := 31) (lb := #[.pointer (some ⟨w2.heap.size + 1 + 1, 0, none⟩)]) rfl trivial (enters_of Tryd.func31 (by kernel_rfl) rfl)
    (all_stops (n - 1) (by omega) (w2.heap.size + 1 + 1) w2.heap.size L.length _ _ hps FF (fun b hb => by have := hFF b hb; omega) (by rw [hnm]; exact Nat.le_refl _) W0 (by omega) (by omega) hT0 bs0.cell (hP.below hB2)) Kp.trans (Kp.putObj (by omega)) (Below.refl _ _) (fun _ => rfl)
    (fun xs W => W0.grownBy W (some (w2.heap.size + 1 + 1 + 1)) ∧ Boxed W (w2.heap.size + 1 + 1 + 1) 3 (.int .i64 (xs.length : Int)) ∧ xs <+: L ∧ (xs.length : Int) ≤ bits .and .i64 most 63)
    (fun c xs W => (c = .ret ∧ ¬ xs <+: L) ∨ (c = .exit 0 ∧ W0.grownBy W (some (w2.heap.size + 1 + 1 + 1)) ∧ Boxed W (w2.heap.size + 1 + 1 + 1) 3 (.int .i64 (xs.length : Int)) ∧ (xs.length : Int) = bits .and .i64 most 63 + 1))
    ?own ?ownx ⟨⟨rfl, rfl, rfl, Nat.le_refl _, fun _ _ _ => rfl⟩, bn0, List.nil_prefix, m0⟩
    (fun z => { tmps := #[y, .int .i64 most, undef, .pointer (some ⟨w.heap.size, 0, none⟩), .pointer (some ⟨w.heap.size + 1, 0, none⟩), .pointer (some ⟨w2.heap.size, 0, none⟩), .pointer (some ⟨w2.heap.size + 1, 0, none⟩), .pointer (some ⟨w2.heap.size + 1 + 1 + 1, 0, none⟩),
      .func (.func 31) #[] #[.pointer (some ⟨w2.heap.size + 1 + 1, 0, none⟩)], .int .i64 z, .tuple #[.agg #[.slice A2 n2 cap2], .slice A L.length cap], y, .tuple #[.agg #[.slice A2 n2 cap2], .slice A L.length cap], .agg #[.slice A2 n2 cap2], .slice A L.length cap, .agg #[.slice A2 n2 cap2],
      .func (.func 31) #[] #[.pointer (some ⟨w2.heap.size + 1 + 1, 0, none⟩)], .func (.func 31) #[] #[.pointer (some ⟨w2.heap.size + 1 + 1, 0, none⟩)], .bool false, .func (.func 31) #[] #[.pointer (some ⟨w2.heap.size + 1 + 1, 0, none⟩)], .int .i64 z, undef, undef, undef, undef, undef, undef, undef, undef, undef, undef, undef, undef, undef, undef, undef, undef, undef, undef, undef, undef, undef, undef, undef, undef, undef, undef, undef, undef, undef, undef, undef, undef], defers := [] }) ?assign ?body ?done ?stop
  case own =>
    rintro xs A' B' row ⟨h2, h3, h4⟩ hgr hrow
    have hne : ∀ k, k < W0.heap.size → some k ≠ row := fun k hk e => by
      obtain ⟨hk2, _⟩ := hrow k e.symm
      omega
    exact ⟨⟨hgr.os.trans h2.os, hgr.tape.trans h2.tape, hgr.output.trans h2.output, Nat.le_trans h2.size hgr.size, fun k hk hk2 => (hgr.block k (Nat.lt_of_lt_of_le hk h2.size) (hne k hk)).trans (h2.block k hk hk2)⟩, h3.kept hgr (hne _ (by omega)), h4⟩
  case ownx =>
    rintro c xs A' B' row (h2 | ⟨hc, h2, h3, h4⟩) hgr hrow
    · exact .inl h2
    · have hne : ∀ k, k < W0.heap.size → some k ≠ row := fun k hk e => by
        obtain ⟨hk2, _⟩ := hrow k e.symm
        omega
      exact .inr ⟨hc, ⟨hgr.os.trans h2.os, hgr.tape.trans h2.tape, hgr.output.trans h2.output, Nat.le_trans h2.size hgr.size, fun k hk hk2 => (hgr.block k (Nat.lt_of_lt_of_le hk h2.size) (hne k hk)).trans (h2.block k hk hk2)⟩, h3.kept hgr (hne _ (by omega)), h4⟩
  case assign =>
    intro l z W K hK
    gi_wp2
    exact hK
  case body =>
    rintro l pre z W ⟨h2, hbn, hpre, hle⟩ hlt
    obtain ⟨u, hu⟩ : ∃ u, L[pre.length]? = some u := ⟨_, List.getElem?_eq_getElem hlt⟩
    obtain ⟨b, off, rfl, hb, hcz⟩ := ints_cell hI hu
    have ne : ∀ k, k ≠ w2.heap.size + 1 + 1 + 1 → some k ≠ some (w2.heap.size + 1 + 1 + 1) := fun k h e => h (by cases e; rfl)
    have bm := bm0.kept h2 (ne _ (by omega))
    have br := br0.kept h2 (ne _ (by omega))
    have bx := bx0.kept h2 (ne _ (by omega))
    have c1 := hbn.cell
    have c2 := hbn.frozen
    have c3 := bm.cell
    have c4 := br.cell
    have c5 := br.frozen
    have c6 := bx.cell
    have c7 : W.cell? ⟨b, off + pre.length, none⟩ = some (.int .i64 u) := by
      rw [World.cell?_of_block (a := ⟨b, off + pre.length, none⟩) ((h2.block b (by omega) (ne _ (by omega))).trans (hB2.block b hb))]
      exact hcz
    by_cases hz : u = z
    · subst hz
      have hlen : ((pre ++ [u]).length : Int) = (pre.length : Int) + 1 := by simp
      have hps2 := pre_snoc hpre hu
      gi_wp2
      · exact ⟨(KeepsOthers.setCell _ _ _).from _, .inr ⟨rfl, grown_set _ h2, by rw [hlen]; exact hbn.set _, by rw [hlen]; omega⟩⟩
      · exact ⟨(KeepsOthers.setCell _ _ _).from _, kp_set _ hbn (by omega), grown_set _ h2, by rw [hlen]; exact hbn.set _, hps2, by rw [hlen]; omega⟩
    · have hnp : ¬ pre ++ [z] <+: L := fun h => hz (by
        have := snoc_pre h
        rw [hu] at this
        exact Option.some.inj this)
      gi_wp2
      · exact ⟨(KeepsOthers.setCell _ _ _).from _, .inl ⟨rfl, hnp⟩⟩
      · rename_i h3 _
        exact absurd (by simpa using h3.2) hz
      · rename_i h3 _
        exact absurd (by simpa using h3.2) hz
  case done =>
    rintro D ys W hD hys ⟨h2, hbn, hpre, hle⟩ hK
    have hyl : ys.length = L.length := by rw [hys.trans hnm]
    rw [hyl] at hbn hle
    have neW : ∀ k, k ≠ w2.heap.size + 1 + 1 + 1 → some k ≠ some (w2.heap.size + 1 + 1 + 1) := fun k h e => h (by cases e; rfl)
    have bm := bm0.kept h2 (neW _ (by omega))
    have br := br0.kept h2 (neW _ (by omega))
    have bx := bx0.kept h2 (neW _ (by omega))
    have hBW : Below w.heap.size w W := hB1.grown h2 hB1.size (fun k e => by cases e; omega)
    have hTW : TabsOk FF W := fun q hq => by
      obtain ⟨f1, cs, T, fr, f2, f3⟩ := hT q hq
      exact ⟨f1, cs, T, fr, (hBW.block _ (hFF _ f1)).trans f2, f3⟩
    have hawk := awake_in (n - 1) FF W (fun b hb => Nat.lt_of_lt_of_le (hFF b hb) hBW.size) hTW
    have hDl : D < W.heap.size := (Array.getElem?_eq_some_iff.1 hK).1
    gi_wp2_with (gi_at_call 9; refine hawk.mono ?_; rintro e w3 ⟨rfl, hg3⟩; have bm3 := bm.kept hg3 (by simp); have br3 := br.kept hg3 (by simp); have bx3 := bx.kept hg3 (by simp); have bn3 := hbn.kept hg3 (by simp); have hK3 := (hg3.block D hDl (by simp)).trans hK; have hB3 : Below w.heap.size w w3 := hBW.grown hg3 hBW.size (fun k e => by cases e); have q1 := bm3.cell; have q2 := br3.cell; have q3 := br3.frozen; have q4 := bx3.cell; have q5 := bn3.cell)
    have hs4 : (w3.setCell ⟨w.heap.size + 1, 0, none⟩ (.bool true)).heap[D]? = some (.deferred (some [])) := (Below.heap_setCell _ _ _ D (by simp only; omega)).trans hK3
    have hB4 : Below w.heap.size w (w3.setCell ⟨w.heap.size + 1, 0, none⟩ (.bool true)) := hB3.setCell (p := ⟨w.heap.size + 1, 0, none⟩) (Nat.le_succ _) _
    refine ⟨by simp, .inl ⟨_, _, rfl, run_takeDeferred hs4, ?_⟩⟩
    have hc5 := cell_kept (World.cell?_setCell_same' w3 ⟨w.heap.size + 1, 0, none⟩ (.bool true) (by rw [q2]; rfl)) (grownBy_putObj' _ D (.deferred none)) (fun r e => by cases e; exact ⟨_, hs4, rfl⟩)
    refine ⟨.bool true, ?_, rfl, hB4.trans (belowK_b (w := w) (Nat.le_refl _) _ D _ _ (by omega) hs4 rfl rfl)⟩
    simp [results, Tryd.f3, go_sem, hc5]
  case stop =>
    rintro D c pre W hD hpre (⟨rfl, hnp⟩ | ⟨rfl, h2, hbn, hle⟩) hK
    · exact absurd (by rw [← hnm]; exact hpre) hnp
    have neW : ∀ k, k ≠ w2.heap.size + 1 + 1 + 1 → some k ≠ some (w2.heap.size + 1 + 1 + 1) := fun k h e => h (by cases e; rfl)
    have bm := bm0.kept h2 (neW _ (by omega))
    have br := br0.kept h2 (neW _ (by omega))
    have bx := bx0.kept h2 (neW _ (by omega))
    have hBW : Below w.heap.size w W := hB1.grown h2 hB1.size (fun k e => by cases e; omega)
    have hTW : TabsOk FF W := fun q hq => by
      obtain ⟨f1, cs, T, fr, f2, f3⟩ := hT q hq
      exact ⟨f1, cs, T, fr, (hBW.block _ (hFF _ f1)).trans f2, f3⟩
    have hawk := awake_in (n - 1) FF W (fun b hb => Nat.lt_of_lt_of_le (hFF b hb) hBW.size) hTW
    have hDl : D < W.heap.size := (Array.getElem?_eq_some_iff.1 hK).1
    rw [hle] at hbn
    gi_wp2_with (gi_at_call 9; refine hawk.mono ?_; rintro e w3 ⟨rfl, hg3⟩; have bm3 := bm.kept hg3 (by simp); have br3 := br.kept hg3 (by simp); have bx3 := bx.kept hg3 (by simp); have bn3 := hbn.kept hg3 (by simp); have hK3 := (hg3.block D hDl (by simp)).trans hK; have hB3 : Below w.heap.size w w3 := hBW.grown hg3 hBW.size (fun k e => by cases e); have q1 := bm3.cell; have q2 := br3.cell; have q3 := br3.frozen; have q4 := bx3.cell; have q5 := bn3.cell)
    all_goals
      have hs4 : (w3.setCell ⟨w.heap.size + 1, 0, none⟩ (.bool true)).heap[D]? = some (.deferred (some [])) := (Below.heap_setCell _ _ _ D (by simp only; omega)).trans hK3
      have hB4 : Below w.heap.size w (w3.setCell ⟨w.heap.size + 1, 0, none⟩ (.bool true)) := hB3.setCell (p := ⟨w.heap.size + 1, 0, none⟩) (Nat.le_succ _) _
      refine ⟨by simp, .inl ⟨_, _, rfl, run_takeDeferred hs4, ?_⟩⟩
      have hc5 := cell_kept (World.cell?_setCell_same' w3 ⟨w.heap.size + 1, 0, none⟩ (.bool true) (by rw [q2]; rfl)) (grownBy_putObj' _ D (.deferred none)) (fun r e => by cases e; exact ⟨_, hs4, rfl⟩)
      refine ⟨.bool true, ?_, rfl, hB4.trans (belowK_b (w := w) (Nat.le_refl _) _ D _ _ (by omega) hs4 rfl rfl)⟩
      simp [results, Tryd.f3, go_sem, hc5]
end Go.Proofs.YtmcflglkfgnbbaaDoor.Bt


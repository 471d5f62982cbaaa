/- Texts of this claim, put together: part 6. -/
import Derived.Laws.IdiomCopy
import Derived.Test.YtmcflglkfgnbbaaDoorProg
import Derived.Test.YtmcflglkfgnbbaaDoorMzE
/- Rows that the library writes anew, in their own block or in a new one. -/
namespace Go.Proofs.YtmcflglkfgnbbaaDoor.Eng
open Go Go.RowKit
set_option linter.unusedVariables false
set_option linter.unusedSimpArgs false
/-- Elements of any number of cells are copied. -/
theorem run_copy_cellsM {P : Program} (w : World) (dT sT ty elem : TypeId) (m b o dLen dCap : Nat) (a : Addr) (sLen sCap k : Nat) (cs : List Value)
    (hu : P.underlying dT = some (.slice elem)) (hs : (P.info? elem).map (·.size) = some m) (hk : k = Nat.min sLen dLen) (hn : cs.length = k * m)
    (hsrc : ∀ j v, cs[j]? = some v → w.cell? (a.add j) = some v) (hc : ∀ j, j < cs.length → (w.cell? ⟨b, o + j, none⟩).isSome = true) (hf : ∀ j, j < cs.length → w.frozen? ⟨b, o + j, none⟩ = false) (h1 : ∀ v ∈ cs, v.oneCell' = true) :
    (Builtin.copy_ #[dT, sT] ty #[.slice (some ⟨b, o, none⟩) dLen dCap, .slice (some a) sLen sCap]).run P w = .ok (goInt k) (w.setCells b o cs) := by
  have hl := run_loadCells_list (P := P) w a cs hsrc
  have hst := run_storeCells_cells (P := P) b o cs 0 w (by simpa using hc) (by simpa using hf) h1
  cases hq : P.info? elem with
  | none => simp [hq] at hs
  | some i =>
    have hi : i.size = m := by simpa [hq] using hs
    simp [Builtin.copy_, run_underlying hu, Builtin.lenOf, Builtin.firstCells, sizeOf, typeInfo, hq, hi, ← hk, ← hn, hl, hst]
theorem run_clear_sliceM {P : Program} (w : World) (t e ty : TypeId) (z : Value) (m : Nat) (ht : P.underlying t = some (.slice e)) (hv : ∀ w, (zeroValue e).run P w = .ok z w) (hz : z.cells.size = m) (h1 : (z.cells.all fun v => v.oneCell') = true) (b o n c : Nat) (hn : 0 < n)
    (hc : ∀ j, j < n * m → (w.cell? ⟨b, o + j, none⟩).isSome = true) (hf : ∀ j, j < n * m → w.frozen? ⟨b, o + j, none⟩ = false) :
    (Builtin.clear_ #[t] ty #[.slice (some ⟨b, o, none⟩) n c]).run P w = .ok (.tuple #[]) (w.setCells b o (Builtin.zeroCells z.cells n).toList) := by
  have hl : (Builtin.zeroCells z.cells n).toList.length = n * m := by rw [Array.length_toList, size_zeroCells, hz]
  have ho : ∀ v ∈ (Builtin.zeroCells z.cells n).toList, v.oneCell' = true := fun v hv => by
    unfold Builtin.zeroCells at hv
    rw [Array.toList_map] at hv
    obtain ⟨k, hk, rfl⟩ := List.mem_map.1 hv
    rw [Array.toList_range] at hk
    have hk := List.mem_range.1 hk
    rw [hz] at hk
    have hm : 0 < m := by
      rcases Nat.eq_zero_or_pos m with h | h
      · rw [h] at hk; omega
      · exact h
    have hlt : k % z.cells.size < z.cells.size := Nat.mod_lt _ (by omega)
    have := Array.all_eq_true.1 h1 (k % z.cells.size) hlt
    rw [getElem!_pos z.cells _ hlt]
    exact this
  have hst := run_storeCells_cells (P := P) b o (Builtin.zeroCells z.cells n).toList 0 w (by rw [hl]; simpa using hc) (by rw [hl]; simpa using hf) ho
  rw [Nat.add_zero] at hst
  obtain ⟨k, rfl⟩ : ∃ k, n = k + 1 := ⟨n - 1, by omega⟩
  simp [Builtin.clear_, run_underlying ht, hv, hst]
/-- What is handed back is a row of so many elements, in the block of what was handed in or in a new one; all other blocks are as they were. -/
structure Moved (w w' : World) (b m n : Nat) (cs : Array Value) (T : TypeId) (zs : List Value) (v : Value) : Prop where
  ex : ∃ b' off' c' cs' T' fr', v = .slice (some ⟨b', off', none⟩) n c' ∧ w'.heap[b']? = some (Go.Obj.cells cs' T' fr') ∧ n ≤ c' ∧ off' + c' * m ≤ cs'.size ∧ (∃ rest, cs'.toList.drop off' = zs ++ rest) ∧
    (∀ i, i ≤ cs'.size → ¬ (fr'.1 ≤ i ∧ i < fr'.2)) ∧ ((b' = b ∧ cs'.size = cs.size ∧ T' = T) ∨ (w.heap.size ≤ b' ∧ b' < w'.heap.size)) ∧ (∀ k, k < w.heap.size → k ≠ b' → w'.heap[k]? = w.heap[k]?)
  hsize : w.heap.size ≤ w'.heap.size
  os : w'.os = w.os
  tape : w'.tape = w.tape
  output : w'.output = w.output
def movO (objs : List Ob) (i0 : Nat) (x : Ob) : List OS := (objs.map OS.ob).set i0 .dead ++ [.ob x]
theorem movO_get {objs : List Ob} {i0 : Nat} {x o : Ob} {i : Nat} (h : (movO objs i0 x)[i]? = some (OS.ob o)) : (i < objs.length ∧ i ≠ i0 ∧ objs[i]? = some o) ∨ (i = objs.length ∧ o = x) := by
  unfold movO at h
  by_cases hi : i < objs.length
  · rw [List.getElem?_append_left (by simpa using hi), List.getElem?_set] at h
    by_cases e : i0 = i
    · rw [if_pos e] at h
      split at h <;> cases h
    · rw [if_neg e, List.getElem?_map] at h
      obtain ⟨y, hy, he⟩ := Option.map_eq_some_iff.1 h
      cases he
      exact .inl ⟨hi, fun h => e h.symm, hy⟩
  · rw [List.getElem?_append_right (by simp; omega)] at h
    simp only [List.length_set, List.length_map] at h
    obtain ⟨k, hk⟩ : ∃ k, i - objs.length = k := ⟨_, rfl⟩
    rw [hk] at h
    cases k with
    | zero =>
      simp at h
      exact .inr ⟨by omega, h.symm⟩
    | succ k => simp at h
theorem Moved.post {objs : List Ob} {g : Gh} {w w' : World} (hp : HPre objs g w) {i0 : Nat} {o : Ob} (ho : objs[i0]? = some o) (hz : o.fz = false) {b : Nat} (hb : g.β i0 = some b) {cs : Array Value} {T : TypeId} {fr : Nat × Nat} (hH : w.heap[b]? = some (.cells cs T fr))
    {n : Nat} {zs : List Value} {v : Value} (hm : Moved w w' b o.m n cs T zs v) {rows : List (List SV)} (hr : RepR g w.heap zs o.m rows) :
    ∃ g', Rep g' w'.heap v (.own objs.length 0 n) ∧ HPost objs (movO objs i0 ⟨o.m, rows, false⟩) g g' w w' := by
  obtain ⟨⟨b', off', c', cs', T', fr', rfl, h1, h2, h3, ⟨rest, h4⟩, h5, h6, h7⟩, s1, s2, s3, s4⟩ := hm
  obtain ⟨⟨b0, cs0, T0, fr0, k1, k2, k3, k4, k5, k6⟩, _⟩ := hp.ob i0 o ho
  rw [hb] at k1
  obtain rfl := Option.some.inj k1
  have hnF := k6 hz
  have hblt : b < w.heap.size := (Array.getElem?_eq_some_iff.1 hH).1
  have hnv := hp.never objs.length (Nat.le_refl _)
  obtain ⟨g', hg'⟩ : ∃ g' : Gh, g' = { g with β := fun i => if i = objs.length then some b' else g.β i, o0 := fun i => if i = objs.length then off' else g.o0 i, mm := fun i => if i = objs.length then o.m else g.mm i } := ⟨_, rfl⟩
  have eF : g'.F = g.F := by rw [hg']
  have eb : ∀ i, i ≠ objs.length → g'.β i = g.β i := fun i hi => by rw [hg']; exact if_neg hi
  have eo : ∀ i, i ≠ objs.length → g'.o0 i = g.o0 i := fun i hi => by rw [hg']; exact if_neg hi
  have em : ∀ i, i ≠ objs.length → g'.mm i = g.mm i := fun i hi => by rw [hg']; exact if_neg hi
  have eb0 : g'.β objs.length = some b' := by rw [hg']; exact if_pos rfl
  have eo0 : g'.o0 objs.length = off' := by rw [hg']; exact if_pos rfl
  have em0 : g'.mm objs.length = o.m := by rw [hg']; exact if_pos rfl
  have hne : ∀ i c, g.β i = some c → i ≠ objs.length := fun i c hc e => by rw [e, hnv] at hc; cases hc
  have hg : GExt g g' := ⟨fun i c hc => ⟨by rw [eb i (hne i c hc)]; exact hc, em i (hne i c hc), eo i (hne i c hc)⟩, fun c hc => by rw [eF]; exact hc⟩
  have hE : Ext g.F w.heap w'.heap := ⟨fun k ck Tk fk hk => by
    have hlt : k < w.heap.size := (Array.getElem?_eq_some_iff.1 hk).1
    by_cases e : k = b'
    · rcases h6 with ⟨e2, e3, e4⟩ | ⟨h, _⟩
      · subst e
        subst e2
        rw [hH] at hk
        obtain ⟨rfl, rfl, rfl⟩ := Go.Obj.cells.inj (Option.some.inj hk)
        rw [e4] at h1
        exact ⟨cs', fr', h1, e3, fun hF => (hnF hF).elim⟩
      · omega
    · exact ⟨ck, fk, by rw [h7 k hlt e]; exact hk, rfl, fun _ => rfl⟩⟩
  have hnF' : ¬ g.F b' := fun hF => by
    rcases h6 with ⟨e2, _⟩ | ⟨h, _⟩
    · rw [e2] at hF; exact hnF hF
    · have := hp.Flt _ hF; omega
  have hoth : ∀ i oi bi, objs[i]? = some oi → i ≠ i0 → g.β i = some bi → bi < w.heap.size → bi ≠ b' := fun i oi bi hi hne0 hbi hlt e => by
    rcases h6 with ⟨e2, _⟩ | ⟨h, _⟩
    · cases hzi : oi.fz with
      | true =>
        obtain ⟨⟨b1, _, _, _, q1, _, _, _, q5, _⟩, _⟩ := hp.ob i oi hi
        rw [hbi] at q1
        obtain rfl := Option.some.inj q1
        rw [e] at q5
        exact hnF' (q5 hzi)
      | false =>
        refine hne0 (hp.inj i i0 oi o b hi ho hzi hz ?_ hb)
        rw [hbi, e, e2]
    · omega
  have hrep : Rep g' w'.heap (.slice (some ⟨b', off', none⟩) n c') (.own objs.length 0 n) := by
    have := Rep.own (g := g') (H := w'.heap) (id := objs.length) (lo := 0) (len := n) (cap := c') eb0 h2 h1 (by rw [eo0, em0, Nat.zero_add]; exact h3)
    rw [eo0, em0, Nat.zero_mul, Nat.add_zero] at this
    exact this
  have hin : ∀ i, objs.length ≤ i → i ≠ objs.length → g'.β i = none := fun i hi hn => by rw [eb i hn]; exact hp.never i hi
  refine ⟨g', hrep, { ob := fun i oi hi => ?_, inj := fun i j oi oj c hi hj hzi hzj hbi hbj => ?_, own := fun i oi c hi hzi hbi => ?_, base := fun c hc hn => ?_, hsize := s1, F0 := fun c hc => by rw [eF]; exact hc, Fold := fun c hc _ => by rw [eF] at hc; exact .inl hc, Flt := fun c hc => ?_, os := s2, tape := s3, output := s4, gext := fun i c hc => ⟨by rw [eb i (hne i c hc)]; exact hc, em i (hne i c hc), eo i (hne i c hc)⟩, kept := fun c ck Tk fk hk => ?_ }⟩
  · rcases movO_get hi with ⟨hl, hne0, hoi⟩ | ⟨rfl, rfl⟩
    · obtain ⟨⟨b1, cs1, T1, fr1, q1, q2, q3, q4, q5, q6⟩, _⟩ := hp.ob i oi hoi
      have hlt := q2.lt
      have hbne := hoth i oi b1 hoi hne0 q1 hlt
      have hni : i ≠ objs.length := by omega
      refine ⟨⟨b1, cs1, T1, fr1, by rw [eb i hni]; exact q1, ?_, ?_, q4, by rw [eF]; exact q5, by rw [eF]; exact q6⟩, trivial⟩
      · rw [em i hni, eo i hni]
        exact q2.of_eq (h7 b1 hlt hbne)
      · rw [eo i hni]
        exact RepR.ext hg hE q3
    · refine ⟨⟨b', cs', T', fr', eb0, .inl ⟨em0, h1⟩, ?_, h5, fun h => (by cases h), fun _ => by rw [eF]; exact hnF'⟩, trivial⟩
      rw [eo0, h4]
      exact (RepR.ext hg hE hr).more rest
  · rcases movO_get hi with ⟨hl, hne0, hoi⟩ | ⟨rfl, rfl⟩
    · rcases movO_get hj with ⟨hl2, hne2, hoj⟩ | ⟨rfl, rfl⟩
      · rw [eb i (by omega)] at hbi
        rw [eb j (by omega)] at hbj
        exact hp.inj i j oi oj c hoi hoj hzi hzj hbi hbj
      · rw [eb i (by omega)] at hbi
        rw [eb0] at hbj
        obtain rfl := Option.some.inj hbj
        obtain ⟨⟨b1, cs1, T1, fr1, q1, q2, _⟩, _⟩ := hp.ob i oi hoi
        rw [hbi] at q1
        obtain rfl := Option.some.inj q1
        exact (hoth i oi _ hoi hne0 hbi q2.lt rfl).elim
    · rcases movO_get hj with ⟨hl2, hne2, hoj⟩ | ⟨rfl, rfl⟩
      · rw [eb j (by omega)] at hbj
        rw [eb0] at hbi
        obtain rfl := Option.some.inj hbi
        obtain ⟨⟨b1, cs1, T1, fr1, q1, q2, _⟩, _⟩ := hp.ob j oj hoj
        rw [hbj] at q1
        obtain rfl := Option.some.inj q1
        exact (hoth j oj _ hoj hne2 hbj q2.lt rfl).elim
      · rfl
  · rcases movO_get hi with ⟨hl, hne0, hoi⟩ | ⟨rfl, rfl⟩
    · rw [eb i (by omega)] at hbi
      exact .inr ⟨i, oi, hoi, hzi, hbi⟩
    · rw [eb0] at hbi
      obtain rfl := Option.some.inj hbi
      rcases h6 with ⟨e2, _⟩ | ⟨h, _⟩
      · exact .inr ⟨i0, o, ho, hz, by rw [e2]; exact hb⟩
      · exact .inl h
  · refine h7 c hc fun e => ?_
    rcases h6 with ⟨e2, _⟩ | ⟨h, _⟩
    · exact hn ⟨i0, o, ho, hz, by rw [e, e2]; exact hb⟩
    · omega
  · rw [eF] at hc
    have := hp.Flt c hc
    omega
  · obtain ⟨cs2, fr2, q1, q2, _⟩ := hE.cells c ck Tk fk hk
    exact ⟨cs2, fr2, q1, q2⟩
/-! ### What stands in the block -/
structure SetC (w w' : World) (b : Nat) (L : List Value) (T : TypeId) (fr : Nat × Nat) : Prop where
  at_ : ∃ cs, w'.heap[b]? = some (Go.Obj.cells cs T fr) ∧ cs.toList = L
  oth : ∀ k, k ≠ b → w'.heap[k]? = w.heap[k]?
  size : w'.heap.size = w.heap.size
  os : w'.os = w.os
  tape : w'.tape = w.tape
  output : w'.output = w.output
theorem SetC.refl {w : World} {b : Nat} {cs : Array Value} {T : TypeId} {fr : Nat × Nat} (h : w.heap[b]? = some (.cells cs T fr)) : SetC w w b cs.toList T fr := ⟨⟨cs, h, rfl⟩, fun _ _ => rfl, rfl, rfl, rfl, rfl⟩
theorem SetC.trans {w w' w'' : World} {b : Nat} {L L' : List Value} {T : TypeId} {fr : Nat × Nat} (h1 : SetC w w' b L T fr) (h2 : SetC w' w'' b L' T fr) : SetC w w'' b L' T fr :=
  ⟨h2.at_, fun k hk => (h2.oth k hk).trans (h1.oth k hk), h2.size.trans h1.size, h2.os.trans h1.os, h2.tape.trans h1.tape, h2.output.trans h1.output⟩
theorem setCell_setC (w : World) (b o : Nat) (v : Value) {cs : Array Value} {T : TypeId} {fr : Nat × Nat} (h : w.heap[b]? = some (.cells cs T fr)) : SetC w (w.setCell ⟨b, o, none⟩ v) b (cs.toList.set o v) T fr := by
  refine ⟨⟨cs.setIfInBounds o v, ?_, by simp⟩, fun k hk => heap_setCell_other w ⟨b, o, none⟩ k v hk, ?_, rfl, rfl, rfl⟩
  · simp [World.setCell, Array.getElem?_modify, h]
  · simp [World.setCell]
theorem setCells_setC (b : Nat) : ∀ (vs : List Value) (o : Nat) (w : World) {cs : Array Value} {T : TypeId} {fr : Nat × Nat}, w.heap[b]? = some (.cells cs T fr) → SetC w (w.setCells b o vs) b (owr cs.toList o vs) T fr
  | [], o, w, cs, T, fr, h => .refl h
  | v :: r, o, w, cs, T, fr, h => by
    have h1 := setCell_setC w b o v h
    obtain ⟨c2, h2, h3⟩ := h1.at_
    have h4 := setCells_setC b r (o + 1) (w.setCell ⟨b, o, none⟩ v) h2
    rw [h3] at h4
    exact h1.trans h4
theorem setCells_parts {b : Nat} {w : World} {cs : Array Value} {T : TypeId} {fr : Nat × Nat} (h : w.heap[b]? = some (.cells cs T fr)) {A O R vs : List Value} {o : Nat} (hL : cs.toList = A ++ (O ++ R)) (ho : A.length = o) (hv : vs.length = O.length) : SetC w (w.setCells b o vs) b (A ++ (vs ++ R)) T fr := by
  have := setCells_setC b vs o w h
  rw [owr_eq _ _ _ (by rw [hL, List.length_append, List.length_append]; omega), hL, List.take_left' ho, hv] at this
  have e : (A ++ (O ++ R)).drop (o + O.length) = R := by
    rw [← List.append_assoc]
    exact List.drop_left' (by rw [List.length_append, ho])
  rw [e, List.append_assoc] at this
  exact this
/-- slices.Insert, where the place is ahead of the end: there is room. -/
def InsShift (P : Program) (F M : Nat) : Prop := ∀ (b off n c i vb voff m vc : Nat) (cs vs : List Value) (w : World), i < n → 0 < m → n + m ≤ c → n + m ≤ 9223372036854775807 → vb ≠ b → cs.length = n * M → vs.length = m * M →
  (∀ j v, cs[j]? = some v → w.cell? ⟨b, off + j, none⟩ = some v) → (∀ j, j < (n + m) * M → (w.cell? ⟨b, off + j, none⟩).isSome = true) → (∀ j, j < (n + m) * M → w.frozen? ⟨b, off + j, none⟩ = false) →
  (∀ j v, vs[j]? = some v → w.cell? ⟨vb, voff + j, none⟩ = some v) → (∀ v ∈ cs, v.oneCell' = true) → (∀ v ∈ vs, v.oneCell' = true) →
  ∀ (tA tB : TypeId) (kA kB : Nat), w.shape? vb = some (tA, kA) → w.shape? b = some (tB, kB) → kB ≠ 0 → w.frozen? ⟨vb, voff, none⟩ = false → w.frozen? ⟨vb, kA, none⟩ = false →
  Calls P F #[.slice (some ⟨b, off, none⟩) n c, .int .i64 i, .slice (some ⟨vb, voff, none⟩) m vc] w fun e w' => e = .returned (.slice (some ⟨b, off, none⟩) (n + m) c) ∧ w' = (w.drew.setCells b (off + (i + m) * M) (cs.drop (i * M))).setCells b (off + i * M) vs
/-- There is none. -/
def InsGrow (P : Program) (F M BY TE : Nat) (Z : Array Value) : Prop := ∀ (b off n c i vb voff m vc : Nat) (cs vs : List Value) (w : World), i < n → 0 < m → n ≤ c → c < n + m → (n + m) * BY ≤ 140737488355328 → cs.length = n * M → vs.length = m * M →
  (∀ j v, cs[j]? = some v → w.cell? ⟨b, off + j, none⟩ = some v) → (∀ j v, vs[j]? = some v → w.cell? ⟨vb, voff + j, none⟩ = some v) → (∀ v ∈ cs, v.oneCell' = true) → (∀ v ∈ vs, v.oneCell' = true) →
  Calls P F #[.slice (some ⟨b, off, none⟩) n c, .int .i64 i, .slice (some ⟨vb, voff, none⟩) m vc] w fun e w' => e = .returned (.slice (some ⟨w.heap.size, 0, none⟩) (n + m) (grownCap w (n + m) c TE)) ∧
    w' = (((w.alloc (.cells ((cs.take (i * M)).toArray ++ Builtin.zeroCells Z (n + m - i) ++ Builtin.zeroCells Z (grownCap w (n + m) c TE - (n + m))) TE)).drew.setCells w.heap.size (i * M) vs).drew).setCells w.heap.size ((i + m) * M) (cs.drop (i * M))
/-- At the end: there is room. -/
def InsRoom (P : Program) (F M : Nat) : Prop := ∀ (b off n c vb voff m vc : Nat) (vs : List Value) (w : World), 0 < m → n + m ≤ c → n + m ≤ 9223372036854775807 → vs.length = m * M → (∀ j, j < m * M → (w.cell? ⟨b, off + n * M + j, none⟩).isSome = true) → (∀ j, j < m * M → w.frozen? ⟨b, off + n * M + j, none⟩ = false) →
  (∀ j v, vs[j]? = some v → w.cell? ⟨vb, voff + j, none⟩ = some v) → (∀ v ∈ vs, v.oneCell' = true) →
  Calls P F #[.slice (some ⟨b, off, none⟩) n c, .int .i64 n, .slice (some ⟨vb, voff, none⟩) m vc] w fun e w' => e = .returned (.slice (some ⟨b, off, none⟩) (n + m) c) ∧ w' = w.setCells b (off + n * M) vs
/-- There is none. -/
def InsEnd (P : Program) (F M BY TE : Nat) (Z : Array Value) : Prop := ∀ (base : Option Addr) (n c vb voff m vc : Nat) (cs vs : List Value) (w : World), 0 < m → n ≤ c → c < n + m → (n + m) * BY ≤ 140737488355328 → cs.length = n * M → vs.length = m * M → (base = none → n = 0) →
  (∀ a, base = some a → ∀ j v, cs[j]? = some v → w.cell? (a.add j) = some v) → (∀ j v, vs[j]? = some v → w.cell? ⟨vb, voff + j, none⟩ = some v) → (∀ v ∈ vs, v.oneCell' = true) →
  Calls P F #[.slice base n c, .int .i64 n, .slice (some ⟨vb, voff, none⟩) m vc] w fun e w' => e = .returned (.slice (some ⟨w.heap.size, 0, none⟩) (n + m) (grownCap w (n + m) c TE)) ∧
    w' = w.drew.alloc (.cells ((cs ++ vs).toArray ++ Builtin.zeroCells Z (grownCap w (n + m) c TE - (n + m))) TE)
structure InsRaw (P : Program) (F M BY TE : Nat) (Z : Array Value) : Prop where
  shift : InsShift P F M
  grow : InsGrow P F M BY TE Z
  room : InsRoom P F M
  fin : InsEnd P F M BY TE Z
  m : 0 < M
  z : Z.size = M
  bytes : 1 ≤ BY
def DelRaw (P : Program) (F M : Nat) (Z : Array Value) : Prop := ∀ (b off n c i j : Nat) (cs : List Value) (w : World), i < j → j ≤ n → n ≤ c → n ≤ 9223372036854775807 → cs.length = n * M → (∀ k v, cs[k]? = some v → w.cell? ⟨b, off + k, none⟩ = some v) →
  (∀ k, k < n * M → w.frozen? ⟨b, off + k, none⟩ = false) → (∀ v ∈ cs, v.oneCell' = true) →
  Calls P F #[.slice (some ⟨b, off, none⟩) n c, .int .i64 i, .int .i64 j] w fun e w' => e = .returned (.slice (some ⟨b, off, none⟩) (i + (n - j)) c) ∧ w' = ((w.drew).setCells b (off + i * M) (cs.drop (j * M))).setCells b (off + (i + (n - j)) * M) (Builtin.zeroCells Z (n - (i + (n - j)))).toList
/-! ### Cells of a block -/
theorem cell_at {w : World} {b : Nat} {cs : Array Value} {T : TypeId} {fr : Nat × Nat} (h : w.heap[b]? = some (.cells cs T fr)) (k : Nat) : w.cell? ⟨b, k, none⟩ = cs[k]? := by
  simp [World.cell?, h]
theorem frozen_at {w : World} {b : Nat} {cs : Array Value} {T : TypeId} {fr : Nat × Nat} (h : w.heap[b]? = some (.cells cs T fr)) (k : Nat) : w.frozen? ⟨b, k, none⟩ = decide (fr.1 ≤ k ∧ k < fr.2) := by
  simp [World.frozen?, h]
theorem frozen_le {w : World} {b : Nat} {cs : Array Value} {T : TypeId} {fr : Nat × Nat} (h : w.heap[b]? = some (.cells cs T fr)) (hfr : ∀ i, i ≤ cs.size → ¬ (fr.1 ≤ i ∧ i < fr.2)) (k : Nat) (hk : k ≤ cs.size) : w.frozen? ⟨b, k, none⟩ = false := by
  rw [frozen_at h]
  exact decide_eq_false (hfr k hk)
theorem shape_at {w : World} {b : Nat} {cs : Array Value} {T : TypeId} {fr : Nat × Nat} (h : w.heap[b]? = some (.cells cs T fr)) : w.shape? b = some (T, cs.size) := by
  simp [World.shape?, h]
/-- A list in its parts. -/
theorem parts3 {α : Type} (L : List α) (a b : Nat) : L = L.take a ++ ((L.drop a).take b ++ L.drop (a + b)) := by
  rw [← List.drop_drop, List.take_append_drop, List.take_append_drop]
theorem ins_moved {P : Program} {F M BY TE : Nat} {Z : Array Value} (hs : InsShift P F M) (hg : InsGrow P F M BY TE Z) (hM : 0 < M) (hZ : Z.size = M) (hBY : 1 ≤ BY) {w : World} {b off n c i vb voff vc : Nat} {A V : Array Value} {T Tv : TypeId} {fr frv : Nat × Nat}
    (hH : w.heap[b]? = some (.cells A T fr)) (hV : w.heap[vb]? = some (.cells V Tv frv)) (hvb : vb ≠ b) (hfA : ∀ i, i ≤ A.size → ¬ (fr.1 ≤ i ∧ i < fr.2)) (hfV : ∀ i, i ≤ V.size → ¬ (frv.1 ≤ i ∧ i < frv.2)) (hi : i < n) (hnc : n ≤ c)
    (hcA : off + c * M ≤ A.size) (hcV : voff + M ≤ V.size) (hlim : (n + 1) * BY ≤ 140737488355328) {cs vs : List Value} (hcs : cs = (A.toList.drop off).take (n * M)) (hvs : vs = (V.toList.drop voff).take M) (h1c : ∀ v ∈ cs, v.oneCell' = true) (h1v : ∀ v ∈ vs, v.oneCell' = true) :
    Calls P F #[.slice (some ⟨b, off, none⟩) n c, .int .i64 i, .slice (some ⟨vb, voff, none⟩) 1 vc] w fun e w' => ∃ v, e = .returned v ∧ Moved w w' b M (n + 1) A T (cs.take (i * M) ++ (vs ++ cs.drop (i * M))) v := by
  have hnM : n * M ≤ c * M := Nat.mul_le_mul_right M hnc
  have hiM : (i + 1) * M ≤ n * M := Nat.mul_le_mul_right M hi
  have hi1 : (i + 1) * M = i * M + M := Nat.succ_mul i M
  have hn1 : (n + 1) * M = n * M + M := Nat.succ_mul n M
  have hcl : cs.length = n * M := by rw [hcs, List.length_take, List.length_drop, Array.length_toList]; omega
  have hvl : vs.length = 1 * M := by rw [hvs, List.length_take, List.length_drop, Array.length_toList]; omega
  have hb : n + 1 ≤ (n + 1) * BY := Nat.le_mul_of_pos_right _ (by omega)
  have hca : ∀ j v, cs[j]? = some v → w.cell? ⟨b, off + j, none⟩ = some v := fun j v hj => by
    rw [cell_at hH, ← Array.getElem?_toList]
    rw [hcs, List.getElem?_take] at hj
    split at hj
    · rw [List.getElem?_drop] at hj; exact hj
    · cases hj
  have hva : ∀ j v, vs[j]? = some v → w.cell? ⟨vb, voff + j, none⟩ = some v := fun j v hj => by
    rw [cell_at hV, ← Array.getElem?_toList]
    rw [hvs, List.getElem?_take] at hj
    split at hj
    · rw [List.getElem?_drop] at hj; exact hj
    · cases hj
  obtain ⟨X, hX⟩ : ∃ X, X = cs.take (i * M) := ⟨_, rfl⟩
  obtain ⟨Y, hY⟩ : ∃ Y, Y = cs.drop (i * M) := ⟨_, rfl⟩
  have hXY : cs = X ++ Y := by rw [hX, hY, List.take_append_drop]
  have hXl : X.length = i * M := by rw [hX, List.length_take]; omega
  have hYl : Y.length = n * M - i * M := by rw [hY, List.length_drop]; omega
  by_cases hroom : n + 1 ≤ c
  · have hc1 : (n + 1) * M ≤ c * M := Nat.mul_le_mul_right M hroom
    refine (hs b off n c i vb voff 1 vc cs vs w hi (by omega) hroom (by omega) hvb hcl hvl hca (fun j hj => ?_) (fun j hj => frozen_le hH hfA _ (by omega)) hva h1c h1v Tv T V.size A.size (shape_at hV) (shape_at hH) (by omega) (frozen_le hV hfV _ (by omega)) (frozen_le hV hfV _ (Nat.le_refl _))).mono fun e w' ⟨he, hw⟩ => ?_
    · rw [cell_at hH, Array.getElem?_eq_getElem (by omega)]; rfl
    refine ⟨_, he, ?_⟩
    -- the parts of the block
    obtain ⟨Pf, hPf⟩ : ∃ Pf, Pf = A.toList.take off := ⟨_, rfl⟩
    obtain ⟨S, hS⟩ : ∃ S, S = (A.toList.drop (off + n * M)).take M := ⟨_, rfl⟩
    obtain ⟨R, hR⟩ : ∃ R, R = A.toList.drop (off + n * M + M) := ⟨_, rfl⟩
    have hPl : Pf.length = off := by rw [hPf, List.length_take, Array.length_toList]; omega
    have hSl : S.length = M := by rw [hS, List.length_take, List.length_drop, Array.length_toList]; omega
    have hA : A.toList = Pf ++ (X ++ (Y ++ (S ++ R))) := by
      have h1 := parts3 A.toList off (n * M)
      have h2 := parts3 (A.toList.drop (off + n * M)) 0 M
      rw [List.take_zero, List.nil_append, List.drop_zero, Nat.zero_add, List.drop_drop] at h2
      rw [← hcs, ← hPf, hXY, h2, ← hS, ← hR, List.append_assoc] at h1
      exact h1
    -- the first copy
    obtain ⟨Y1, hY1⟩ : ∃ Y1, Y1 = (Y ++ S).take M := ⟨_, rfl⟩
    obtain ⟨O, hO⟩ : ∃ O, O = (Y ++ S).drop M := ⟨_, rfl⟩
    have hYS : Y ++ S = Y1 ++ O := by rw [hY1, hO, List.take_append_drop]
    have hY1l : Y1.length = M := by rw [hY1, List.length_take, List.length_append]; omega
    have hOl : O.length = Y.length := by rw [hO, List.length_drop, List.length_append]; omega
    have hA1 : A.toList = (Pf ++ (X ++ Y1)) ++ (O ++ R) := by
      rw [hA, ← List.append_assoc Y S R, hYS]
      simp [List.append_assoc]
    have hH1 : w.drew.heap[b]? = some (.cells A T fr) := hH
    have c1 := setCells_parts hH1 (o := off + (i + 1) * M) (vs := cs.drop (i * M)) hA1 (by simp only [List.length_append]; omega) (by rw [← hY]; exact hOl.symm)
    obtain ⟨B, hB1, hB2⟩ := c1.at_
    rw [← hY] at hB2
    have hB3 : B.toList = (Pf ++ X) ++ (Y1 ++ (Y ++ R)) := by rw [hB2]; simp [List.append_assoc]
    have c2 := setCells_parts hB1 (o := off + i * M) (vs := vs) hB3 (by simp only [List.length_append]; omega) (by omega)
    have c3 := c1.trans c2
    rw [← hw] at c3
    obtain ⟨C, hC1, hC2⟩ := c3.at_
    have hCs : C.size = A.size := by
      have e1 := congrArg List.length hC2
      have e2 := congrArg List.length hA
      simp only [List.length_append, Array.length_toList] at e1 e2
      omega
    refine ⟨⟨b, off, c, C, T, fr, rfl, hC1, hroom, by omega, ⟨R, ?_⟩, by rw [hCs]; exact hfA, .inl ⟨rfl, hCs, rfl⟩, fun k hk hne => c3.oth k hne⟩, by rw [c3.size]; exact Nat.le_refl _, c3.os, c3.tape, c3.output⟩
    rw [hC2, List.append_assoc, List.drop_left' hPl, ← hX, ← hY]
    simp [List.append_assoc]
  · have hcn : c < n + 1 := by omega
    refine (hg b off n c i vb voff 1 vc cs vs w hi (by omega) hnc hcn hlim hcl hvl hca hva h1c h1v).mono fun e w' ⟨he, hw⟩ => ?_
    refine ⟨_, he, ?_⟩
    obtain ⟨G, hG⟩ : ∃ G, G = grownCap w (n + 1) c TE := ⟨_, rfl⟩
    have hGn : n + 1 ≤ G := by rw [hG]; exact grownCap_ge w _ _ _
    have hGM : (n + 1) * M ≤ G * M := Nat.mul_le_mul_right M hGn
    rw [← hG] at hw ⊢
    obtain ⟨Z1, hZ1⟩ : ∃ Z1, Z1 = (Builtin.zeroCells Z (n + 1 - i)).toList := ⟨_, rfl⟩
    obtain ⟨Z2, hZ2⟩ : ∃ Z2, Z2 = (Builtin.zeroCells Z (G - (n + 1))).toList := ⟨_, rfl⟩
    have hZ1l : Z1.length = n * M + M - i * M := by
      rw [hZ1, Array.length_toList, size_zeroCells, hZ, Nat.sub_mul, hn1]
    have hZ2l : Z2.length = G * M - (n * M + M) := by
      rw [hZ2, Array.length_toList, size_zeroCells, hZ, Nat.sub_mul, hn1]
    obtain ⟨ROW, hROW⟩ : ∃ ROW : Array Value, ROW = (cs.take (i * M)).toArray ++ Builtin.zeroCells Z (n + 1 - i) ++ Builtin.zeroCells Z (G - (n + 1)) := ⟨_, rfl⟩
    rw [← hROW] at hw
    have hRl : ROW.toList = X ++ (Z1 ++ Z2) := by
      rw [hROW, hX, hZ1, hZ2]
      simp [List.append_assoc]
    have hH1 : ((w.alloc (.cells ROW TE)).drew).heap[w.heap.size]? = some (.cells ROW TE (0, 0)) := by
      show (w.heap.push _)[w.heap.size]? = _
      rw [Array.getElem?_push, if_pos rfl]
    have hp1 : ROW.toList = X ++ (Z1.take M ++ (Z1.drop M ++ Z2)) := by rw [hRl, ← List.append_assoc (Z1.take M), List.take_append_drop]
    have c1 := setCells_parts hH1 (o := i * M) (vs := vs) hp1 hXl (by rw [List.length_take]; omega)
    obtain ⟨B, hB1, hB2⟩ := c1.at_
    have hB3 : B.toList = (X ++ vs) ++ (Z1.drop M ++ Z2) := by rw [hB2, List.append_assoc]
    have hH2 : (((w.alloc (.cells ROW TE)).drew.setCells w.heap.size (i * M) vs).drew).heap[w.heap.size]? = some (.cells B TE (0, 0)) := hB1
    have c2 := setCells_parts hH2 (o := (i + 1) * M) (vs := cs.drop (i * M)) hB3 (by rw [List.length_append]; omega) (by rw [← hY, List.length_drop]; omega)
    rw [← hw] at c2
    obtain ⟨C, hC1, hC2⟩ := c2.at_
    have hCs : C.size = G * M := by
      have e1 := congrArg List.length hC2
      simp only [List.length_append, Array.length_toList, ← hY] at e1
      omega
    have hwsz : w'.heap.size = w.heap.size + 1 := by
      rw [c2.size]
      show ((w.alloc (.cells ROW TE)).drew.setCells w.heap.size (i * M) vs).heap.size = _
      rw [c1.size]
      show (w.heap.push _).size = _
      rw [Array.size_push]
    refine ⟨⟨w.heap.size, 0, G, C, TE, (0, 0), rfl, hC1, hGn, by omega, ⟨Z2, ?_⟩, fun k _ h => by omega, .inr ⟨Nat.le_refl _, by omega⟩, fun k hk hne => ?_⟩, by omega, c2.os.trans c1.os, c2.tape.trans c1.tape, c2.output.trans c1.output⟩
    · rw [List.drop_zero, hC2, ← hX, ← hY]
      simp [List.append_assoc]
    · rw [c2.oth k hne]
      show ((w.alloc (.cells ROW TE)).drew.setCells w.heap.size (i * M) vs).heap[k]? = _
      rw [c1.oth k hne]
      show (w.heap.push _)[k]? = _
      rw [Array.getElem?_push, if_neg (by omega)]
theorem alloc_moved {w : World} {b M n G : Nat} {cs A : Array Value} {TE : TypeId} {T : TypeId} {zs rest : List Value} (hA : A.toList = zs ++ rest) (hs : A.size = G * M) (hG : n ≤ G) : Moved w (w.drew.alloc (.cells A TE)) b M n cs T zs (.slice (some ⟨w.heap.size, 0, none⟩) n G) := by
  have hsz : (w.drew.alloc (.cells A TE)).heap.size = w.heap.size + 1 := by
    show (w.heap.push _).size = _
    rw [Array.size_push]
  have hat : (w.drew.alloc (.cells A TE)).heap[w.heap.size]? = some (.cells A TE (0, 0)) := by
    show (w.heap.push _)[w.heap.size]? = _
    rw [Array.getElem?_push, if_pos rfl]
  refine ⟨⟨w.heap.size, 0, G, A, TE, (0, 0), rfl, hat, hG, by omega, ⟨rest, by rw [List.drop_zero]; exact hA⟩, fun k _ h => by omega, .inr ⟨Nat.le_refl _, by omega⟩, fun k hk hne => ?_⟩, by omega, rfl, rfl, rfl⟩
  show (w.heap.push _)[k]? = _
  rw [Array.getElem?_push, if_neg (by omega)]
theorem fin_moved {P : Program} {F M BY TE : Nat} {Z : Array Value} (hr : InsRaw P F M BY TE Z) {w : World} {b off n c vb voff vc : Nat} {A V : Array Value} {T Tv : TypeId} {fr frv : Nat × Nat}
    (hH : w.heap[b]? = some (.cells A T fr)) (hV : w.heap[vb]? = some (.cells V Tv frv)) (hfA : ∀ i, i ≤ A.size → ¬ (fr.1 ≤ i ∧ i < fr.2)) (hnc : n ≤ c)
    (hcA : off + c * M ≤ A.size) (hcV : voff + M ≤ V.size) (hlim : (n + 1) * BY ≤ 140737488355328) {cs vs : List Value} (hcs : cs = (A.toList.drop off).take (n * M)) (hvs : vs = (V.toList.drop voff).take M) (h1v : ∀ v ∈ vs, v.oneCell' = true) :
    Calls P F #[.slice (some ⟨b, off, none⟩) n c, .int .i64 n, .slice (some ⟨vb, voff, none⟩) 1 vc] w fun e w' => ∃ v, e = .returned v ∧ Moved w w' b M (n + 1) A T (cs ++ vs) v := by
  obtain ⟨_, _, hroomR, hend, hM, hZ, hBY⟩ := hr
  have hnM : n * M ≤ c * M := Nat.mul_le_mul_right M hnc
  have hn1 : (n + 1) * M = n * M + M := Nat.succ_mul n M
  have lA : A.toList.length = A.size := Array.length_toList
  have lV : V.toList.length = V.size := Array.length_toList
  have hcl : cs.length = n * M := by rw [hcs, List.length_take, List.length_drop, lA]; omega
  have hvl : vs.length = 1 * M := by rw [hvs, List.length_take, List.length_drop, lV]; omega
  have hb : n + 1 ≤ (n + 1) * BY := Nat.le_mul_of_pos_right _ (by omega)
  have hca : ∀ j v, cs[j]? = some v → w.cell? ⟨b, off + j, none⟩ = some v := fun j v hj => by
    rw [cell_at hH, ← Array.getElem?_toList]
    rw [hcs, List.getElem?_take] at hj
    split at hj
    · rw [List.getElem?_drop] at hj; exact hj
    · cases hj
  have hva : ∀ j v, vs[j]? = some v → w.cell? ⟨vb, voff + j, none⟩ = some v := fun j v hj => by
    rw [cell_at hV, ← Array.getElem?_toList]
    rw [hvs, List.getElem?_take] at hj
    split at hj
    · rw [List.getElem?_drop] at hj; exact hj
    · cases hj
  by_cases hroom : n + 1 ≤ c
  · have hc1 : (n + 1) * M ≤ c * M := Nat.mul_le_mul_right M hroom
    refine (hroomR b off n c vb voff 1 vc vs w (by omega) hroom (by omega) hvl (fun j hj => ?_) (fun j hj => frozen_le hH hfA _ (by omega)) hva h1v).mono fun e w' ⟨he, hw⟩ => ?_
    · rw [cell_at hH, Array.getElem?_eq_getElem (by omega)]; rfl
    refine ⟨_, he, ?_⟩
    obtain ⟨Pf, hPf⟩ : ∃ Pf, Pf = A.toList.take off := ⟨_, rfl⟩
    obtain ⟨S, hS⟩ : ∃ S, S = (A.toList.drop (off + n * M)).take M := ⟨_, rfl⟩
    obtain ⟨R, hR⟩ : ∃ R, R = A.toList.drop (off + n * M + M) := ⟨_, rfl⟩
    have hPl : Pf.length = off := by rw [hPf, List.length_take, lA]; omega
    have hSl : S.length = M := by rw [hS, List.length_take, List.length_drop, lA]; omega
    have hA : A.toList = (Pf ++ cs) ++ (S ++ R) := by
      have h1 := parts3 A.toList off (n * M)
      have h2 := parts3 (A.toList.drop (off + n * M)) 0 M
      rw [List.take_zero, List.nil_append, List.drop_zero, Nat.zero_add, List.drop_drop] at h2
      rw [← hcs, ← hPf, h2, ← hS, ← hR, ← List.append_assoc] at h1
      exact h1
    have c1 := setCells_parts hH (o := off + n * M) (vs := vs) hA (by rw [List.length_append]; omega) (by omega)
    rw [← hw] at c1
    obtain ⟨C, hC1, hC2⟩ := c1.at_
    have hCs : C.size = A.size := by
      have q1 := congrArg List.length hC2
      have q2 := congrArg List.length hA
      simp only [List.length_append, Array.length_toList] at q1 q2
      omega
    refine ⟨⟨b, off, c, C, T, fr, rfl, hC1, hroom, by omega, ⟨R, ?_⟩, by rw [hCs]; exact hfA, .inl ⟨rfl, hCs, rfl⟩, fun k hk hne => c1.oth k hne⟩, by rw [c1.size]; exact Nat.le_refl _, c1.os, c1.tape, c1.output⟩
    rw [hC2, List.append_assoc, List.drop_left' hPl, List.append_assoc]
  · refine (hend (some ⟨b, off, none⟩) n c vb voff 1 vc cs vs w (by omega) hnc (by omega) hlim hcl hvl (fun h => by cases h) (fun a ha j v hj => by cases ha; rw [Addr.add_lit]; exact hca j v hj) hva h1v).mono fun e w' ⟨he, hw⟩ => ?_
    refine ⟨_, he, ?_⟩
    have hGn : n + 1 ≤ grownCap w (n + 1) c TE := grownCap_ge w _ _ _
    rw [hw]
    refine alloc_moved (rest := (Builtin.zeroCells Z (grownCap w (n + 1) c TE - (n + 1))).toList) (by simp) ?_ hGn
    have hGM : (n + 1) * M ≤ grownCap w (n + 1) c TE * M := Nat.mul_le_mul_right M hGn
    simp only [Array.size_append, List.size_toArray, List.length_append, size_zeroCells, hZ, hcl, hvl, Nat.sub_mul]
    omega
theorem del_moved {P : Program} {F M : Nat} {Z : Array Value} (hd : DelRaw P F M Z) (hM : 0 < M) (hZ : Z.size = M) {w : World} {b off n c i j : Nat} {A : Array Value} {T : TypeId} {fr : Nat × Nat}
    (hH : w.heap[b]? = some (.cells A T fr)) (hfA : ∀ i, i ≤ A.size → ¬ (fr.1 ≤ i ∧ i < fr.2)) (hi : i < j) (hj : j ≤ n) (hnc : n ≤ c) (h63 : n ≤ 9223372036854775807)
    (hcA : off + c * M ≤ A.size) {cs : List Value} (hcs : cs = (A.toList.drop off).take (n * M)) (h1c : ∀ v ∈ cs, v.oneCell' = true) :
    Calls P F #[.slice (some ⟨b, off, none⟩) n c, .int .i64 i, .int .i64 j] w fun e w' => ∃ v, e = .returned v ∧ Moved w w' b M (i + (n - j)) A T (cs.take (i * M) ++ cs.drop (j * M)) v := by
  have hnM : n * M ≤ c * M := Nat.mul_le_mul_right M hnc
  have hjM : j * M ≤ n * M := Nat.mul_le_mul_right M hj
  have hiM : i * M ≤ j * M := Nat.mul_le_mul_right M (Nat.le_of_lt hi)
  have hcl : cs.length = n * M := by rw [hcs, List.length_take, List.length_drop, Array.length_toList]; omega
  have hca : ∀ j v, cs[j]? = some v → w.cell? ⟨b, off + j, none⟩ = some v := fun j v hj => by
    rw [cell_at hH, ← Array.getElem?_toList]
    rw [hcs, List.getElem?_take] at hj
    split at hj
    · rw [List.getElem?_drop] at hj; exact hj
    · cases hj
  have e1 : (i + (n - j)) * M = i * M + (n * M - j * M) := by rw [Nat.add_mul, Nat.sub_mul]
  have e2 : (n - (i + (n - j))) * M = j * M - i * M := by rw [Nat.sub_mul, e1]; omega
  obtain ⟨X, hX⟩ : ∃ X, X = cs.take (i * M) := ⟨_, rfl⟩
  obtain ⟨D, hD⟩ : ∃ D, D = cs.drop (i * M) := ⟨_, rfl⟩
  obtain ⟨Y, hY⟩ : ∃ Y, Y = cs.drop (j * M) := ⟨_, rfl⟩
  have hXD : cs = X ++ D := by rw [hX, hD, List.take_append_drop]
  have hXl : X.length = i * M := by rw [hX, List.length_take]; omega
  have hDl : D.length = n * M - i * M := by rw [hD, List.length_drop]; omega
  have hYl : Y.length = n * M - j * M := by rw [hY, List.length_drop]; omega
  refine (hd b off n c i j cs w hi hj hnc h63 hcl hca (fun k hk => frozen_le hH hfA _ (by omega)) h1c).mono fun e w' ⟨he, hw⟩ => ?_
  refine ⟨_, he, ?_⟩
  obtain ⟨Pf, hPf⟩ : ∃ Pf, Pf = A.toList.take off := ⟨_, rfl⟩
  obtain ⟨R, hR⟩ : ∃ R, R = A.toList.drop (off + n * M) := ⟨_, rfl⟩
  have hPl : Pf.length = off := by rw [hPf, List.length_take, Array.length_toList]; omega
  have hA : A.toList = (Pf ++ X) ++ (D ++ R) := by
    have h1 := parts3 A.toList off (n * M)
    rw [← hcs, ← hPf, hXD, ← hR] at h1
    simpa [List.append_assoc] using h1
  obtain ⟨O1, hO1⟩ : ∃ O1, O1 = D.take (n * M - j * M) := ⟨_, rfl⟩
  obtain ⟨O2, hO2⟩ : ∃ O2, O2 = D.drop (n * M - j * M) := ⟨_, rfl⟩
  have hDO : D = O1 ++ O2 := by rw [hO1, hO2, List.take_append_drop]
  have hO1l : O1.length = n * M - j * M := by rw [hO1, List.length_take]; omega
  have hO2l : O2.length = j * M - i * M := by rw [hO2, List.length_drop]; omega
  have hA : A.toList = (Pf ++ X) ++ (O1 ++ (O2 ++ R)) := by rw [hA, hDO]; simp [List.append_assoc]
  have hH1 : w.drew.heap[b]? = some (.cells A T fr) := hH
  have c1 := setCells_parts hH1 (o := off + i * M) (vs := cs.drop (j * M)) hA (by rw [List.length_append]; omega) (by rw [← hY]; omega)
  obtain ⟨B, hB1, hB2⟩ := c1.at_
  rw [← hY] at hB2
  have hB3 : B.toList = (Pf ++ (X ++ Y)) ++ (O2 ++ R) := by rw [hB2]; simp [List.append_assoc]
  have c2 := setCells_parts hB1 (o := off + (i + (n - j)) * M) (vs := (Builtin.zeroCells Z (n - (i + (n - j)))).toList) hB3 (by rw [e1]; simp only [List.length_append]; omega) (by rw [Array.length_toList, size_zeroCells, hZ, e2, hO2l])
  have c3 := c1.trans c2
  rw [← hw] at c3
  obtain ⟨C, hC1, hC2⟩ := c3.at_
  have hCs : C.size = A.size := by
    have q1 := congrArg List.length hC2
    have q2 := congrArg List.length hA
    simp only [List.length_append, Array.length_toList, size_zeroCells, hZ, e2] at q1 q2
    omega
  refine ⟨⟨b, off, c, C, T, fr, rfl, hC1, by omega, by omega, ⟨(Builtin.zeroCells Z (n - (i + (n - j)))).toList ++ R, ?_⟩, by rw [hCs]; exact hfA, .inl ⟨rfl, hCs, rfl⟩, fun k hk hne => c3.oth k hne⟩, by rw [c3.size]; exact Nat.le_refl _, c3.os, c3.tape, c3.output⟩
  rw [hC2, List.append_assoc, List.drop_left' hPl, ← hX, ← hY]
  try simp [List.append_assoc]
/-! ### Contracts -/
theorem RepR.part {g : Gh} {H : Array Go.Obj} {xs : List Value} {m : Nat} {rows : List (List SV)} (h : RepR g H xs m rows) (hl : xs.length = rows.length * m) (i : Nat) (hi : i ≤ rows.length) :
    RepR g H (xs.take (i * m)) m (rows.take i) ∧ (xs.take (i * m)).length = (rows.take i).length * m ∧ RepR g H (xs.drop (i * m)) m (rows.drop i) := by
  have hm : i * m ≤ rows.length * m := Nat.mul_le_mul_right m hi
  refine ⟨(h.take i).left _ (by rw [List.length_take, Nat.min_eq_left hi]; exact Nat.le_refl _), by rw [List.length_take, List.length_take, Nat.min_eq_left hi]; omega, h.drop i hi⟩
theorem ins_hcall {P : Program} {F M BY TE : Nat} {Z : Array Value} (hs : InsShift P F M) (hg : InsGrow P F M BY TE Z) (hM : 0 < M) (hZ : Z.size = M) (hBY : 1 ≤ BY) {rows : List (List SV)} {y : List SV} {i : Nat} (hi : i < rows.length) (hlim : (rows.length + 1) * BY ≤ 140737488355328)
    (h1 : (rows.all fun r => r.all SV.one) = true) (h2 : y.all SV.one = true) :
    HCall P F [⟨M, rows, false⟩, ⟨M, [y], false⟩] [.own 0 0 rows.length, .v (.int .i64 i), .own 1 0 1] [.dead, .ob ⟨M, [y], false⟩, .ob ⟨M, rows.take i ++ ([y] ++ rows.drop i), false⟩] (.own 2 0 (rows.length + 1)) := by
  intro g w vs hp hrep
  cases hrep with
  | cons r0 t0 => cases t0 with
    | cons r1 t1 => cases t1 with
      | cons r2 t2 =>
        cases t2
        obtain rfl := rep_v r1
        obtain ⟨⟨b, A, T, fr, k1, k2, k3, k4, k5, k6⟩, _⟩ := hp.ob 0 _ rfl
        obtain ⟨⟨vb, V, Tv, frv, q1, q2, q3, q4, q5, q6⟩, _⟩ := hp.ob 1 _ rfl
        cases r0 with
        | @own _ _ _ c b' A' T' fr' hb hnc hH hcA =>
          rw [k1] at hb
          obtain rfl := Option.some.inj hb
          obtain ⟨hmm, k2⟩ := k2.cells hH
          rw [k2] at hH
          obtain ⟨rfl, rfl, rfl⟩ := Go.Obj.cells.inj (Option.some.inj hH)
          cases r2 with
          | @own _ _ _ vc vb' V' Tv' frv' hvb hvc hV hcV =>
            rw [q1] at hvb
            obtain rfl := Option.some.inj hvb
            obtain ⟨hmv, q2⟩ := q2.cells hV
            rw [q2] at hV
            obtain ⟨rfl, rfl, rfl⟩ := Go.Obj.cells.inj (Option.some.inj hV)
            have hne : vb ≠ b := fun e => by
              have := hp.inj 0 1 ⟨M, rows, false⟩ ⟨M, [y], false⟩ b rfl rfl rfl rfl k1 (by rw [q1, e])
              cases this
            have hmm : g.mm 0 = M := hmm
            have hmv : g.mm 1 = M := hmv
            rw [hmm, Nat.zero_add] at hcA
            rw [hmv, Nat.zero_add] at hcV
            have hv1 : 1 * M ≤ vc * M := Nat.mul_le_mul_right M hvc
            have hn1 : rows.length * M ≤ c * M := Nat.mul_le_mul_right M hnc
            have k3 : RepR g w.heap (A.toList.drop (g.o0 0)) M rows := k3
            have q3 : RepR g w.heap (V.toList.drop (g.o0 1)) M [y] := q3
            have rc := k3.left (rows.length * M) (Nat.le_refl _)
            have rv := q3.left M (by rw [List.length_singleton, Nat.one_mul]; exact Nat.le_refl _)
            have lA : A.toList.length = A.size := Array.length_toList
            have lc : ((A.toList.drop (g.o0 0)).take (rows.length * M)).length = rows.length * M := by rw [List.length_take, List.length_drop, lA]; omega
            have lV : V.toList.length = V.size := Array.length_toList
            have lv : ((V.toList.drop (g.o0 1)).take M).length = [y].length * M := by rw [List.length_take, List.length_drop, lV, List.length_singleton]; omega
            have hmv := ins_moved hs hg hM hZ hBY (i := i) (vc := vc) k2 q2 hne k4 q4 hi hnc hcA (by omega) hlim rfl rfl (rc.one_all lc h1) (rv.one_all lv (by rw [List.all_cons, h2]; rfl))
            rw [Nat.zero_mul, Nat.add_zero, Nat.zero_mul, Nat.add_zero]
            refine hmv.mono fun e w' ⟨v, he, hm⟩ => ?_
            obtain ⟨p1, p2, p3⟩ := rc.part lc i (Nat.le_of_lt hi)
            obtain ⟨g', hr', hpost⟩ := hm.post hp (i0 := 0) (o := ⟨M, rows, false⟩) rfl rfl k1 k2 (rows := rows.take i ++ ([y] ++ rows.drop i)) (p1.app p2 (rv.app lv p3))
            exact ⟨v, g', he, hr', hpost⟩
theorem fin_hcall {P : Program} {F M BY TE : Nat} {Z : Array Value} (hr : InsRaw P F M BY TE Z) {rows : List (List SV)} {y : List SV} (hlim : (rows.length + 1) * BY ≤ 140737488355328) (h2 : y.all SV.one = true) :
    HCall P F [⟨M, rows, false⟩, ⟨M, [y], false⟩] [.own 0 0 rows.length, .v (.int .i64 rows.length), .own 1 0 1] [.dead, .ob ⟨M, [y], false⟩, .ob ⟨M, rows ++ [y], false⟩] (.own 2 0 (rows.length + 1)) := by
  intro g w vs hp hrep
  cases hrep with
  | cons r0 t0 => cases t0 with
    | cons r1 t1 => cases t1 with
      | cons r2 t2 =>
        cases t2
        obtain rfl := rep_v r1
        obtain ⟨⟨b, A, T, fr, k1, k2, k3, k4, k5, k6⟩, _⟩ := hp.ob 0 _ rfl
        obtain ⟨⟨vb, V, Tv, frv, q1, q2, q3, q4, q5, q6⟩, _⟩ := hp.ob 1 _ rfl
        cases r0 with
        | @own _ _ _ c b' A' T' fr' hb hnc hH hcA =>
          rw [k1] at hb
          obtain rfl := Option.some.inj hb
          obtain ⟨hmm, k2⟩ := k2.cells hH
          rw [k2] at hH
          obtain ⟨rfl, rfl, rfl⟩ := Go.Obj.cells.inj (Option.some.inj hH)
          cases r2 with
          | @own _ _ _ vc vb' V' Tv' frv' hvb hvc hV hcV =>
            rw [q1] at hvb
            obtain rfl := Option.some.inj hvb
            obtain ⟨hmv, q2⟩ := q2.cells hV
            rw [q2] at hV
            obtain ⟨rfl, rfl, rfl⟩ := Go.Obj.cells.inj (Option.some.inj hV)
            have hmm : g.mm 0 = M := hmm
            have hmv : g.mm 1 = M := hmv
            rw [hmm, Nat.zero_add] at hcA
            rw [hmv, Nat.zero_add] at hcV
            have hv1 : 1 * M ≤ vc * M := Nat.mul_le_mul_right M hvc
            have hn1 : rows.length * M ≤ c * M := Nat.mul_le_mul_right M hnc
            have k3 : RepR g w.heap (A.toList.drop (g.o0 0)) M rows := k3
            have q3 : RepR g w.heap (V.toList.drop (g.o0 1)) M [y] := q3
            have rc := k3.left (rows.length * M) (Nat.le_refl _)
            have rv := q3.left M (by rw [List.length_singleton, Nat.one_mul]; exact Nat.le_refl _)
            have lA : A.toList.length = A.size := Array.length_toList
            have lV : V.toList.length = V.size := Array.length_toList
            have lc : ((A.toList.drop (g.o0 0)).take (rows.length * M)).length = rows.length * M := by rw [List.length_take, List.length_drop, lA]; omega
            have lv : ((V.toList.drop (g.o0 1)).take M).length = [y].length * M := by rw [List.length_take, List.length_drop, lV, List.length_singleton]; omega
            have hmv := fin_moved hr (vc := vc) k2 q2 k4 hnc hcA (by omega) hlim rfl rfl (rv.one_all lv (by rw [List.all_cons, h2]; rfl))
            rw [Nat.zero_mul, Nat.add_zero, Nat.zero_mul, Nat.add_zero]
            refine hmv.mono fun e w' ⟨v, he, hm⟩ => ?_
            obtain ⟨g', hr', hpost⟩ := hm.post hp (i0 := 0) (o := ⟨M, rows, false⟩) rfl rfl k1 k2 (rows := rows ++ [y]) (rc.app lc rv)
            exact ⟨v, g', he, hr', hpost⟩
theorem nil_hcall {P : Program} {F M BY TE : Nat} {Z : Array Value} (hr : InsRaw P F M BY TE Z) {y : List SV} (hlim : BY ≤ 140737488355328) (h2 : y.all SV.one = true) :
    HCall P F [⟨M, [y], false⟩] [.v (.slice none 0 0), .v (.int .i64 0), .own 0 0 1] [.dead, .ob ⟨M, [y], false⟩] (.own 1 0 1) := by
  intro g w vs hp hrep
  cases hrep with
  | cons r0 t0 => cases t0 with
    | cons r1 t1 => cases t1 with
      | cons r2 t2 =>
        cases t2
        obtain rfl := rep_v r0
        obtain rfl := rep_v r1
        obtain ⟨⟨vb, V, Tv, frv, q1, q2, q3, q4, q5, q6⟩, _⟩ := hp.ob 0 _ rfl
        cases r2 with
        | @own _ _ _ vc vb' V' Tv' frv' hvb hvc hV hcV =>
          rw [q1] at hvb
          obtain rfl := Option.some.inj hvb
          obtain ⟨hmv, q2⟩ := q2.cells hV
          rw [q2] at hV
          obtain ⟨rfl, rfl, rfl⟩ := Go.Obj.cells.inj (Option.some.inj hV)
          have hmv : g.mm 0 = M := hmv
          rw [hmv, Nat.zero_add] at hcV
          have hv1 : 1 * M ≤ vc * M := Nat.mul_le_mul_right M hvc
          have q3 : RepR g w.heap (V.toList.drop (g.o0 0)) M [y] := q3
          have rv := q3.left M (by rw [List.length_singleton, Nat.one_mul]; exact Nat.le_refl _)
          have lV : V.toList.length = V.size := Array.length_toList
          have lv : ((V.toList.drop (g.o0 0)).take M).length = [y].length * M := by rw [List.length_take, List.length_drop, lV, List.length_singleton]; omega
          have hva : ∀ j v, ((V.toList.drop (g.o0 0)).take M)[j]? = some v → w.cell? ⟨vb, g.o0 0 + j, none⟩ = some v := fun j v hj => by
            rw [cell_at q2, ← Array.getElem?_toList]
            rw [List.getElem?_take] at hj
            split at hj
            · rw [List.getElem?_drop] at hj; exact hj
            · cases hj
          obtain ⟨_, _, _, hend, hM, hZ, hBY⟩ := hr
          have hmv := hend none 0 0 vb (g.o0 0) 1 vc [] ((V.toList.drop (g.o0 0)).take M) w (by omega) (Nat.le_refl _) (by omega) (by omega) (by simp) (by rw [lv, List.length_singleton]) (fun _ => rfl) (fun a h => by cases h) hva (rv.one_all lv (by rw [List.all_cons, h2]; rfl))
          rw [Nat.zero_mul, Nat.add_zero]
          refine hmv.mono fun e w' ⟨he, hw⟩ => ?_
          have hGn : 0 + 1 ≤ grownCap w (0 + 1) 0 TE := grownCap_ge w _ _ _
          have hGM : (0 + 1) * M ≤ grownCap w (0 + 1) 0 TE * M := Nat.mul_le_mul_right M hGn
          have hm : Moved w w' vb M 1 V Tv ((V.toList.drop (g.o0 0)).take M) (.slice (some ⟨w.heap.size, 0, none⟩) 1 (grownCap w (0 + 1) 0 TE)) := by
            rw [hw]
            refine alloc_moved (rest := (Builtin.zeroCells Z (grownCap w (0 + 1) 0 TE - (0 + 1))).toList) (by simp) ?_ hGn
            simp only [Array.size_append, List.size_toArray, List.nil_append, size_zeroCells, hZ, lv, List.length_singleton, Nat.sub_mul]
            omega
          obtain ⟨g', hr', hpost⟩ := hm.post hp (i0 := 0) (o := ⟨M, [y], false⟩) rfl rfl q1 q2 (rows := [y]) rv
          exact ⟨_, g', he, hr', hpost⟩
theorem del_hcall {P : Program} {F M : Nat} {Z : Array Value} (hd : DelRaw P F M Z) (hM : 0 < M) (hZ : Z.size = M) {rows : List (List SV)} {i j : Nat} (hi : i < j) (hj : j ≤ rows.length) (h63 : rows.length ≤ 9223372036854775807) (h1 : (rows.all fun r => r.all SV.one) = true) :
    HCall P F [⟨M, rows, false⟩] [.own 0 0 rows.length, .v (.int .i64 i), .v (.int .i64 j)] [.dead, .ob ⟨M, rows.take i ++ rows.drop j, false⟩] (.own 1 0 (i + (rows.length - j))) := by
  intro g w vs hp hrep
  cases hrep with
  | cons r0 t0 => cases t0 with
    | cons r1 t1 => cases t1 with
      | cons r2 t2 =>
        cases t2
        obtain rfl := rep_v r1
        obtain rfl := rep_v r2
        obtain ⟨⟨b, A, T, fr, k1, k2, k3, k4, k5, k6⟩, _⟩ := hp.ob 0 _ rfl
        cases r0 with
        | @own _ _ _ c b' A' T' fr' hb hnc hH hcA =>
          rw [k1] at hb
          obtain rfl := Option.some.inj hb
          obtain ⟨hmm, k2⟩ := k2.cells hH
          rw [k2] at hH
          obtain ⟨rfl, rfl, rfl⟩ := Go.Obj.cells.inj (Option.some.inj hH)
          have hmm : g.mm 0 = M := hmm
          rw [hmm, Nat.zero_add] at hcA
          have hn1 : rows.length * M ≤ c * M := Nat.mul_le_mul_right M hnc
          have k3 : RepR g w.heap (A.toList.drop (g.o0 0)) M rows := k3
          have rc := k3.left (rows.length * M) (Nat.le_refl _)
          have lA : A.toList.length = A.size := Array.length_toList
          have lc : ((A.toList.drop (g.o0 0)).take (rows.length * M)).length = rows.length * M := by rw [List.length_take, List.length_drop, lA]; omega
          have hmv := del_moved hd hM hZ (i := i) (j := j) k2 k4 hi hj hnc h63 hcA rfl (rc.one_all lc h1)
          rw [Nat.zero_mul, Nat.add_zero]
          refine hmv.mono fun e w' ⟨v, he, hm⟩ => ?_
          obtain ⟨p1, p2, p3⟩ := rc.part lc i (by omega)
          obtain ⟨_, _, p4⟩ := rc.part lc j hj
          obtain ⟨g', hr', hpost⟩ := hm.post hp (i0 := 0) (o := ⟨M, rows, false⟩) rfl rfl k1 k2 (rows := rows.take i ++ rows.drop j) (p1.app p2 p4)
          exact ⟨v, g', he, hr', hpost⟩
section
variable {P : Program} {U : Univ}
/-- A contract by two. -/
theorem SpecOk.or {fid : FuncId} {A : Type} {d : List (TO U) → List (TV U) → Option A} {p q : A → Prop} [DecidablePred p] [DecidablePred q] [DecidablePred fun x => p x ∨ q x] {o : A → List (TO U)} {v : A → TV U} (h1 : SpecOk P fid (Spc.of d p o v)) (h2 : SpecOk P fid (Spc.of d q o v)) : SpecOk P fid (Spc.of d (fun x => p x ∨ q x) o v) := by
  refine ⟨h1.fn, Spc.of_path, fun objs args objs' res hs => ?_⟩
  obtain ⟨x, hx, hp, he⟩ := Spc.of_some hs
  cases he
  rcases hp with hp | hp
  · refine h1.ok objs args (o x) (v x) ?_
    unfold Spc.of
    dsimp only
    rw [hx]
    dsimp only
    rw [if_pos hp]
  · refine h2.ok objs args (o x) (v x) ?_
    unfold Spc.of
    dsimp only
    rw [hx]
    dsimp only
    rw [if_pos hp]
/-- With less asked. -/
theorem SpecOk.imp {fid : FuncId} {A : Type} {d : List (TO U) → List (TV U) → Option A} {p q : A → Prop} [DecidablePred p] [DecidablePred q] {o : A → List (TO U)} {v : A → TV U} (h : SpecOk P fid (Spc.of d p o v)) (hq : ∀ objs args x, d objs args = some x → q x → p x) : SpecOk P fid (Spc.of d q o v) := by
  refine ⟨h.fn, Spc.of_path, fun objs args objs' res hs => ?_⟩
  obtain ⟨x, hx, hp, he⟩ := Spc.of_some hs
  cases he
  refine h.ok objs args (o x) (v x) ?_
  unfold Spc.of
  dsimp only
  rw [hx]
  dsimp only
  rw [if_pos (hq _ _ _ hx hp)]
def PreIns (n m BY : Nat) (i : Int) : Prop := 0 ≤ i ∧ i ≤ (n : Int) ∧ m = 1 ∧ (n + 1) * BY ≤ 140737488355328
noncomputable instance (n m BY : Nat) (i : Int) : Decidable (PreIns n m BY i) := Classical.propDecidable _
theorem SpecOk.ins {F M BY TE : Nat} {Z : Array Value} (hr : InsRaw P F M BY TE Z) {c : U.C} (hsz : U.sz c = M) (hone : ∀ x, (U.encS c x).all SV.one = true)
    (hfn : ∃ fn, P.funcs[F]? = some fn ∧ (fn.name == "runtime.NumGoroutine") = false ∧ fn.body.isSome = true) {d : List (TO U) → List (TV U) → Option (List (U.T c) × List (U.T c) × Int)}
    (hd : ∀ {objs args xs ys i}, d objs args = some (xs, ys, i) → objs = [.row c xs false, .row c ys false] ∧ args = [.full 0, .v (.int .i64 i), .full 1]) :
    SpecOk P F (.of d (fun (xs, ys, i) => PreIns xs.length ys.length BY i) (fun (xs, ys, i) => [.dead xs.length, .row c ys false, .row c (xs.take i.toNat ++ (ys ++ xs.drop i.toNat)) false]) fun _ => .full 2) := by
  refine ⟨hfn, Spc.of_path, fun objs args objs' res hh _ _ _ => ?_⟩
  obtain ⟨⟨xs, ys, i⟩, hx, ⟨h0, h1, h2, h3⟩, he⟩ := Spc.of_some hh
  cases he
  obtain ⟨rfl, rfl⟩ := hd hx
  obtain ⟨y, rfl⟩ : ∃ y, ys = [y] := List.length_eq_one_iff.1 h2
  have ho : ((xs.map (U.encS c)).all fun r => r.all SV.one) = true := by
    rw [List.all_map]
    exact List.all_eq_true.2 fun x _ => hone x
  have hl : (xs.map (U.encS c)).length = xs.length := List.length_map _
  have hlen : xs.length + 1 = (xs.take i.toNat ++ ([y] ++ xs.drop i.toNat)).length := by
    simp only [List.length_append, List.length_take, List.length_drop, List.length_singleton]
    omega
  have hc : HCall P F [⟨M, xs.map (U.encS c), false⟩, ⟨M, [U.encS c y], false⟩] [.own 0 0 xs.length, .v (.int .i64 i), .own 1 0 1] [.dead, .ob ⟨M, [U.encS c y], false⟩, .ob ⟨M, (xs.take i.toNat ++ ([y] ++ xs.drop i.toNat)).map (U.encS c), false⟩] (.own 2 0 (xs.length + 1)) := by
    have e : (xs.map (U.encS c)).take i.toNat ++ ([U.encS c y] ++ (xs.map (U.encS c)).drop i.toNat) = (xs.take i.toNat ++ ([y] ++ xs.drop i.toNat)).map (U.encS c) := by
      simp only [List.map_append, List.map_take, List.map_drop, List.map_cons, List.map_nil]
    by_cases hi : i < (xs.length : Int)
    · have hc := ins_hcall hr.shift hr.grow hr.m hr.z hr.bytes (rows := xs.map (U.encS c)) (y := U.encS c y) (i := i.toNat) (by rw [hl]; omega) (by rw [hl]; exact h3) ho (hone y)
      rw [hl, Int.toNat_of_nonneg h0, e] at hc
      exact hc
    · obtain rfl : i = (xs.length : Int) := by omega
      have hc := fin_hcall hr (rows := xs.map (U.encS c)) (y := U.encS c y) (by rw [hl]; exact h3) (hone y)
      rw [Int.toNat_natCast, List.take_of_length_le (by rw [hl]; exact Nat.le_refl _), List.drop_of_length_le (by rw [hl]; exact Nat.le_refl _), List.append_nil] at e
      rw [hl, e] at hc
      exact hc
  rw [← hsz] at hc
  refine ⟨?_, by show 2 ≤ 3; omega, fun k hk => ?_, rfl, rfl⟩
  · rw [hlen] at hc
    exact hc
  · have hk : k < 2 := hk
    match k, hk with
    | 0, _ => rfl
    | 1, _ => rfl
def PreN (m : Nat) (i : Int) : Prop := m = 1 ∧ i = 0
noncomputable instance (m : Nat) (i : Int) : Decidable (PreN m i) := Classical.propDecidable _
theorem SpecOk.insN {F M BY TE : Nat} {Z : Array Value} (hr : InsRaw P F M BY TE Z) (hlim : BY ≤ 140737488355328) {c : U.C} (hsz : U.sz c = M) (hone : ∀ x, (U.encS c x).all SV.one = true)
    (hfn : ∃ fn, P.funcs[F]? = some fn ∧ (fn.name == "runtime.NumGoroutine") = false ∧ fn.body.isSome = true) {d : List (TO U) → List (TV U) → Option (List (U.T c) × Int)}
    (hd : ∀ {objs args ys i}, d objs args = some (ys, i) → objs = [.row c ys false] ∧ args = [.v (.slice none 0 0), .v (.int .i64 i), .full 0]) :
    SpecOk P F (.of d (fun (ys, i) => PreN ys.length i) (fun (ys, i) => [.dead ys.length, .row c ys false]) fun _ => .full 1) := by
  refine ⟨hfn, Spc.of_path, fun objs args objs' res hh _ _ _ => ?_⟩
  obtain ⟨⟨ys, i⟩, hx, ⟨h2, rfl⟩, he⟩ := Spc.of_some hh
  cases he
  obtain ⟨rfl, rfl⟩ := hd hx
  obtain ⟨y, rfl⟩ : ∃ y, ys = [y] := List.length_eq_one_iff.1 h2
  have hc := nil_hcall hr (y := U.encS c y) hlim (hone y)
  rw [← hsz] at hc
  refine ⟨hc, by show 1 ≤ 2; omega, fun k hk => ?_, rfl, rfl⟩
  have hk : k < 1 := hk
  match k, hk with
  | 0, _ => rfl
def PreDel (n : Nat) (i j : Int) : Prop := 0 ≤ i ∧ i < j ∧ j ≤ (n : Int) ∧ n ≤ 9223372036854775807
noncomputable instance (n : Nat) (i j : Int) : Decidable (PreDel n i j) := Classical.propDecidable _
theorem SpecOk.del {F M : Nat} {Z : Array Value} (hr : DelRaw P F M Z) (hM : 0 < M) (hZ : Z.size = M) {c : U.C} (hsz : U.sz c = M) (hone : ∀ x, (U.encS c x).all SV.one = true)
    (hfn : ∃ fn, P.funcs[F]? = some fn ∧ (fn.name == "runtime.NumGoroutine") = false ∧ fn.body.isSome = true) {d : List (TO U) → List (TV U) → Option (List (U.T c) × Int × Int)}
    (hd : ∀ {objs args xs i j}, d objs args = some (xs, i, j) → objs = [.row c xs false] ∧ args = [.full 0, .v (.int .i64 i), .v (.int .i64 j)]) :
    SpecOk P F (.of d (fun (xs, i, j) => PreDel xs.length i j) (fun (xs, i, j) => [.dead xs.length, .row c (xs.take i.toNat ++ xs.drop j.toNat) false]) fun _ => .full 1) := by
  refine ⟨hfn, Spc.of_path, fun objs args objs' res hh _ _ _ => ?_⟩
  obtain ⟨⟨xs, i, j⟩, hx, ⟨h0, h1, h2, h3⟩, he⟩ := Spc.of_some hh
  cases he
  obtain ⟨rfl, rfl⟩ := hd hx
  have ho : ((xs.map (U.encS c)).all fun r => r.all SV.one) = true := by
    rw [List.all_map]
    exact List.all_eq_true.2 fun x _ => hone x
  have hl : (xs.map (U.encS c)).length = xs.length := List.length_map _
  have hc := del_hcall hr hM hZ (rows := xs.map (U.encS c)) (i := i.toNat) (j := j.toNat) (by omega) (by rw [hl]; omega) (by rw [hl]; exact h3) ho
  rw [hl, Int.toNat_of_nonneg h0, Int.toNat_of_nonneg (by omega), ← hsz] at hc
  have hlen : i.toNat + (xs.length - j.toNat) = (xs.take i.toNat ++ xs.drop j.toNat).length := by
    simp only [List.length_append, List.length_take, List.length_drop]
    omega
  refine ⟨?_, by show 1 ≤ 2; omega, fun k hk => ?_, rfl, rfl⟩
  · have e : (xs.map (U.encS c)).take i.toNat ++ (xs.map (U.encS c)).drop j.toNat = (xs.take i.toNat ++ xs.drop j.toNat).map (U.encS c) := by
      simp only [List.map_append, List.map_take, List.map_drop]
    rw [e, hlen] at hc
    exact hc
  · have hk : k < 1 := hk
    match k, hk with
    | 0, _ => rfl
end
end Go.Proofs.YtmcflglkfgnbbaaDoor.Eng

/- Kinds of elements, and types. -/
namespace Go.Proofs.YtmcflglkfgnbbaaDoor.Nd
open Go Go.RowKit Go.Proofs.YtmcflglkfgnbbaaDoor.Eng
set_option linter.unusedVariables false
set_option linter.unusedSimpArgs false
inductive C where
  | i64
  | t45
  | t54
  | m_t68_t25
  deriving DecidableEq
structure R54 where
  At : Int
  Bits : Int
structure R25 where
  Parts : List R54
structure R45 where
  Tag : Int
  N : Int
  L : List Int
structure R68 where
  Tag : Int
  N : Int
abbrev T : C → Type
  | .i64 => Int
  | .t45 => R45
  | .t54 => R54
  | .m_t68_t25 => R68 × R25
def sz : C → Nat
  | .i64 => 1
  | .t45 => 3
  | .t54 => 2
  | .m_t68_t25 => 2
def encS_i64 (x : Int) : List SV := [.v (.int .i64 x)]
def encS_t45 (x : R45) : List SV := [.v (.int .i64 x.Tag), .v (.int .i64 x.N), .lst (sz .i64) (x.L.map encS_i64)]
def encS_t54 (x : R54) : List SV := [.v (.int .i64 x.At), .v (.int .u64 x.Bits)]
def encS_m_t68_t25 (x : R68 × R25) : List SV := [.v (.agg ([.int .i64 x.1.Tag, .int .i64 x.1.N] : List Value).toArray), .agg [.lst (sz .t54) (x.2.Parts.map encS_t54)]]
def encS : (c : C) → T c → List SV
  | .i64, x => encS_i64 x
  | .t45, x => encS_t45 x
  | .t54, x => encS_t54 x
  | .m_t68_t25, x => encS_m_t68_t25 x
abbrev U : Univ := ⟨C, inferInstance, T, sz, encS⟩
def enc : (c : C) → T c → List (TV U)
  | .i64, x => [.v (.int .i64 x)]
  | .t45, x => [.v (.int .i64 x.Tag), .v (.int .i64 x.N), .lst .i64 x.L]
  | .t54, x => [.v (.int .i64 x.At), .v (.int .u64 x.Bits)]
  | .m_t68_t25, x => [.v (.agg ([.int .i64 x.1.Tag, .int .i64 x.1.N] : List Value).toArray), .agg [.lst .t54 x.2.Parts]]
def shape : C → List (Option C)
  | .t45 => [none, none, some .i64]
  | _ => []
def dec_i64 : List (TV U) → Option Int
  | [.v (.int .i64 a1)] => some a1
  | _ => none
def dec_t45 : List (TV U) → Option R45
  | [.v (.int .i64 a2), .v (.int .i64 a3), .lst .i64 a4] => some ⟨a2, a3, a4⟩
  | _ => none
def dec_t54 : List (TV U) → Option R54
  | [.v (.int .i64 a2), .v (.int .u64 a3)] => some ⟨a2, a3⟩
  | _ => none
def dec0 : (c : C) → List (TV U) → Option (T c)
  | .i64, l => dec_i64 l
  | .t45, l => dec_t45 l
  | .t54, l => dec_t54 l
  | .m_t68_t25, l => none
def dec (c : C) (l : List (TV U)) : Option (T c) := dec0 c (prepL (shape c) l)
def elc : Nat → Option C
  | 3 => some .i64
  | 45 => some .t45
  | 54 => some .t54
  | _ => none
def sty : Nat → Bool
  | _ => false
def tt : Nat → Option TI
  | 2 => some ⟨false, 1, 8, [.v (.int .i64 0)], [], none, false, false, some .i64⟩
  | 3 => some ⟨false, 1, 8, [.v (.int .i64 0)], [], none, false, false, some .i64⟩
  | 4 => some ⟨false, 1, 1, [.v (.bool false)], [], none, true, false, none⟩
  | 5 => some ⟨false, 1, 1, [.v (.int .u8 0)], [], none, false, false, some .u8⟩
  | 6 => some ⟨false, 1, 1, [.v (.int .u8 0)], [], none, false, false, some .u8⟩
  | 22 => some ⟨false, 1, 24, [.v (.slice none 0 0)], [], some 3, false, false, none⟩
  | 23 => some ⟨false, 1, 24, [.v (.slice none 0 0)], [], some 54, false, false, none⟩
  | 25 => some ⟨true, 1, 24, [.v (.slice none 0 0)], [(0, 23)], none, false, false, none⟩
  | 41 => some ⟨false, 1, 24, [.v (.slice none 0 0)], [], some 45, false, false, none⟩
  | 42 => some ⟨false, 1, 8, [.v (.pointer none)], [], none, false, true, none⟩
  | 45 => some ⟨true, 3, 40, [.v (.int .i64 0), .v (.int .i64 0), .v (.slice none 0 0)], [(0, 3), (1, 3), (2, 22)], none, false, false, none⟩
  | 52 => some ⟨false, 1, 8, [.v (.int .u64 0)], [], none, false, false, some .u64⟩
  | 54 => some ⟨true, 2, 16, [.v (.int .i64 0), .v (.int .u64 0)], [(0, 3), (1, 52)], none, false, false, none⟩
  | 64 => some ⟨false, 1, 8, [.v (.map none)], [], none, false, false, none⟩
  | 66 => some ⟨true, 1, 8, [.v (.map none)], [(0, 64)], none, false, false, none⟩
  | 68 => some ⟨true, 2, 16, [.v (.int .i64 0), .v (.int .i64 0)], [(0, 3), (1, 3)], none, false, false, none⟩
  | 70 => some ⟨false, 1, 8, [.v (.int .u64 0)], [], none, false, false, some .u64⟩
  | _ => none
theorem tt2 : ∀ t, tt 2 = some t → TIok Tryd.prog 2 t := by
  intro t h
  cases h
  have hu : (Tryd.prog.underlying 2).isSome = true := by kernel_rfl
  have hi : (Tryd.prog.info? 2).isSome = true := by kernel_rfl
  have hz : ((Tryd.prog.info? 2).get hi).zero.isSome = true := by kernel_rfl
  exact ⟨⟨(Tryd.prog.underlying 2).get hu, (Tryd.prog.info? 2).get hi, ((Tryd.prog.info? 2).get hi).zero.get hz, (Option.some_get hu).symm, (Option.some_get hi).symm, (Option.some_get hz).symm, by kernel_rfl, by kernel_rfl, by kernel_rfl, by kernel_rfl, by kernel_rfl, fun h => absurd rfl h, fun e h => (by cases h), fun h => (by cases h), fun h => (by cases h), fun k h => (by cases h; kernel_rfl)⟩⟩
theorem tt3 : ∀ t, tt 3 = some t → TIok Tryd.prog 3 t := by
  intro t h
  cases h
  have hu : (Tryd.prog.underlying 3).isSome = true := by kernel_rfl
  have hi : (Tryd.prog.info? 3).isSome = true := by kernel_rfl
  have hz : ((Tryd.prog.info? 3).get hi).zero.isSome = true := by kernel_rfl
  exact ⟨⟨(Tryd.prog.underlying 3).get hu, (Tryd.prog.info? 3).get hi, ((Tryd.prog.info? 3).get hi).zero.get hz, (Option.some_get hu).symm, (Option.some_get hi).symm, (Option.some_get hz).symm, by kernel_rfl, by kernel_rfl, by kernel_rfl, by kernel_rfl, by kernel_rfl, fun h => absurd rfl h, fun e h => (by cases h), fun h => (by cases h), fun h => (by cases h), fun k h => (by cases h; kernel_rfl)⟩⟩
theorem tt4 : ∀ t, tt 4 = some t → TIok Tryd.prog 4 t := by
  intro t h
  cases h
  have hu : (Tryd.prog.underlying 4).isSome = true := by kernel_rfl
  have hi : (Tryd.prog.info? 4).isSome = true := by kernel_rfl
  have hz : ((Tryd.prog.info? 4).get hi).zero.isSome = true := by kernel_rfl
  exact ⟨⟨(Tryd.prog.underlying 4).get hu, (Tryd.prog.info? 4).get hi, ((Tryd.prog.info? 4).get hi).zero.get hz, (Option.some_get hu).symm, (Option.some_get hi).symm, (Option.some_get hz).symm, by kernel_rfl, by kernel_rfl, by kernel_rfl, by kernel_rfl, by kernel_rfl, fun h => absurd rfl h, fun e h => (by cases h), fun _ => (by kernel_rfl), fun h => (by cases h), fun k h => (by cases h)⟩⟩
theorem tt5 : ∀ t, tt 5 = some t → TIok Tryd.prog 5 t := by
  intro t h
  cases h
  have hu : (Tryd.prog.underlying 5).isSome = true := by kernel_rfl
  have hi : (Tryd.prog.info? 5).isSome = true := by kernel_rfl
  have hz : ((Tryd.prog.info? 5).get hi).zero.isSome = true := by kernel_rfl
  exact ⟨⟨(Tryd.prog.underlying 5).get hu, (Tryd.prog.info? 5).get hi, ((Tryd.prog.info? 5).get hi).zero.get hz, (Option.some_get hu).symm, (Option.some_get hi).symm, (Option.some_get hz).symm, by kernel_rfl, by kernel_rfl, by kernel_rfl, by kernel_rfl, by kernel_rfl, fun h => absurd rfl h, fun e h => (by cases h), fun h => (by cases h), fun h => (by cases h), fun k h => (by cases h; kernel_rfl)⟩⟩
theorem tt6 : ∀ t, tt 6 = some t → TIok Tryd.prog 6 t := by
  intro t h
  cases h
  have hu : (Tryd.prog.underlying 6).isSome = true := by kernel_rfl
  have hi : (Tryd.prog.info? 6).isSome = true := by kernel_rfl
  have hz : ((Tryd.prog.info? 6).get hi).zero.isSome = true := by kernel_rfl
  exact ⟨⟨(Tryd.prog.underlying 6).get hu, (Tryd.prog.info? 6).get hi, ((Tryd.prog.info? 6).get hi).zero.get hz, (Option.some_get hu).symm, (Option.some_get hi).symm, (Option.some_get hz).symm, by kernel_rfl, by kernel_rfl, by kernel_rfl, by kernel_rfl, by kernel_rfl, fun h => absurd rfl h, fun e h => (by cases h), fun h => (by cases h), fun h => (by cases h), fun k h => (by cases h; kernel_rfl)⟩⟩
theorem tt22 : ∀ t, tt 22 = some t → TIok Tryd.prog 22 t := by
  intro t h
  cases h
  have hu : (Tryd.prog.underlying 22).isSome = true := by kernel_rfl
  have hi : (Tryd.prog.info? 22).isSome = true := by kernel_rfl
  have hz : ((Tryd.prog.info? 22).get hi).zero.isSome = true := by kernel_rfl
  exact ⟨⟨(Tryd.prog.underlying 22).get hu, (Tryd.prog.info? 22).get hi, ((Tryd.prog.info? 22).get hi).zero.get hz, (Option.some_get hu).symm, (Option.some_get hi).symm, (Option.some_get hz).symm, by kernel_rfl, by kernel_rfl, by kernel_rfl, by kernel_rfl, by kernel_rfl, fun h => absurd rfl h, fun e h => (by cases h; kernel_rfl), fun h => (by cases h), fun h => (by cases h), fun k h => (by cases h)⟩⟩
theorem tt23 : ∀ t, tt 23 = some t → TIok Tryd.prog 23 t := by
  intro t h
  cases h
  have hu : (Tryd.prog.underlying 23).isSome = true := by kernel_rfl
  have hi : (Tryd.prog.info? 23).isSome = true := by kernel_rfl
  have hz : ((Tryd.prog.info? 23).get hi).zero.isSome = true := by kernel_rfl
  exact ⟨⟨(Tryd.prog.underlying 23).get hu, (Tryd.prog.info? 23).get hi, ((Tryd.prog.info? 23).get hi).zero.get hz, (Option.some_get hu).symm, (Option.some_get hi).symm, (Option.some_get hz).symm, by kernel_rfl, by kernel_rfl, by kernel_rfl, by kernel_rfl, by kernel_rfl, fun h => absurd rfl h, fun e h => (by cases h; kernel_rfl), fun h => (by cases h), fun h => (by cases h), fun k h => (by cases h)⟩⟩
theorem tt25 : ∀ t, tt 25 = some t → TIok Tryd.prog 25 t := by
  intro t h
  cases h
  have hu : (Tryd.prog.underlying 25).isSome = true := by kernel_rfl
  have hi : (Tryd.prog.info? 25).isSome = true := by kernel_rfl
  have hz : ((Tryd.prog.info? 25).get hi).zero.isSome = true := by kernel_rfl
  exact ⟨⟨(Tryd.prog.underlying 25).get hu, (Tryd.prog.info? 25).get hi, ((Tryd.prog.info? 25).get hi).zero.get hz, (Option.some_get hu).symm, (Option.some_get hi).symm, (Option.some_get hz).symm, by kernel_rfl, by kernel_rfl, by kernel_rfl, by kernel_rfl, by kernel_rfl, fun _ => ⟨(match (Tryd.prog.underlying 25).get hu with | .struct fs => fs | _ => #[]), by kernel_rfl, by kernel_rfl⟩, fun e h => (by cases h), fun h => (by cases h), fun h => (by cases h), fun k h => (by cases h)⟩⟩
theorem tt41 : ∀ t, tt 41 = some t → TIok Tryd.prog 41 t := by
  intro t h
  cases h
  have hu : (Tryd.prog.underlying 41).isSome = true := by kernel_rfl
  have hi : (Tryd.prog.info? 41).isSome = true := by kernel_rfl
  have hz : ((Tryd.prog.info? 41).get hi).zero.isSome = true := by kernel_rfl
  exact ⟨⟨(Tryd.prog.underlying 41).get hu, (Tryd.prog.info? 41).get hi, ((Tryd.prog.info? 41).get hi).zero.get hz, (Option.some_get hu).symm, (Option.some_get hi).symm, (Option.some_get hz).symm, by kernel_rfl, by kernel_rfl, by kernel_rfl, by kernel_rfl, by kernel_rfl, fun h => absurd rfl h, fun e h => (by cases h; kernel_rfl), fun h => (by cases h), fun h => (by cases h), fun k h => (by cases h)⟩⟩
theorem tt42 : ∀ t, tt 42 = some t → TIok Tryd.prog 42 t := by
  intro t h
  cases h
  have hu : (Tryd.prog.underlying 42).isSome = true := by kernel_rfl
  have hi : (Tryd.prog.info? 42).isSome = true := by kernel_rfl
  have hz : ((Tryd.prog.info? 42).get hi).zero.isSome = true := by kernel_rfl
  exact ⟨⟨(Tryd.prog.underlying 42).get hu, (Tryd.prog.info? 42).get hi, ((Tryd.prog.info? 42).get hi).zero.get hz, (Option.some_get hu).symm, (Option.some_get hi).symm, (Option.some_get hz).symm, by kernel_rfl, by kernel_rfl, by kernel_rfl, by kernel_rfl, by kernel_rfl, fun h => absurd rfl h, fun e h => (by cases h), fun h => (by cases h), fun _ => (by kernel_rfl), fun k h => (by cases h)⟩⟩
theorem tt45 : ∀ t, tt 45 = some t → TIok Tryd.prog 45 t := by
  intro t h
  cases h
  have hu : (Tryd.prog.underlying 45).isSome = true := by kernel_rfl
  have hi : (Tryd.prog.info? 45).isSome = true := by kernel_rfl
  have hz : ((Tryd.prog.info? 45).get hi).zero.isSome = true := by kernel_rfl
  exact ⟨⟨(Tryd.prog.underlying 45).get hu, (Tryd.prog.info? 45).get hi, ((Tryd.prog.info? 45).get hi).zero.get hz, (Option.some_get hu).symm, (Option.some_get hi).symm, (Option.some_get hz).symm, by kernel_rfl, by kernel_rfl, by kernel_rfl, by kernel_rfl, by kernel_rfl, fun _ => ⟨(match (Tryd.prog.underlying 45).get hu with | .struct fs => fs | _ => #[]), by kernel_rfl, by kernel_rfl⟩, fun e h => (by cases h), fun h => (by cases h), fun h => (by cases h), fun k h => (by cases h)⟩⟩
theorem tt52 : ∀ t, tt 52 = some t → TIok Tryd.prog 52 t := by
  intro t h
  cases h
  have hu : (Tryd.prog.underlying 52).isSome = true := by kernel_rfl
  have hi : (Tryd.prog.info? 52).isSome = true := by kernel_rfl
  have hz : ((Tryd.prog.info? 52).get hi).zero.isSome = true := by kernel_rfl
  exact ⟨⟨(Tryd.prog.underlying 52).get hu, (Tryd.prog.info? 52).get hi, ((Tryd.prog.info? 52).get hi).zero.get hz, (Option.some_get hu).symm, (Option.some_get hi).symm, (Option.some_get hz).symm, by kernel_rfl, by kernel_rfl, by kernel_rfl, by kernel_rfl, by kernel_rfl, fun h => absurd rfl h, fun e h => (by cases h), fun h => (by cases h), fun h => (by cases h), fun k h => (by cases h; kernel_rfl)⟩⟩
theorem tt54 : ∀ t, tt 54 = some t → TIok Tryd.prog 54 t := by
  intro t h
  cases h
  have hu : (Tryd.prog.underlying 54).isSome = true := by kernel_rfl
  have hi : (Tryd.prog.info? 54).isSome = true := by kernel_rfl
  have hz : ((Tryd.prog.info? 54).get hi).zero.isSome = true := by kernel_rfl
  exact ⟨⟨(Tryd.prog.underlying 54).get hu, (Tryd.prog.info? 54).get hi, ((Tryd.prog.info? 54).get hi).zero.get hz, (Option.some_get hu).symm, (Option.some_get hi).symm, (Option.some_get hz).symm, by kernel_rfl, by kernel_rfl, by kernel_rfl, by kernel_rfl, by kernel_rfl, fun _ => ⟨(match (Tryd.prog.underlying 54).get hu with | .struct fs => fs | _ => #[]), by kernel_rfl, by kernel_rfl⟩, fun e h => (by cases h), fun h => (by cases h), fun h => (by cases h), fun k h => (by cases h)⟩⟩
theorem tt64 : ∀ t, tt 64 = some t → TIok Tryd.prog 64 t := by
  intro t h
  cases h
  have hu : (Tryd.prog.underlying 64).isSome = true := by kernel_rfl
  have hi : (Tryd.prog.info? 64).isSome = true := by kernel_rfl
  have hz : ((Tryd.prog.info? 64).get hi).zero.isSome = true := by kernel_rfl
  exact ⟨⟨(Tryd.prog.underlying 64).get hu, (Tryd.prog.info? 64).get hi, ((Tryd.prog.info? 64).get hi).zero.get hz, (Option.some_get hu).symm, (Option.some_get hi).symm, (Option.some_get hz).symm, by kernel_rfl, by kernel_rfl, by kernel_rfl, by kernel_rfl, by kernel_rfl, fun h => absurd rfl h, fun e h => (by cases h), fun h => (by cases h), fun h => (by cases h), fun k h => (by cases h)⟩⟩
theorem tt66 : ∀ t, tt 66 = some t → TIok Tryd.prog 66 t := by
  intro t h
  cases h
  have hu : (Tryd.prog.underlying 66).isSome = true := by kernel_rfl
  have hi : (Tryd.prog.info? 66).isSome = true := by kernel_rfl
  have hz : ((Tryd.prog.info? 66).get hi).zero.isSome = true := by kernel_rfl
  exact ⟨⟨(Tryd.prog.underlying 66).get hu, (Tryd.prog.info? 66).get hi, ((Tryd.prog.info? 66).get hi).zero.get hz, (Option.some_get hu).symm, (Option.some_get hi).symm, (Option.some_get hz).symm, by kernel_rfl, by kernel_rfl, by kernel_rfl, by kernel_rfl, by kernel_rfl, fun _ => ⟨(match (Tryd.prog.underlying 66).get hu with | .struct fs => fs | _ => #[]), by kernel_rfl, by kernel_rfl⟩, fun e h => (by cases h), fun h => (by cases h), fun h => (by cases h), fun k h => (by cases h)⟩⟩
theorem tt68 : ∀ t, tt 68 = some t → TIok Tryd.prog 68 t := by
  intro t h
  cases h
  have hu : (Tryd.prog.underlying 68).isSome = true := by kernel_rfl
  have hi : (Tryd.prog.info? 68).isSome = true := by kernel_rfl
  have hz : ((Tryd.prog.info? 68).get hi).zero.isSome = true := by kernel_rfl
  exact ⟨⟨(Tryd.prog.underlying 68).get hu, (Tryd.prog.info? 68).get hi, ((Tryd.prog.info? 68).get hi).zero.get hz, (Option.some_get hu).symm, (Option.some_get hi).symm, (Option.some_get hz).symm, by kernel_rfl, by kernel_rfl, by kernel_rfl, by kernel_rfl, by kernel_rfl, fun _ => ⟨(match (Tryd.prog.underlying 68).get hu with | .struct fs => fs | _ => #[]), by kernel_rfl, by kernel_rfl⟩, fun e h => (by cases h), fun h => (by cases h), fun h => (by cases h), fun k h => (by cases h)⟩⟩
theorem tt70 : ∀ t, tt 70 = some t → TIok Tryd.prog 70 t := by
  intro t h
  cases h
  have hu : (Tryd.prog.underlying 70).isSome = true := by kernel_rfl
  have hi : (Tryd.prog.info? 70).isSome = true := by kernel_rfl
  have hz : ((Tryd.prog.info? 70).get hi).zero.isSome = true := by kernel_rfl
  exact ⟨⟨(Tryd.prog.underlying 70).get hu, (Tryd.prog.info? 70).get hi, ((Tryd.prog.info? 70).get hi).zero.get hz, (Option.some_get hu).symm, (Option.some_get hi).symm, (Option.some_get hz).symm, by kernel_rfl, by kernel_rfl, by kernel_rfl, by kernel_rfl, by kernel_rfl, fun h => absurd rfl h, fun e h => (by cases h), fun h => (by cases h), fun h => (by cases h), fun k h => (by cases h; kernel_rfl)⟩⟩
theorem tab : Tab Tryd.prog tt := by
  intro T t h
  have h0 := h
  unfold tt at h
  split at h
  · exact tt2 t h0
  · exact tt3 t h0
  · exact tt4 t h0
  · exact tt5 t h0
  · exact tt6 t h0
  · exact tt22 t h0
  · exact tt23 t h0
  · exact tt25 t h0
  · exact tt41 t h0
  · exact tt42 t h0
  · exact tt45 t h0
  · exact tt52 t h0
  · exact tt54 t h0
  · exact tt64 t h0
  · exact tt66 t h0
  · exact tt68 t h0
  · exact tt70 t h0
  cases h
def eqt : Nat → Option (List EK)
  | 54 => some [.i, .i]
  | 68 => some [.i, .i]
  | _ => none
def kl_m_t68_t25 (k : R68) : List Value := [.int .i64 k.Tag, .int .i64 k.N]
def ke_m_t68_t25 (a b : R68) : Bool := decide (a.Tag = b.Tag) && (decide (a.N = b.N) && true)
def dk_m_t68_t25 : TV U → Option R68
  | .agg [.v (.int .i64 a2), .v (.int .i64 a3)] => some ⟨a2, a3⟩
  | _ => none
def dv_m_t68_t25 : TV U → Option R25
  | .agg l => match prepL [some C.t54] l with
    | [.lst .t54 a2] => some ⟨a2⟩
    | _ => none
  | _ => none
def k_m_t68_t25 : MK U := ⟨.m_t68_t25, R68, R25, ke_m_t68_t25, fun l => l, fun l => l, dk_m_t68_t25, dv_m_t68_t25, fun x => .agg [.lst .t54 x.Parts], ⟨[]⟩⟩
def mt : Nat → Option (MK U)
  | 64 => some k_m_t68_t25
  | _ => none
def u8k : Option (U8 U) := none
def rowk : C → Bool
  | .m_t68_t25 => false
  | _ => true
abbrev X : Cx := ⟨U, tt, sty, enc, dec, elc, eqt, mt, u8k, rowk⟩
theorem cl_i64 (x : Int) : closedL (encS_i64 x) = true := by
  unfold encS_i64
  simp [closedL, SV.closed]
theorem cl_t45 (x : R45) : closedL (encS_t45 x) = true := by
  unfold encS_t45
  simp [closedL, SV.closed, closedR_map _ cl_i64]
theorem cl_t54 (x : R54) : closedL (encS_t54 x) = true := by
  unfold encS_t54
  simp [closedL, SV.closed]
theorem cl_m_t68_t25 (x : R68 × R25) : closedL (encS_m_t68_t25 x) = true := by
  unfold encS_m_t68_t25
  simp [closedL, SV.closed, closedR_map _ cl_t54]
theorem ki_m_t68_t25 (a b : R68) : ke_m_t68_t25 a b = true ↔ kl_m_t68_t25 a = kl_m_t68_t25 b := by
  cases a; cases b
  simp [ke_m_t68_t25, kl_m_t68_t25]
theorem ks_m_t68_t25 (a : R68) : Instr.sameBits 10000 (.agg (kl_m_t68_t25 a).toArray) (.agg (kl_m_t68_t25 a).toArray) = true := by
  simp [Instr.sameBits, kl_m_t68_t25]
theorem mt64 : MKok Tryd.prog 64 k_m_t68_t25 := ⟨by
  have hi : (Tryd.prog.info? 25).isSome = true := by kernel_rfl
  have hz : ((Tryd.prog.info? 25).get hi).zero.isSome = true := by kernel_rfl
  refine ⟨68, 25, (Tryd.prog.info? 25).get hi, ((Tryd.prog.info? 25).get hi).zero.get hz, fun k => .agg (kl_m_t68_t25 k).toArray, fun x => .agg [.lst (sz .t54) (x.Parts.map encS_t54)], by kernel_rfl, (keyT (kv := kl_m_t68_t25) (eq := ke_m_t68_t25) (T := 68) (ks := [.i, .i]) (by kernel_rfl) (fun a b => rfl) (fun a b => ki_m_t68_t25 a b) (fun a => ks_m_t68_t25 a)), (Option.some_get hi).symm, (Option.some_get hz).symm, ?_, rfl, fun l => rfl, fun l => rfl, ?_, ?_, fun b rl => rfl, fun b n => rfl⟩
  · have e : ((Tryd.prog.info? 25).get hi).zero.get hz = .agg #[.slice none 0 0] := by kernel_rfl
    rw [e]
    exact fun g H => .agg (.cons .nil (.nil))
  · exact fun tv k h => by
      unfold k_m_t68_t25 dk_m_t68_t25 at h
      dsimp only at h
      split at h <;> try (cases h; done)
      cases h
      exact ⟨by simp, fun rl g H v hv => by
        obtain ⟨xs, rfl, hxs⟩ := rep_agg' hv
        obtain ⟨xs⟩ := xs
        have hz : xs = [.int .i64 _, .int .i64 _] := repL_vals (l := [.int .i64 _, .int .i64 _]) hxs
        subst hz
        rfl⟩
  · exact fun tv b h => by
      unfold k_m_t68_t25 dv_m_t68_t25 at h
      dsimp only at h
      split at h <;> try (cases h; done)
      split at h <;> try (cases h; done)
      rename_i hl
      cases h
      refine ⟨by simp, fun rl g H v hv => ?_⟩
      have hv : Rep g H v (.agg (itpL rl _)) := hv
      cases hv with
      | agg hv =>
        have := repL_prep [some C.t54] _ hv
        rw [hl] at this
        exact .agg this⟩
theorem enc_ok : ∀ (c : C) (x : T c) (rl : Nat → Nat), itpL rl (enc c x) = encS c x
  | .i64, x, rl => rfl
  | .t45, x, rl => rfl
  | .t54, x, rl => rfl
  | .m_t68_t25, x, rl => rfl
theorem dec_ok : ∀ (c : C) (l : List (TV U)) (x : T c) (rl : Nat → Nat), dec0 c l = some x → itpL rl l = encS c x
  | .i64, l, x, rl, h => by
    have h : dec_i64 l = some x := h
    unfold dec_i64 at h
    split at h
    · cases h; rfl
    · cases h
  | .t45, l, x, rl, h => by
    have h : dec_t45 l = some x := h
    unfold dec_t45 at h
    split at h
    · cases h; rfl
    · cases h
  | .t54, l, x, rl, h => by
    have h : dec_t54 l = some x := h
    unfold dec_t54 at h
    split at h
    · cases h; rfl
    · cases h
  | .m_t68_t25, l, x, rl, h => by cases h
theorem X_ok : CxOk Tryd.prog X where
  eqt := fun T ks h => by
    have h : eqt T = some ks := h
    unfold eqt at h
    split at h <;> first | (cases h; done) | (cases h; show eqTb _ _ _ = true; kernel_rfl)
  tab := tab
  str := fun T h => by
    have h : sty T = true := h
    unfold sty at h
    split at h <;> first | (cases h; done)
  enc := fun c x rl => enc_ok c x rl
  encb := fun c x => by cases c <;> rfl
  dec := fun c l x rl h g H vs hv => by
    have h : dec0 c (prepL (shape c) l) = some x := h
    have := repL_prep (shape c) l hv
    rw [dec_ok c _ x rl h] at this
    exact this
  len := fun c x => by cases c <;> rfl
  pos := fun c => by cases c <;> decide
  one := fun c x h => by cases c <;> first | rfl | (cases h; done)
  closed := fun c x => by
    cases c
    · exact cl_i64 x
    · exact cl_t45 x
    · exact cl_t54 x
    · exact cl_m_t68_t25 x
  mt := fun T m h => by
    have h : mt T = some m := h
    unfold mt at h
    split at h <;> first | (cases h; done) | (cases h; exact mt64)
  u8k := fun q h => by
    have h : u8k = some q := h
    cases h
theorem mixed : Tryd.prog.follows .mixedOrders = true := rfl
end Go.Proofs.YtmcflglkfgnbbaaDoor.Nd


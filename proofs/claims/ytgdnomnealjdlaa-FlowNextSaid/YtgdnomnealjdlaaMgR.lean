/- Texts of this claim, put together: part 18. -/
import Derived.Test.YtgdnomnealjdlaaMgK
import Derived.Test.YtgdnomnealjdlaaMgL
import Derived.Test.YtgdnomnealjdlaaMgM
import Derived.Test.YtgdnomnealjdlaaMgN
import Derived.Test.YtgdnomnealjdlaaMgO
import Derived.Test.YtgdnomnealjdlaaMgP
import Derived.Test.YtgdnomnealjdlaaMgQ
/- The references' instructions: of a program, put together. -/
namespace Go.Proofs.Ytgdnomnealjdlaa.Fl
open Go Go.RowKit Go.Proofs.Ytgdnomnealjdlaa.Eng
set_option linter.unusedVariables false
set_option linter.unusedSimpArgs false
set_option maxRecDepth 20000
noncomputable def run36 (l : List (Nat × LC U)) (b : Nat) : Nat × LC U := (b, LC.run X Ez an36 l Try.f36 b)
noncomputable def in36 : List (Nat × LC U) := [run36 [] 6, run36 [] 8]
noncomputable def all36 : List (Nat × LC U) := [run36 [] 0, run36 [] 2, run36 in36 4, run36 [] 6, run36 [] 8]
def st6 (k : Int) (ps : List Int) (i : Int) : List Int := ps ++ [IntKind.i64.wrap (k + i)]
theorem rounds6 (l : List (Nat × LC U)) (t : TR) (o : IRs) (v : Int) (z : R90) (b : BS) (f : Int) (hz : z.Params.length ≤ 3000000) : fnLoop X Ez an36 (lpL l) Try.f36 6 (z.Params.length + 1) (S36c t o v z b [] f [(10, .v (.int .i64 0))]) = some (.exit 6, S36c t o v z b (ixL z.Params.length (st6 o.V.length) (z.Params.length + 1) [] 0) f []) :=
  ixL_rounds (fnl := fun n st => fnLoop X Ez an36 (lpL l) Try.f36 6 n st) (fun ps i => S36c t o v z b ps f [(10, .v (.int .i64 i))]) (fun ps => (.exit 6, S36c t o v z b ps f [])) (len := z.Params.length) (step := st6 o.V.length) (fun ps i => (ps.length : Int) = i) (fun ps i N hp h0 h1 => by
    have hw : IntKind.i64.wrap (i + 1) = i + 1 := wrap_i64 (by omega) (by omega)
    have hl : (ps.length + 1) * 8 ≤ 140737488355328 := by omega
    refine ⟨?_, by unfold st6; rw [List.length_append]; simp only [List.length_singleton]; omega⟩
    dsimp only
    rw [r6, decide_eq_true h1, hw, cond_true, if_pos hl]
    rfl) (fun ps i N _ h0 h1 => by dsimp only; rw [r6, decide_eq_false h1]; rfl) z.Params.length [] 0 (Int.le_refl 0) (by omega) rfl
def parI (o : IRs) (z : R90) : List Int := ixL z.Params.length (st6 o.V.length) (z.Params.length + 1) [] 0
def IRs.addV (o : IRs) (w : List Int) : IRs := ⟨o.G, o.F, o.V ++ w, o.Fs, o.C, o.Main⟩
def st8 (w : List Int) (d : R82) : List Int := w ++ [d.Type_]
theorem fold8 : ∀ (l : List R82) (w : List Int), l.foldl st8 w = w ++ l.map R82.Type_
  | [], w => by simp
  | d :: l, w => by rw [List.foldl_cons, fold8 l]; simp [st8]
theorem rounds8 (l : List (Nat × LC U)) (t : TR) (o : IRs) (v : Int) (z : R90) (b : BS) (ps : List Int) (f : Int) (hb : b.V.length ≤ 3000000) (ho : o.V.length + b.V.length ≤ 300000000) : fnLoop X Ez an36 (lpL l) Try.f36 8 (b.V.length + 1) (S36c t o v z b ps f [(11, .v (.int .i64 0))]) = some (.exit 8, S36c t (o.addV (b.V.map R82.Type_)) v z b ps f []) := by
  obtain ⟨g, fl, w, fs, c, m⟩ := o
  have h := ixL_rounds (fnl := fun n st => fnLoop X Ez an36 (lpL l) Try.f36 8 n st) (fun w i => S36c t ⟨g, fl, w, fs, c, m⟩ v z b ps f [(11, .v (.int .i64 i))]) (fun w => (.exit 8, S36c t ⟨g, fl, w, fs, c, m⟩ v z b ps f [])) (len := b.V.length) (step := stepI b.V st8) (fun w' i => (w'.length : Int) = w.length + i) (fun w' i N hp h0 h1 => by
    obtain ⟨d, hd, _⟩ := getI_lt h0 h1
    have hw : IntKind.i64.wrap (i + 1) = i + 1 := wrap_i64 (by omega) (by omega)
    have hl : (w'.length + 1) * 8 ≤ 140737488355328 := by dsimp only at ho; omega
    have hst : stepI b.V st8 w' i = w' ++ [d.Type_] := by unfold stepI; rw [hd]; rfl
    rw [hst]
    refine ⟨?_, by rw [List.length_append]; simp only [List.length_singleton]; omega⟩
    dsimp only
    rw [r8, decide_eq_true h1, hd, hw, cond_true, Option.bind_some, if_pos hl]) (fun w' i N _ h0 h1 => by dsimp only; rw [r8, decide_eq_false h1]; rfl) b.V.length w 0 (Int.le_refl 0) (by omega) (by omega)
  rw [ixL_all, fold8] at h
  exact h
/-- A function's instructions. -/
def codI (t : TR) (o : IRs) (v : Int) (z : R90) : List R65 := (lb1 t o v z).C
theorem codI_ne (t : TR) (o : IRs) (v : Int) (z : R90) : ∃ y ys, codI t o v z = y :: ys := by
  unfold codI lb1 BS.put
  cases h : [] ++ (blL z.Body (lb0 t o v z)).C ++ [⟨(blL z.Body (lb0 t o v z)).Fn, z.At, 16, -1, 0, 0, 0, 0, []⟩] with
  | nil => simp at h
  | cons y ys => exact ⟨y, ys, h⟩
/-- With one function more. -/
def lwF (t : TR) (o : IRs) (v : Int) (z : R90) : IRs := ⟨o.G, o.F, o.V ++ ([] ++ z.Params ++ z.Vars).map R82.Type_, o.Fs ++ [⟨z.Name, parI o z, z.Ret, o.C.length, (o.C ++ codI t o v z).length⟩], o.C ++ codI t o v z, cond (z.Name.toList == bMain.toList) v o.Main⟩
/-- Not too much so far. -/
def IrB (t : TR) (o : IRs) (l : List R90) : Prop := o.V.length + fnsW l ≤ 1000000 ∧ o.C.length + 3 * fnsW l ≤ 3000000 ∧ o.Fs.length + fnsW l ≤ 1000000
theorem lb1_V (t : TR) (o : IRs) (v : Int) (z : R90) : (lb1 t o v z).V = [] ++ z.Params ++ z.Vars := by
  have h := (blL_lk z.Body (lb0 t o v z)).trans (BS.Lk.put _ z.At (ins3 16 (-1) 0 0 0 0))
  obtain ⟨C, hC, _⟩ := h
  have : lb1 t o v z = { lb0 t o v z with C := C } := hC
  rw [this]
  rfl
theorem round4 {R : Type} {K : Exit → TS U → Option R} {t : TR} (ht : TrOk t) {o : IRs} {v : Int} {z : R90} (h0 : 0 ≤ v) (h1 : v < t.N.length) (hz : getI t.N v = some z) {r : List R90} (ho : IrB t o (z :: r)) (hw : fnW z ≤ 1000000) :
    evC X Ez an36 (lpL in36) L4 4 (S36 t o 6 v) K = K .normal (S36 t (lwF t o v z) 6 (IntKind.i64.wrap (v + 1))) ∧ IrB t (lwF t o v z) r := by
  obtain ⟨b1, b2, b3⟩ := ho
  rw [fnsW] at b1 b2 b3
  have hfw : fnW z = 1 + (z.Params.length + (z.Vars.length + cntL z.Body)) := rfl
  have hn := fnsW_len t.N
  obtain ⟨t1, t2, t3⟩ := ht
  have hV : ([] ++ z.Params ++ z.Vars).length = z.Params.length + z.Vars.length := by simp
  have hb0 : BSz (lb0 t o v z) := ⟨by show _ ≤ _; unfold lb0; dsimp only; omega, by show _ ≤ _; unfold lb0; dsimp only; omega, by show _ ≤ _; unfold lb0; dsimp only; omega, by show _ ≤ _; unfold lb0; dsimp only; omega⟩
  have k1 := blL_lk z.Body (lb0 t o v z)
  have k1l := k1.len
  have hc0 : (lb0 t o v z).C.length = 0 := rfl
  have k2 := (k1.trans (BS.Lk.put _ z.At (ins3 16 (-1) 0 0 0 0))).len
  have k3 : (codI t o v z).length ≤ 2 * cntL z.Body + 1 := by show (lb1 t o v z).C.length ≤ _; unfold lb1; omega
  have l1 : (0 + z.Params.length) * 32 ≤ 140737488355328 := by omega
  have l2 : (([] ++ z.Params).length + z.Vars.length) * 32 ≤ 140737488355328 := by rw [List.nil_append]; omega
  have l3 : PreBl (lb0 t o v z) (cntL z.Body) := ⟨hb0, by omega⟩
  have l4 : Sn (blL z.Body (lb0 t o v z)).C.length := by show _ ≤ _; omega
  have hbV : (lb1 t o v z).V.length = z.Params.length + z.Vars.length := by rw [lb1_V, hV]
  refine ⟨?_, ?_⟩
  · rw [hL4, evC_seq]
    obtain ⟨g, fl, w, fs, c, m⟩ := o
    rw [q0, decide_eq_true h1, cond_true]
    dsimp only
    rw [evC_seq, evC_block, q1, hz, Option.bind_some, if_pos l1, if_pos l2, if_pos l3, if_pos l4, hC16, evC_seq, evC_seq, q2]
    dsimp only
    rw [evC_block, evC_loop, n6]
    dsimp only
    have e6 : ∀ (K : Exit → TS U → Option R), (lpL in36).F 6 (S36c t ⟨g, fl, w, fs, c, m⟩ v z (lb1 t ⟨g, fl, w, fs, c, m⟩ v z) [] c.length [(10, .v (.int .i64 0))]) K = K (.exit 6) (S36c t ⟨g, fl, w, fs, c, m⟩ v z (lb1 t ⟨g, fl, w, fs, c, m⟩ v z) (parI ⟨g, fl, w, fs, c, m⟩ z) c.length []) := fun K =>
      run_F (X := X) Ez_ok (rounds6 [] t ⟨g, fl, w, fs, c, m⟩ v z _ _ (by omega)) K
    rw [e6]
    dsimp only
    rw [evC_seq, evC_seq, q4]
    dsimp only
    rw [evC_block, evC_loop, n8]
    dsimp only
    have e8 : ∀ (K : Exit → TS U → Option R), (lpL in36).F 8 (S36c t ⟨g, fl, w, fs, c, m⟩ v z (lb1 t ⟨g, fl, w, fs, c, m⟩ v z) (parI ⟨g, fl, w, fs, c, m⟩ z) c.length [(11, .v (.int .i64 0))]) K = K (.exit 8) (S36c t (IRs.addV ⟨g, fl, w, fs, c, m⟩ ((lb1 t ⟨g, fl, w, fs, c, m⟩ v z).V.map R82.Type_)) v z (lb1 t ⟨g, fl, w, fs, c, m⟩ v z) (parI ⟨g, fl, w, fs, c, m⟩ z) c.length []) := fun K =>
      run_F (X := X) Ez_ok (rounds8 [] t ⟨g, fl, w, fs, c, m⟩ v z _ _ _ (by omega) (by dsimp only at b1 ⊢; omega)) K
    rw [e8]
    dsimp only
    have hbq : lb1 t ⟨g, fl, w, fs, c, m⟩ v z = ⟨(lb1 t ⟨g, fl, w, fs, c, m⟩ v z).G, (lb1 t ⟨g, fl, w, fs, c, m⟩ v z).F, (lb1 t ⟨g, fl, w, fs, c, m⟩ v z).N, (lb1 t ⟨g, fl, w, fs, c, m⟩ v z).Fn, (lb1 t ⟨g, fl, w, fs, c, m⟩ v z).V, (lb1 t ⟨g, fl, w, fs, c, m⟩ v z).Base, (lb1 t ⟨g, fl, w, fs, c, m⟩ v z).First, codI t ⟨g, fl, w, fs, c, m⟩ v z⟩ := rfl
    obtain ⟨y, ys, hy⟩ := codI_ne t ⟨g, fl, w, fs, c, m⟩ v z
    rw [hy] at k3
    have hlw : lwF t ⟨g, fl, w, fs, c, m⟩ v z = ⟨g, fl, w ++ ([] ++ z.Params ++ z.Vars).map R82.Type_, fs ++ [⟨z.Name, parI ⟨g, fl, w, fs, c, m⟩ z, z.Ret, c.length, (c ++ y :: ys).length⟩], c ++ y :: ys, cond (z.Name.toList == bMain.toList) v m⟩ := by unfold lwF; rw [hy]
    rw [lb1_V, hbq, hy, hC25, evC_seq]
    unfold IRs.addV
    dsimp only at b1 b2 b3 ⊢
    rw [u5 _ _ _ _ _ _ _ _ _ _ _ _ _ _ _ _ _ _ _ _ _ _ _ (by omega)]
    dsimp only
    rw [evC_seq, q6]
    dsimp only
    rw [evC_seq, q7, if_pos (by omega)]
    dsimp only
    rw [q8, hlw]
    cases z.Name.toList == bMain.toList with
    | true => simp only [cond_true]; rw [q9]
    | false => simp only [cond_false]; rw [q9']
  · refine ⟨?_, ?_, ?_⟩
    · show (o.V ++ ([] ++ z.Params ++ z.Vars).map R82.Type_).length + _ ≤ _
      rw [List.length_append, List.length_map, hV]
      omega
    · show (o.C ++ codI t o v z).length + _ ≤ _
      rw [List.length_append]
      omega
    · show (o.Fs ++ [_]).length + _ ≤ _
      rw [List.length_append]
      simp only [List.length_singleton]
      omega
end Go.Proofs.Ytgdnomnealjdlaa.Fl

/- The references' instructions: of a program, the whole. -/
namespace Go.Proofs.Ytgdnomnealjdlaa.Fl
open Go Go.RowKit Go.Proofs.Ytgdnomnealjdlaa.Eng
set_option linter.unusedVariables false
set_option linter.unusedSimpArgs false
set_option maxRecDepth 20000
noncomputable def D0 : Code := match Try.f36.body with
  | some c => c
  | none => .skip
noncomputable def D5 : Code := sR (sR (sR (sR (sR D0))))
theorem hD0 : D0 = .seq (sL D0) (.seq (sL (sR D0)) (.seq (.seq (sL (sL (sR (sR D0)))) (.block 0 (.loop (loopAt Try.f36 0)))) (.seq (.seq (sL (sL (sR (sR (sR D0))))) (.block 2 (.loop (loopAt Try.f36 2)))) (.seq (.seq (sL (sL (sR (sR (sR (sR D0)))))) (.block 4 (.loop (loopAt Try.f36 4)))) D5)))) := by kernel_rfl
def wkIR : Lw U := .a [.l .i64, .l .i64, .l .i64, .l .t69, .l .t65, .no]
def irV (o : IRs) : TV U := .agg [.lst .i64 o.G, .lst .i64 o.F, .lst .i64 o.V, .lst .t69 o.Fs, .lst .t65 o.C, .v (.int .i64 o.Main)]
noncomputable def K36 : Exit → TS U → Option (List (TO U) × TV U) := fun ex s => match ex with
  | .ret => evFin X an36 Try.f36.results.toList s fun o v => some (o, wkIR.f v)
  | .normal => evFin X an36 Try.f36.results.toList s fun o v => some (o, wkIR.f v)
  | _ => none
theorem w00 (lp : Lp U) (t : TR) : evFn X Ez an36 lp Try.f36 [] [t.tv] (fun o v => some (o, wkIR.f v)) = evC X Ez an36 lp D0 0 (mkS 150 [(0, t.tv)] [] 0) K36 := by kernel_rfl
def sA (t : TR) (l : List (Nat × TV U)) : TS U := mkS 150 ([(0, t.tv), (1, .ref 0 0 0), (2, .ref 1 0 0), (3, .ref 2 0 0)] ++ l ++ [(12, .agg [nl, nl, nl, nl, nl, .v (.int .i64 0)])]) [t.ob, z26, z26] 0
theorem w0 (lp : Lp U) (R : Type) (K : Exit → TS U → Option R) (t : TR) (c : Code) : evC X Ez an36 lp (.seq (sL D0) (.seq (sL (sR D0)) c)) 0 (mkS 150 [(0, t.tv)] [] 0) K = evC X Ez an36 lp c 0 (sA t []) K := by kernel_rfl
theorem w2 (lp : Lp U) (R : Type) (K : Exit → TS U → Option R) (t : TR) : evC X Ez an36 lp (sL (sL (sR (sR D0)))) 0 (sA t []) K = K .normal (sA t [(4, .v (.int .i64 0))]) := by kernel_rfl
theorem n0 (t : TR) : evNorm (X := X) (an36.live 0) (sA t [(4, .v (.int .i64 0))]) = some (S36 t ⟨[], [], [], [], [], 0⟩ 4 0) := by kernel_rfl
theorem w6 (lp : Lp U) (R : Type) (K : Exit → TS U → Option R) (t : TR) (g : List Int) : evC X Ez an36 lp (sL (sL (sR (sR (sR D0))))) 0 (E36 t ⟨g, [], [], [], [], 0⟩) K = K .normal (S36 t ⟨g, [], [], [], [], 0⟩ 5 0) := by cases g <;> kernel_rfl
theorem n2 (t : TR) (g : List Int) : evNorm (X := X) (an36.live 2) (S36 t ⟨g, [], [], [], [], 0⟩ 5 0) = some (S36 t ⟨g, [], [], [], [], 0⟩ 5 0) := by cases g <;> kernel_rfl
theorem w10 (lp : Lp U) (R : Type) (K : Exit → TS U → Option R) (t : TR) (g f : List Int) : evC X Ez an36 lp (sL (sL (sR (sR (sR (sR D0)))))) 0 (E36 t ⟨g, f, [], [], [], 0⟩) K = K .normal (S36 t ⟨g, f, [], [], [], 0⟩ 6 0) := by cases g <;> cases f <;> kernel_rfl
theorem n4 (t : TR) (g fl w : List Int) (fs : List R69) (c : List R65) (m v : Int) : evNorm (X := X) (an36.live 4) (S36 t ⟨g, fl, w, fs, c, m⟩ 6 v) = some (S36 t ⟨g, fl, w, fs, c, m⟩ 6 v) := by
  cases g <;> cases fl <;> cases w <;> cases fs <;> cases c <;> kernel_rfl
theorem n4' (t : TR) (g fl w : List Int) (fs : List R69) (c : List R65) (m v : Int) : evNorm (X := X) (an36.out 4) (S36h t ⟨g, fl, w, fs, c, m⟩ v false) = some (E36' ⟨g, fl, w, fs, c, m⟩) := by
  cases g <;> cases fl <;> cases w <;> cases fs <;> cases c <;> kernel_rfl
theorem w30 (lp : Lp U) (g fl w : List Int) (fs : List R69) (c : List R65) (m : Int) : evC X Ez an36 lp D5 0 (E36' ⟨g, fl, w, fs, c, m⟩) K36 = some ([], irV ⟨g, fl, w, fs, c, m⟩) := by
  cases g <;> cases fl <;> cases w <;> cases fs <;> cases c <;> kernel_rfl
end Go.Proofs.Ytgdnomnealjdlaa.Fl

/- The references' instructions: of a program, proved. -/
namespace Go.Proofs.Ytgdnomnealjdlaa.Fl
open Go Go.RowKit Go.Proofs.Ytgdnomnealjdlaa.Eng
set_option linter.unusedVariables false
set_option linter.unusedSimpArgs false
set_option maxRecDepth 20000
theorem rounds36a (l : List (Nat × LC U)) (t : TR) (ht : t.G.length ≤ 1000000) : fnLoop X Ez an36 (lpL l) Try.f36 0 (t.G.length + 1) (S36 t ⟨[], [], [], [], [], 0⟩ 4 0) = some (.exit 0, E36 t ⟨t.G.map R82.Type_, [], [], [], [], 0⟩) := by
  have h := ixL_rounds (fnl := fun n st => fnLoop X Ez an36 (lpL l) Try.f36 0 n st) (fun g v => S36 t ⟨g, [], [], [], [], 0⟩ 4 v) (fun g => (.exit 0, E36 t ⟨g, [], [], [], [], 0⟩)) (len := t.G.length) (step := stepI t.G st8) (fun g v => (g.length : Int) = v) (fun g v N hp h0 h1 => by
    obtain ⟨d, hd, _⟩ := getI_lt h0 h1
    have hw : IntKind.i64.wrap (v + 1) = v + 1 := wrap_i64 (by omega) (by omega)
    have hl : (g.length + 1) * 8 ≤ 140737488355328 := by omega
    have hst : stepI t.G st8 g v = g ++ [d.Type_] := by unfold stepI; rw [hd]; rfl
    rw [hst]
    refine ⟨?_, by rw [List.length_append]; simp only [List.length_singleton]; omega⟩
    dsimp only
    rw [r36a, decide_eq_true h1, hd, hw, cond_true, Option.bind_some, if_pos hl]) (fun g v N _ h0 h1 => by dsimp only; rw [r36a, decide_eq_false h1]; rfl) t.G.length [] 0 (Int.le_refl 0) (by omega) rfl
  rw [ixL_all, fold8, List.nil_append] at h
  exact h
theorem rounds36b (l : List (Nat × LC U)) (t : TR) (g : List Int) (ht : t.F.length ≤ 1000000) : fnLoop X Ez an36 (lpL l) Try.f36 2 (t.F.length + 1) (S36 t ⟨g, [], [], [], [], 0⟩ 5 0) = some (.exit 2, E36 t ⟨g, t.F.map R82.Type_, [], [], [], 0⟩) := by
  have h := ixL_rounds (fnl := fun n st => fnLoop X Ez an36 (lpL l) Try.f36 2 n st) (fun f v => S36 t ⟨g, f, [], [], [], 0⟩ 5 v) (fun f => (.exit 2, E36 t ⟨g, f, [], [], [], 0⟩)) (len := t.F.length) (step := stepI t.F st8) (fun f v => (f.length : Int) = v) (fun f v N hp h0 h1 => by
    obtain ⟨d, hd, _⟩ := getI_lt h0 h1
    have hw : IntKind.i64.wrap (v + 1) = v + 1 := wrap_i64 (by omega) (by omega)
    have hl : (f.length + 1) * 8 ≤ 140737488355328 := by omega
    have hst : stepI t.F st8 f v = f ++ [d.Type_] := by unfold stepI; rw [hd]; rfl
    rw [hst]
    refine ⟨?_, by rw [List.length_append]; simp only [List.length_singleton]; omega⟩
    dsimp only
    rw [r36b, decide_eq_true h1, hd, hw, cond_true, Option.bind_some, if_pos hl]) (fun f v N _ h0 h1 => by dsimp only; rw [r36b, decide_eq_false h1]; rfl) t.F.length [] 0 (Int.le_refl 0) (by omega) rfl
  rw [ixL_all, fold8, List.nil_append] at h
  exact h
/-- With all functions. -/
def lwL (t : TR) : List R90 → IRs → Int → IRs
  | [], o, _ => o
  | z :: r, o, v => lwL t r (lwF t o v z) (v + 1)
theorem rounds36c {t : TR} (ht : TrOk t) : ∀ (r : List R90) (o : IRs) (v : Int), 0 ≤ v → t.N.drop v.toNat = r → IrB t o r → fnLoop X Ez an36 (lpL in36) Try.f36 4 (r.length + 1) (S36 t o 6 v) = some (.exit 4, E36' (lwL t r o v))
  | [], o, v, h0, hr, ho => by
    have hlen : ¬ v < (t.N.length : Int) := by
      have := congrArg List.length hr
      rw [List.length_drop, List.length_nil] at this
      omega
    obtain ⟨g, fl, w, fs, c, m⟩ := o
    show fnLoop X Ez an36 (lpL in36) Try.f36 4 1 _ = _
    rw [fnLoop_succ]
    show evC X Ez an36 (lpL in36) L4 4 _ _ = _
    rw [hL4, evC_seq, q0, decide_eq_false hlen, cond_false]
    dsimp only
    rw [n4']
    rfl
  | z :: r, o, v, h0, hr, ho => by
    have hlen : v < (t.N.length : Int) := by
      have := congrArg List.length hr
      rw [List.length_drop, List.length_cons] at this
      omega
    have hx : t.N[v.toNat]? = some t.N[v.toNat] := List.getElem?_eq_getElem (by omega)
    have hd : t.N.drop v.toNat = t.N[v.toNat] :: t.N.drop (v.toNat + 1) := List.drop_eq_getElem_cons (by omega)
    rw [hd] at hr
    injection hr with hz hr
    have hg : getI t.N v = some z := by unfold getI; rw [if_pos h0, hx, hz]
    have hfw : fnW z ≤ 1000000 := by
      have := fnsW_at t.N v.toNat z (by rw [hx, hz])
      have := ht.2.2
      omega
    have hw : IntKind.i64.wrap (v + 1) = v + 1 := wrap_i64 (by omega) (by have := fnsW_len t.N; have := ht.2.2; omega)
    rw [List.length_cons, fnLoop_succ]
    show evC X Ez an36 (lpL in36) L4 4 _ _ = _
    generalize hK : (fun (ex : Exit) (s' : TS X.U) => _ : Exit → TS X.U → Option (Exit × TS X.U)) = K1
    obtain ⟨he, hb⟩ := round4 (K := K1) ht h0 hlen hg ho hfw
    rw [he, ← hK, hw]
    dsimp only
    have hn := fun (o : IRs) => n4 t o.G o.F o.V o.Fs o.C o.Main (v + 1)
    rw [hn (lwF t o v z)]
    dsimp only
    rw [lwL]
    exact rounds36c ht r _ (v + 1) (by omega) (by rw [show (v + 1).toNat = v.toNat + 1 by omega]; exact hr) hb
/-- A program as instructions. -/
def lower (t : TR) : IRs := lwL t t.N ⟨t.G.map R82.Type_, t.F.map R82.Type_, [], [], [], 0⟩ 0
theorem e36 {t : TR} (ht : TrOk t) : evFn X Ez an36 (lpL all36) Try.f36 [] [t.tv] (fun o v => some (o, wkIR.f v)) = some ([], irV (lower t)) := by
  have e0 : ∀ (K : Exit → TS U → Option (List (TO U) × TV U)), (lpL all36).F 0 (S36 t ⟨[], [], [], [], [], 0⟩ 4 0) K = K (.exit 0) (E36 t ⟨t.G.map R82.Type_, [], [], [], [], 0⟩) := fun K => run_F (X := X) Ez_ok (rounds36a [] t ht.1) K
  have e2 : ∀ (g : List Int) (K : Exit → TS U → Option (List (TO U) × TV U)), (lpL all36).F 2 (S36 t ⟨g, [], [], [], [], 0⟩ 5 0) K = K (.exit 2) (E36 t ⟨g, t.F.map R82.Type_, [], [], [], 0⟩) := fun g K => run_F (X := X) Ez_ok (rounds36b [] t g ht.2.1) K
  have hb : IrB t ⟨t.G.map R82.Type_, t.F.map R82.Type_, [], [], [], 0⟩ t.N := by
    have := ht.2.2
    exact ⟨by show 0 + _ ≤ _; omega, by show 0 + _ ≤ _; omega, by show 0 + _ ≤ _; omega⟩
  have e4 : ∀ (K : Exit → TS U → Option (List (TO U) × TV U)), (lpL all36).F 4 (S36 t ⟨t.G.map R82.Type_, t.F.map R82.Type_, [], [], [], 0⟩ 6 0) K = K (.exit 4) (E36' (lower t)) := fun K => run_F (X := X) Ez_ok (rounds36c ht t.N _ 0 (Int.le_refl 0) rfl hb) K
  rw [w00, hD0, w0, evC_seq, evC_seq, w2]
  dsimp only
  rw [evC_block, evC_loop, n0]
  dsimp only
  rw [e0]
  dsimp only
  rw [evC_seq, evC_seq, w6]
  dsimp only
  rw [evC_block, evC_loop, n2]
  dsimp only
  rw [e2]
  dsimp only
  rw [evC_seq, evC_seq, w10]
  dsimp only
  rw [evC_block, evC_loop, n4]
  dsimp only
  rw [e4]
  dsimp only
  exact w30 _ (lower t).G (lower t).F (lower t).V (lower t).Fs (lower t).C (lower t).Main
theorem lp36_ok : ∀ c, Try.f36.body = some c → LpOk X Ez an36 (lpL all36) (loops c 0) := lpL_ok (by kernel_rfl) fun b L hm st p hs => by
  cases hm with
  | head => exact run_ok (ag_of (bs := []) (by kernel_rfl) fun i hi => by cases hi) hs
  | tail _ hm => cases hm with
    | head => exact run_ok (ag_of (bs := []) (by kernel_rfl) fun i hi => by cases hi) hs
    | tail _ hm => cases hm with
      | head => exact run_ok (ag_of (bs := [6, 8]) (by kernel_rfl) fun i hi R s K => by
          cases hi with
          | head => rfl
          | tail _ hi => cases hi with
            | head => rfl
            | tail _ hi => cases hi) hs
      | tail _ hm => cases hm with
        | head => exact run_ok (ag_of (bs := []) (by kernel_rfl) fun i hi => by cases hi) hs
        | tail _ hm => cases hm with
          | head => exact run_ok (ag_of (bs := []) (by kernel_rfl) fun i hi => by cases hi) hs
          | tail _ hm => cases hm
noncomputable def sLower : Spc U := .of dT (fun t => TrOk t) (fun _ => []) fun t => irV (lower t)
theorem sLower_ok : SpecOk Try.prog 36 sLower := by
  refine fn_okw wkIR X_ok mixed Ez_ok an36 (lpL all36) Try.func36 (by kernel_rfl) (by kernel_rfl) lp36_ok fun objs args t hx hp => ?_
  obtain ⟨rfl, rfl⟩ := dT_ok hx
  exact e36 hp
end Go.Proofs.Ytgdnomnealjdlaa.Fl

/- A program that is given. -/
namespace Go.Proofs.Ytgdnomnealjdlaa.Fl
open Go Go.RowKit Go.Proofs.Ytgdnomnealjdlaa.Eng
set_option linter.unusedVariables false
set_option linter.unusedSimpArgs false
set_option maxRecDepth 20000
noncomputable def Fa : FuncId → Option (Spc U)
  | 34 => some sParse
  | 35 => some sCheck
  | 36 => some sLower
  | _ => none
theorem Fa_ok : ∀ f S, Fa f = some S → SpecOk Try.prog f S := fun f S h => by
  unfold Fa at h
  split at h
  · cases h; exact sParse_ok
  · cases h; exact sCheck_ok
  · cases h; exact sLower_ok
  · cases h
def an10 : Ann := ⟨fun | 0 => 452 | _ => 0, fun | 0 => 204 | _ => 0, fun _ => [], false⟩
def irOb (o : IRs) : TO U := .cells [.lst .i64 o.G, .lst .i64 o.F, .lst .i64 o.V, .lst .t69 o.Fs, .lst .t65 o.C, .v (.int .i64 o.Main)] false
def S10 (o : IRs) (c : Int × Int) (v : Int) : TS U := mkS 95 [(2, .ref 0 0 0), (6, .v (.int .i64 c.1)), (7, .v (.int .i64 c.2)), (8, .v (.int .i64 v))] [irOb o] 0
def E10 (o : IRs) (c : Int × Int) : Exit × TS U := (.exit 0, mkS 95 [(2, .ref 0 0 0), (6, .v (.int .i64 c.1)), (7, .v (.int .i64 c.2))] [irOb o] 0)
theorem r10 (lp : Lp U) (N : Nat) (o : IRs) (c : Int × Int) (v : Int) : fnLoop X Fa an10 lp Try.f10 0 (N + 1) (S10 o c v) = cond (decide (v < (o.C.length : Int))) ((getI o.C v).bind fun z => cond (decide (z.Op = 6))
      ((getI o.C v).bind fun z => cond (decide (8 ≤ z.Op)) ((getI o.C v).bind fun z => cond (decide (z.Op ≤ 11)) (fnLoop X Fa an10 lp Try.f10 0 N (S10 o (IntKind.i64.wrap (c.1 + 1), IntKind.i64.wrap (c.2 + 1)) (IntKind.i64.wrap (v + 1)))) (fnLoop X Fa an10 lp Try.f10 0 N (S10 o (IntKind.i64.wrap (c.1 + 1), c.2) (IntKind.i64.wrap (v + 1))))) (fnLoop X Fa an10 lp Try.f10 0 N (S10 o (IntKind.i64.wrap (c.1 + 1), c.2) (IntKind.i64.wrap (v + 1)))))
      ((getI o.C v).bind fun z => cond (decide (8 ≤ z.Op)) ((getI o.C v).bind fun z => cond (decide (z.Op ≤ 11)) (fnLoop X Fa an10 lp Try.f10 0 N (S10 o (c.1, IntKind.i64.wrap (c.2 + 1)) (IntKind.i64.wrap (v + 1)))) (fnLoop X Fa an10 lp Try.f10 0 N (S10 o c (IntKind.i64.wrap (v + 1))))) (fnLoop X Fa an10 lp Try.f10 0 N (S10 o c (IntKind.i64.wrap (v + 1)))))) (some (E10 o c)) := by kernel_rfl
def cnt10 (c : Int × Int) (z : R65) : Int × Int := (cond (decide (z.Op = 6)) (c.1 + 1) c.1, cond (decide (8 ≤ z.Op) && decide (z.Op ≤ 11)) (c.2 + 1) c.2)
def cnts (o : IRs) : Int × Int := o.C.foldl cnt10 (0, 0)
theorem cnt10_in (c : Int × Int) (z : R65) : (cnt10 c z).1 ≤ c.1 + 1 ∧ c.1 ≤ (cnt10 c z).1 ∧ (cnt10 c z).2 ≤ c.2 + 1 ∧ c.2 ≤ (cnt10 c z).2 := by
  unfold cnt10
  cases decide (z.Op = 6) <;> cases (decide (8 ≤ z.Op) && decide (z.Op ≤ 11)) <;> dsimp only [cond_true, cond_false] <;> omega
theorem rounds10 (lp : Lp U) (o : IRs) (ho : o.C.length ≤ 3000000) : fnLoop X Fa an10 lp Try.f10 0 (o.C.length + 1) (S10 o (0, 0) 0) = some (E10 o (cnts o)) := by
  have h := ixL_rounds (fnl := fun n st => fnLoop X Fa an10 lp Try.f10 0 n st) (fun c v => S10 o c v) (E10 o) (len := o.C.length) (step := stepI o.C cnt10) (fun c v => 0 ≤ c.1 ∧ c.1 ≤ v ∧ 0 ≤ c.2 ∧ c.2 ≤ v) (fun c v N hc h0 h1 => by
    obtain ⟨z, hz, _⟩ := getI_lt h0 h1
    have hw : IntKind.i64.wrap (v + 1) = v + 1 := wrap_i64 (by omega) (by omega)
    have hw1 : IntKind.i64.wrap (c.1 + 1) = c.1 + 1 := wrap_i64 (by omega) (by omega)
    have hw2 : IntKind.i64.wrap (c.2 + 1) = c.2 + 1 := wrap_i64 (by omega) (by omega)
    have hst : stepI o.C cnt10 c v = cnt10 c z := by unfold stepI; rw [hz]
    have hin := cnt10_in c z
    rw [hst]
    refine ⟨?_, by omega, by omega, by omega, by omega⟩
    dsimp only
    rw [r10, decide_eq_true h1, hz]
    simp only [cond_true, Option.bind_some, hw, hw1, hw2]
    unfold cnt10
    cases decide (z.Op = 6) <;> cases decide (8 ≤ z.Op) <;> cases decide (z.Op ≤ 11) <;> rfl) (fun c v N _ h0 h1 => by dsimp only; rw [r10, decide_eq_false h1]; rfl) o.C.length (0, 0) 0 (Int.le_refl 0) (by omega) ⟨Int.le_refl 0, Int.le_refl 0, Int.le_refl 0, Int.le_refl 0⟩
  rw [ixL_all] at h
  exact h
def IRs.ob (o : IRs) : TO U := irOb o
def d10 (s : TS U) : Option (IRs × Int × Int × Int) := match told s 95 [2, 6, 7, 8] 0, s.objs with
  | some [a0, a1, a2, a3], [o0] =>
    match o0 with
    | .cells [q0, q1, q2, q3, q4, q5] false =>
      match q0 with
      | .lst .i64 o_G =>
        match q1 with
        | .lst .i64 o_F =>
          match q2 with
          | .lst .i64 o_V =>
            match q3 with
            | .lst .t69 o_Fs =>
              match q4 with
              | .lst .t65 o_C =>
                match q5 with
                | .v (.int .i64 o_Main) =>
                  match a0 with
                  | .ref 0 0 0 =>
                    match a1 with
                    | .v (.int .i64 a) =>
                      match a2 with
                      | .v (.int .i64 b) =>
                        match a3 with
                        | .v (.int .i64 v) =>
                          some ((⟨o_G, o_F, o_V, o_Fs, o_C, o_Main⟩ : IRs), a, b, v)
                        | _ => none
                      | _ => none
                    | _ => none
                  | _ => none
                | _ => none
              | _ => none
            | _ => none
          | _ => none
        | _ => none
      | _ => none
    | _ => none
  | _, _ => none
theorem d10_ok {s : TS U} {o : IRs} {a : Int} {b : Int} {v : Int} (h : d10 s = some (o, a, b, v)) : s = mkS (U := U) 95 ([2, 6, 7, 8].zip ([.ref 0 0 0, .v (.int .i64 a), .v (.int .i64 b), .v (.int .i64 v)] : List (TV U))) ([o.ob] : List (TO U)) 0 := by
  unfold d10 at h
  split at h <;> try (cases h; done)
  rename_i ht ho
  have hs := told_ok ht
  rw [ho] at hs
  repeat' split at h
  all_goals first | (cases h; done) | (cases h; exact hs)
def Pre10 (n : Nat) (a b v : Int) : Prop := n ≤ 3000000 ∧ a = 0 ∧ b = 0 ∧ v = 0
instance (n : Nat) (a b v : Int) : Decidable (Pre10 n a b v) := by unfold Pre10; infer_instance
def lc10 : LC U := .of d10 (fun (o, a, b, v) => Pre10 o.C.length a b v) (.exit 0) (fun (o, a, b, v) => (E10 o (cnts o)).2)
def lp10 : Lp U := lpL [(0, lc10)]
theorem lp10_ok : ∀ c, Try.f10.body = some c → LpOk X Fa an10 lp10 (loops c 0) := lpL_ok (by kernel_rfl) fun b L hm st p hs => by
  cases hm with
  | tail _ h => cases h
  | head =>
    obtain ⟨⟨o, a, b, v⟩, hx, ⟨h1, rfl, rfl, rfl⟩, rfl⟩ := LC.of_some hs
    obtain rfl := d10_ok hx
    exact ⟨_, rounds10 _ o h1⟩
def wkG : Lw U := .a [wkIR, .no]
theorem e10 (s : ByteArray) : (evFn X Fa an10 lp10 Try.f10 [] [TV.v (Value.string s)]
  fun (o : List (TO X.U)) (v : TV X.U) => some (o, wkG.f v)) =
  (cutB s none (some (if 3000 < (↑s.size : Int) then 3000 else (↑s.size : Int)))).bind fun (c : ByteArray) =>
  if c.size ≤ 100000 then
    bif !decide ((parseP c).snd.fst = 0) then
      some
        ([],
          TV.tup
            [TV.agg
                [TV.lst C.i64 [], TV.lst C.i64 [], TV.lst C.i64 [], TV.lst C.t69 [], TV.lst C.t65 [],
                  TV.v (Value.int IntKind.i64 0)],
              TV.v (Value.bool false)])
    else
      if TrOk (parseP c).fst then
        bif !decide ((chk (parseP c).fst).Code = 0) then
          some
            ([],
              TV.tup
                [TV.agg
                    [TV.lst C.i64 [], TV.lst C.i64 [], TV.lst C.i64 [], TV.lst C.t69 [], TV.lst C.t65 [],
                      TV.v (Value.int IntKind.i64 0)],
                  TV.v (Value.bool false)])
        else
          if TrOk (parseP c).fst then
            if Pre10 (lower (parseP c).fst).C.length 0 0 0 then
              bif decide ((↑(lower (parseP c).fst).C.length : Int) ≤ 160) then
                bif decide ((cnts (lower (parseP c).fst)).fst ≤ 12) then
                  bif decide ((cnts (lower (parseP c).fst)).snd ≤ 50) then
                    bif decide ((↑(lower (parseP c).fst).V.length : Int) ≤ 60) then
                      bif decide ((↑(lower (parseP c).fst).F.length : Int) ≤ 6) then
                        some
                          ([],
                            TV.tup
                              [irV (lower (parseP c).fst),
                                TV.v (Value.bool (decide ((↑(lower (parseP c).fst).G.length : Int) ≤ 12)))])
                      else some ([], TV.tup [irV (lower (parseP c).fst), TV.v (Value.bool false)])
                    else some ([], TV.tup [irV (lower (parseP c).fst), TV.v (Value.bool false)])
                  else some ([], TV.tup [irV (lower (parseP c).fst), TV.v (Value.bool false)])
                else some ([], TV.tup [irV (lower (parseP c).fst), TV.v (Value.bool false)])
              else some ([], TV.tup [irV (lower (parseP c).fst), TV.v (Value.bool false)])
            else none
          else none
      else none
  else none := by kernel_rfl
theorem lwL_B {t : TR} (ht : TrOk t) : ∀ (r : List R90) (o : IRs) (v : Int), 0 ≤ v → t.N.drop v.toNat = r → IrB t o r → IrB t (lwL t r o v) []
  | [], o, v, h0, hr, ho => ho
  | z :: r, o, v, h0, hr, ho => by
    have hlen : v < (t.N.length : Int) := by
      have := congrArg List.length hr
      rw [List.length_drop, List.length_cons] at this
      omega
    have hx : t.N[v.toNat]? = some t.N[v.toNat] := List.getElem?_eq_getElem (by omega)
    have hd : t.N.drop v.toNat = t.N[v.toNat] :: t.N.drop (v.toNat + 1) := List.drop_eq_getElem_cons (by omega)
    rw [hd] at hr
    injection hr with hz hr
    have hg : getI t.N v = some z := by unfold getI; rw [if_pos h0, hx, hz]
    have hfw : fnW z ≤ 1000000 := by
      have := fnsW_at t.N v.toNat z (by rw [hx, hz])
      have := ht.2.2
      omega
    have hb := (round4 (R := Unit) (K := fun _ _ => none) ht h0 hlen hg ho hfw).2
    rw [lwL]
    exact lwL_B ht r _ (v + 1) (by omega) (by rw [show (v + 1).toNat = v.toNat + 1 by omega]; exact hr) hb
theorem lower_B {t : TR} (ht : TrOk t) : (lower t).V.length ≤ 1000000 ∧ (lower t).C.length ≤ 3000000 ∧ (lower t).Fs.length ≤ 1000000 := by
  have hb : IrB t ⟨t.G.map R82.Type_, t.F.map R82.Type_, [], [], [], 0⟩ t.N := by
    have := ht.2.2
    exact ⟨by show 0 + _ ≤ _; omega, by show 0 + _ ≤ _; omega, by show 0 + _ ≤ _; omega⟩
  obtain ⟨a, b, c⟩ := lwL_B ht t.N _ 0 (Int.le_refl 0) rfl hb
  rw [fnsW] at a b c
  exact ⟨a, b, c⟩
theorem parse_ok {s : ByteArray} (h : s.size ≤ 100000) : TrOk (parseP s).1 := by
  have h0 := ps0_ok h
  have h1 := (progL_ok ((ps0 s).left + 1) (ps0 s) [] [] [] h0).2
  have h2 := h0.left_le
  have h3 := h0.len
  have e : progL ((ps0 s).left + 1) (ps0 s) [] [] [] = progP (ps0 s) := rfl
  rw [e] at h1
  unfold prW at h1
  simp only [List.length_nil, fnsW] at h1
  have hz : TrOk ⟨[], [], []⟩ := ⟨Nat.zero_le _, Nat.zero_le _, Nat.zero_le _⟩
  unfold parseP
  cases lexF s with
  | true => exact hz
  | false =>
    cases !decide ((progP (ps0 s)).q.Code = 0) with
    | true => exact hz
    | false => exact ⟨by show (progP (ps0 s)).g.length ≤ _; omega, by show (progP (ps0 s)).f.length ≤ _; omega, by show fnsW (progP (ps0 s)).n ≤ _; omega⟩
end Go.Proofs.Ytgdnomnealjdlaa.Fl

/- A program that is given, proved; what comes behind an instruction. -/
namespace Go.Proofs.Ytgdnomnealjdlaa.Fl
open Go Go.RowKit Go.Proofs.Ytgdnomnealjdlaa.Eng
set_option linter.unusedVariables false
set_option linter.unusedSimpArgs false
set_option maxRecDepth 20000
def cut3 (s : ByteArray) : ByteArray := (cutB s none (some (if 3000 < (s.size : Int) then 3000 else (s.size : Int)))).getD ⟨#[]⟩
theorem cut3_ok (s : ByteArray) : cutB s none (some (if 3000 < (s.size : Int) then 3000 else (s.size : Int))) = some (cut3 s) ∧ (cut3 s).size ≤ 100000 := by
  have h : ∀ m : Int, 0 ≤ m → m ≤ s.size → m ≤ 3000 → cutB s none (some m) = some (s.extract 0 m.toNat) ∧ (s.extract 0 m.toNat).size ≤ 100000 := fun m h0 h1 h2 => by
    refine ⟨if_pos ⟨h0, h1⟩, ?_⟩
    rw [ByteArray.size_extract]
    omega
  unfold cut3
  split
  · rename_i hm
    obtain ⟨a, b⟩ := h 3000 (by decide) (by omega) (by decide)
    rw [a]
    exact ⟨rfl, b⟩
  · obtain ⟨a, b⟩ := h (s.size : Int) (by omega) (Int.le_refl _) (by omega)
    rw [a]
    exact ⟨rfl, b⟩
def ir0 : IRs := ⟨[], [], [], [], [], 0⟩
def okG (o : IRs) : Bool := decide ((o.C.length : Int) ≤ 160) && (decide ((cnts o).1 ≤ 12) && (decide ((cnts o).2 ≤ 50) && (decide ((o.V.length : Int) ≤ 60) && (decide ((o.F.length : Int) ≤ 6) && decide ((o.G.length : Int) ≤ 12)))))
/-- A program that is given; whether it is one. -/
def given (s : ByteArray) : IRs × Bool := cond (!decide ((parseP (cut3 s)).2.1 = 0)) (ir0, false) (cond (!decide ((chk (parseP (cut3 s)).1).Code = 0)) (ir0, false) (lower (parseP (cut3 s)).1, okG (lower (parseP (cut3 s)).1)))
def sGiven : Spc U := .of dstr (fun _ => True) (fun _ => []) fun s => .tup [irV (given s).1, .v (.bool (given s).2)]
theorem sGiven_ok : SpecOk Try.prog 10 sGiven := by
  refine fn_okw wkG X_ok mixed Fa_ok an10 lp10 Try.func10 (by kernel_rfl) (by kernel_rfl) lp10_ok fun objs args s hp h => ?_
  obtain ⟨rfl, rfl⟩ := dstr_ok hp
  dsimp only
  obtain ⟨h1, h2⟩ := cut3_ok s
  have h3 := parse_ok h2
  have h4 := (lower_B h3).2.1
  refine (e10 s).trans ?_
  rw [h1, Option.bind_some, if_pos h2]
  unfold given okG
  cases decide ((parseP (cut3 s)).2.1 = 0) with
  | false => rfl
  | true =>
    simp only [Bool.not_true, cond_false]
    rw [if_pos h3]
    cases decide ((chk (parseP (cut3 s)).1).Code = 0) with
    | false => rfl
    | true =>
      simp only [Bool.not_true, cond_false]
      rw [if_pos h3, if_pos ⟨h4, rfl, rfl, rfl⟩]
      generalize lower (parseP (cut3 s)).1 = o
      cases decide ((o.C.length : Int) ≤ 160) with
      | false => rfl
      | true =>
        cases decide ((cnts o).1 ≤ 12) with
        | false => rfl
        | true =>
          cases decide ((cnts o).2 ≤ 50) with
          | false => rfl
          | true =>
            cases decide ((o.V.length : Int) ≤ 60) with
            | false => rfl
            | true => cases decide ((o.F.length : Int) ≤ 6) <;> rfl
theorem given_C (s : ByteArray) : (given s).1.C.length ≤ 3000000 := by
  have h := (lower_B (parse_ok (cut3_ok s).2)).2.1
  unfold given
  cases !decide ((parseP (cut3 s)).2.1 = 0) with
  | true => exact Nat.zero_le _
  | false =>
    cases !decide ((chk (parseP (cut3 s)).1).Code = 0) with
    | true => exact Nat.zero_le _
    | false => exact h
theorem given_ok {s : ByteArray} (h : (given s).2 = true) : (given s).1.C.length ≤ 160 := by
  unfold given at h ⊢
  revert h
  cases !decide ((parseP (cut3 s)).2.1 = 0) with
  | true => intro h; cases h
  | false =>
    cases !decide ((chk (parseP (cut3 s)).1).Code = 0) with
    | true => intro h; cases h
    | false =>
      intro h
      have h : okG (lower (parseP (cut3 s)).1) = true := h
      unfold okG at h
      rw [Bool.and_eq_true] at h
      have := of_decide_eq_true h.1
      show (lower (parseP (cut3 s)).1).C.length ≤ 160
      omega
def wkL : Lw U := .l .i64
def an13 : Ann := ⟨fun _ => 0, fun _ => 0, fun _ => [], false⟩
def an14 : Ann := ⟨fun _ => 0, fun _ => 0, fun _ => [], false⟩
theorem e13 (o : IRs) (n : Int) : (evFn X (fun (x : FuncId) => none) an13 lp0 Try.f13 []
  [irV o, TV.v (Value.int IntKind.i64 n)] fun (o : List (TO X.U)) (v : TV X.U) => some (o, wkL.f v)) =
  bif decide (n < 0) then some ([], TV.lst C.i64 [])
else
  bif decide ((↑o.C.length : Int) ≤ n) then some ([], TV.lst C.i64 [])
  else
    (getI o.C n).bind fun (z : X.U.T C.t65) =>
      bif decide (z.Op = 16) then some ([], TV.lst C.i64 [])
      else
        bif decide (z.Op = 17) then some ([], TV.lst C.i64 [z.B])
        else
          bif decide (z.Op = 18) then
            bif decide (z.B = z.C) then some ([], TV.lst C.i64 [z.B]) else some ([], TV.lst C.i64 [z.B, z.C])
          else some ([], TV.lst C.i64 [IntKind.i64.wrap (n + 1)]) := by kernel_rfl
theorem e14 (o : IRs) (n : Int) : (evFn X (fun (x : FuncId) => none) an14 lp0 Try.f14 []
  [irV o, TV.v (Value.int IntKind.i64 n)] fun (o : List (TO X.U)) (v : TV X.U) => some (o, wkL.f v)) =
  bif decide (n < 0) then some ([], TV.lst C.i64 [])
else
  bif decide ((↑o.C.length : Int) ≤ n) then some ([], TV.lst C.i64 [])
  else
    (getI o.C n).bind fun (z : X.U.T C.t65) =>
      bif decide (z.Op = 16) then some ([], TV.lst C.i64 [])
      else
        bif decide (z.Op = 17) then some ([], TV.lst C.i64 [z.B])
        else
          bif decide (z.Op = 18) then
            bif !decide (z.B = z.C) then some ([], TV.lst C.i64 [z.B, z.C]) else some ([], TV.lst C.i64 [z.B])
          else some ([], TV.lst C.i64 [IntKind.i64.wrap (n + 1)]) := by kernel_rfl
end Go.Proofs.Ytgdnomnealjdlaa.Fl

/- What a function comes to, told by cases. -/
namespace Go.Proofs.Ytgdnomnealjdlaa.Eng
open Go Go.RowKit
set_option linter.unusedVariables false
def Spc.ofG {U : Univ} {A : Type} (d : List (TO U) → List (TV U) → Option A) (pre : A → Prop) [DecidablePred pre] (G : {R : Type} → A → (List (TO U) → TV U → Option R) → Option R) (o : A → List (TO U)) (v : A → TV U) (hG : ∀ {R : Type} (x : A) (k : List (TO U) → TV U → Option R), G x k = k (o x) (v x)) : Spc U := ⟨fun objs args k => match d objs args with
  | some x => if pre x then G x k else none
  | none => none⟩
theorem SpecOk.ofG {P : Program} {U : Univ} {fid : FuncId} {S0 : Spc U} (h0 : SpecOk P fid S0) {A : Type} {d : List (TO U) → List (TV U) → Option A} {pre : A → Prop} [DecidablePred pre] {G : {R : Type} → A → (List (TO U) → TV U → Option R) → Option R} {o : A → List (TO U)} {v : A → TV U} (hG : ∀ {R : Type} (x : A) (k : List (TO U) → TV U → Option R), G x k = k (o x) (v x))
    (h : ∀ objs args x, d objs args = some x → pre x → S0.F objs args (fun o v => some (o, v)) = some (o x, v x)) : SpecOk P fid (Spc.ofG d pre G o v hG) := by
  refine SpecOk.of_ev h0 (fun objs args => ?_) fun objs args o' v' h' => ?_
  · intro R k r h'
    unfold Spc.ofG at h' ⊢
    dsimp only at h' ⊢
    cases hd : d objs args with
    | none => rw [hd] at h'; cases h'
    | some x =>
      rw [hd] at h'
      dsimp only at h' ⊢
      split at h' <;> try (cases h'; done)
      rename_i hp
      rw [hG] at h'
      exact ⟨_, _, h', fun k' => by rw [if_pos hp, hG]⟩
  · unfold Spc.ofG at h'
    dsimp only at h'
    cases hd : d objs args with
    | none => rw [hd] at h'; cases h'
    | some x =>
      rw [hd] at h'
      dsimp only at h'
      split at h' <;> try (cases h'; done)
      rename_i hp
      rw [hG] at h'
      cases h'
      exact h _ _ _ hd hp
theorem fn_okG {P : Program} {X : Cx} (hX : CxOk P X) (hm : P.follows .mixedOrders = true) {E : FuncId → Option (Spc X.U)} (hE : ∀ f S, E f = some S → SpecOk P f S) (an : Ann) (lp : Lp X.U) {fid : FuncId} {fn : Func} (hf : P.funcs[fid]? = some fn) (hname : (fn.name == "runtime.NumGoroutine") = false) (hcode : (match fn.body with | some c => codeOk fn.ntmps c | none => false) = true)
    (hL : ∀ c, fn.body = some c → LpOk X E an lp (loops c 0)) {A : Type} {d : List (TO X.U) → List (TV X.U) → Option A} {pre : A → Prop} [DecidablePred pre] {G : {R : Type} → A → (List (TO X.U) → TV X.U → Option R) → Option R} {o : A → List (TO X.U)} {v : A → TV X.U} (hG : ∀ {R : Type} (x : A) (k : List (TO X.U) → TV X.U → Option R), G x k = k (o x) (v x))
    (h : ∀ objs args x, d objs args = some x → pre x → evFn X E an lp fn objs args (fun o v => some (o, v)) = some (o x, v x)) : SpecOk P fid (Spc.ofG d pre G o v hG) :=
  SpecOk.ofG (specFn_ok hX hm hE an lp hf hname hcode hL) hG h
end Go.Proofs.Ytgdnomnealjdlaa.Eng

/- What comes behind an instruction; lists that are the same. -/
namespace Go.Proofs.Ytgdnomnealjdlaa.Fl
open Go Go.RowKit Go.Proofs.Ytgdnomnealjdlaa.Eng
set_option linter.unusedVariables false
set_option linter.unusedSimpArgs false
set_option maxRecDepth 20000
def IRs.tv (o : IRs) : TV U := irV o
def dIi (objs : List (TO U)) (args : List (TV U)) : Option (IRs × Int) := match objs, args with
  | [], [a0, a1] =>
    match a0 with
    | .agg [q0, q1, q2, q3, q4, q5] =>
      match q0 with
      | .lst .i64 o_G =>
        match q1 with
        | .lst .i64 o_F =>
          match q2 with
          | .lst .i64 o_V =>
            match q3 with
            | .lst .t69 o_Fs =>
              match q4 with
              | .lst .t65 o_C =>
                match q5 with
                | .v (.int .i64 o_Main) =>
                  match a1 with
                  | .v (.int .i64 n) =>
                    some ((⟨o_G, o_F, o_V, o_Fs, o_C, o_Main⟩ : IRs), n)
                  | _ => none
                | _ => none
              | _ => none
            | _ => none
          | _ => none
        | _ => none
      | _ => none
    | _ => none
  | _, _ => none
theorem dIi_ok {objs : List (TO U)} {args : List (TV U)} {o : IRs} {n : Int} (h : dIi objs args = some (o, n)) : objs = [] ∧ args = [o.tv, .v (.int .i64 n)] := by
  unfold dIi at h
  repeat' split at h
  all_goals first | (cases h; done) | (cases h; exact ⟨rfl, rfl⟩)
/-- What comes behind an instruction. -/
def nx (o : IRs) (n : Int) : List Int := cond (decide (n < 0)) [] (cond (decide ((o.C.length : Int) ≤ n)) [] (match getI o.C n with
  | some z => cond (decide (z.Op = 16)) [] (cond (decide (z.Op = 17)) [z.B] (cond (decide (z.Op = 18)) (cond (decide (z.B = z.C)) [z.B] [z.B, z.C]) [IntKind.i64.wrap (n + 1)]))
  | none => []))
def sNx : Spc U := .of dIi (fun _ => True) (fun _ => []) fun (o, n) => .lst .i64 (nx o n)
theorem nx_get {o : IRs} {n : Int} (h1 : decide (n < 0) = false) (h2 : decide ((o.C.length : Int) ≤ n) = false) : ∃ z, getI o.C n = some z := by
  have h1 := of_decide_eq_false h1
  have h2 := of_decide_eq_false h2
  obtain ⟨z, hz, _⟩ := getI_lt (l := o.C) (v := n) (by omega) (by omega)
  exact ⟨z, hz⟩
theorem sNx13_ok : SpecOk Try.prog 13 sNx := by
  refine fn_okw wkL X_ok mixed E0_ok an13 lp0 Try.func13 (by kernel_rfl) (by kernel_rfl) (lp0_ok (by kernel_rfl)) fun objs args x hx hp => ?_
  obtain ⟨o, n⟩ := x
  obtain ⟨rfl, rfl⟩ := dIi_ok hx
  dsimp only
  refine (e13 o n).trans ?_
  unfold nx
  cases h1 : decide (n < 0) with
  | true => rfl
  | false =>
    cases h2 : decide ((o.C.length : Int) ≤ n) with
    | true => rfl
    | false =>
      obtain ⟨z, hz⟩ := nx_get h1 h2
      rw [hz]
      simp only [cond_false, Option.bind_some]
      cases decide (z.Op = 16) <;> cases decide (z.Op = 17) <;> cases decide (z.Op = 18) <;> cases decide (z.B = z.C) <;> rfl
theorem sNx14_ok : SpecOk Try.prog 14 sNx := by
  refine fn_okw wkL X_ok mixed E0_ok an14 lp0 Try.func14 (by kernel_rfl) (by kernel_rfl) (lp0_ok (by kernel_rfl)) fun objs args x hx hp => ?_
  obtain ⟨o, n⟩ := x
  obtain ⟨rfl, rfl⟩ := dIi_ok hx
  dsimp only
  refine (e14 o n).trans ?_
  unfold nx
  cases h1 : decide (n < 0) with
  | true => rfl
  | false =>
    cases h2 : decide ((o.C.length : Int) ≤ n) with
    | true => rfl
    | false =>
      obtain ⟨z, hz⟩ := nx_get h1 h2
      rw [hz]
      simp only [cond_false, Option.bind_some]
      cases decide (z.Op = 16) <;> cases decide (z.Op = 17) <;> cases decide (z.Op = 18) <;> cases decide (z.B = z.C) <;> rfl
/-! ### One's own -/
def an13o : Ann := ⟨fun _ => 0, fun _ => 0, fun _ => [], true⟩
theorem e13o (o : IRs) (n : Int) : (evFn X (fun (x : FuncId) => none) an13o lp0 Try.f13 []
  [irV o, TV.v (Value.int IntKind.i64 n)] fun (o : List (TO X.U)) (v : TV X.U) => some (o, v)) =
  bif decide (n < 0) then some ([], TV.v (Value.slice none 0 0))
else
  bif decide ((↑o.C.length : Int) ≤ n) then some ([], TV.v (Value.slice none 0 0))
  else
    (getI o.C n).bind fun (z : X.U.T C.t65) =>
      bif decide (z.Op = 16) then some ([], TV.v (Value.slice none 0 0))
      else
        bif decide (z.Op = 17) then some ([TO.row C.i64 [z.B] false], TV.full 0)
        else
          bif decide (z.Op = 18) then
            bif decide (z.B = z.C) then some ([TO.row C.i64 [z.B] false], TV.full 0)
            else some ([TO.row C.i64 [z.B, z.C] false], TV.full 0)
          else some ([TO.row C.i64 [IntKind.i64.wrap (n + 1)] false], TV.full 0) := by kernel_rfl
def an12 : Ann := ⟨fun | 0 => 35 | _ => 0, fun | 0 => 16 | _ => 0, fun _ => [], false⟩
def nxO (o : IRs) (n : Int) : List (TO U) × TV U := (rwI (nx o n), nvl (nx o n) 0)
def sNxO : Spc U := .ofG dIi (fun _ => True) (fun (o, n) k => lsp (nx o n) fun l => k (rwI l) (nvl l 0)) (fun (o, n) => rwI (nx o n)) (fun (o, n) => nvl (nx o n) 0) fun x k => lsp_eq _ _
theorem sNxO_ok : SpecOk Try.prog 13 sNxO := by
  refine fn_okG X_ok mixed E0_ok an13o lp0 Try.func13 (by kernel_rfl) (by kernel_rfl) (lp0_ok (by kernel_rfl)) (fun x k => lsp_eq _ _) fun objs args x hx hp => ?_
  obtain ⟨o, n⟩ := x
  obtain ⟨rfl, rfl⟩ := dIi_ok hx
  dsimp only
  refine (e13o o n).trans ?_
  unfold nx
  cases h1 : decide (n < 0) with
  | true => rfl
  | false =>
    cases h2 : decide ((o.C.length : Int) ≤ n) with
    | true => rfl
    | false =>
      obtain ⟨z, hz⟩ := nx_get h1 h2
      rw [hz]
      simp only [cond_false, Option.bind_some]
      cases decide (z.Op = 16) <;> cases decide (z.Op = 17) <;> cases decide (z.Op = 18) <;> cases decide (z.B = z.C) <;> rfl
/-! ### The same? -/
theorem eq_rounds {T B : Type} {fnl : Nat → T → Option B} {S : Int → T} {rt ex : B} {a b : List Int} (ha : a.length ≤ 3000000) (hab : a.length = b.length)
    (hin : ∀ (N : Nat) (v : Int) (x y : Int), 0 ≤ v → v < (a.length : Int) → getI a v = some x → getI b v = some y → fnl (N + 1) (S v) = cond (!decide (x = y)) (some rt) (fnl N (S (IntKind.i64.wrap (v + 1)))))
    (hout : ∀ (N : Nat) (v : Int), ¬ v < (a.length : Int) → fnl (N + 1) (S v) = some ex) : ∀ (N : Nat) (v : Int), 0 ≤ v → (a.length : Int) ≤ v + N → fnl (N + 1) (S v) = some (cond (decide (a.drop v.toNat = b.drop v.toNat)) ex rt) := by
  intro N
  induction N with
  | zero =>
    intro v h0 h1
    rw [hout 0 v (by omega), List.drop_eq_nil_of_le (by omega), List.drop_eq_nil_of_le (by omega)]
    rfl
  | succ N ih =>
    intro v h0 h1
    by_cases hv : v < (a.length : Int)
    · obtain ⟨x, hx, hx2⟩ := getI_lt (l := a) h0 hv
      obtain ⟨y, hy, hy2⟩ := getI_lt (l := b) h0 (by omega)
      have hw : IntKind.i64.wrap (v + 1) = v + 1 := wrap_i64 (by omega) (by omega)
      have ea : a.drop v.toNat = x :: a.drop (v.toNat + 1) := by
        rw [List.drop_eq_getElem_cons (by omega)]
        rw [List.getElem?_eq_getElem (by omega)] at hx2
        rw [Option.some.inj hx2]
      have eb : b.drop v.toNat = y :: b.drop (v.toNat + 1) := by
        rw [List.drop_eq_getElem_cons (by omega)]
        rw [List.getElem?_eq_getElem (by omega)] at hy2
        rw [Option.some.inj hy2]
      rw [hin (N + 1) v x y h0 hv hx hy, hw, ih (v + 1) (by omega) (by omega), ea, eb, show (v + 1).toNat = v.toNat + 1 by omega]
      by_cases hxy : x = y
      · subst hxy
        simp
      · simp [hxy]
    · rw [hout (N + 1) v hv, List.drop_eq_nil_of_le (by omega), List.drop_eq_nil_of_le (by omega)]
      rfl
def S12 (a b : List Int) (v : Int) : TS U := mkS 26 [(0, .lst .i64 a), (1, .lst .i64 b), (5, .v (.int .i64 v))] [] 0
def S12o (a b : List Int) (v : Int) : TS U := mkS 26 [(0, .lst .i64 a), (1, .full 0), (5, .v (.int .i64 v))] [.row .i64 b false] 1
theorem r12 (lp : Lp U) (N : Nat) (a b : List Int) (v : Int) : fnLoop X (fun _ => none) an12 lp Try.f12 0 (N + 1) (S12 a b v) = cond (decide (v < (a.length : Int))) ((getI a v).bind fun x => (getI b v).bind fun y => cond (!decide (x = y)) (some (.ret, mkS 26 [(4, .v (.bool false))] [] 0)) (fnLoop X (fun _ => none) an12 lp Try.f12 0 N (S12 a b (IntKind.i64.wrap (v + 1))))) (some (.exit 0, mkS 26 [] [] 0)) := by kernel_rfl
def Z12o (b : List Int) : Exit × TS U := (.exit 0, mkS 26 [] [.row .i64 b false] 1)
def Y12o (b : List Int) : Exit × TS U := (.ret, mkS 26 [(4, .v (.bool false))] [.row .i64 b false] 1)
theorem r12o (lp : Lp U) (N : Nat) (a b : List Int) (v : Int) : fnLoop X (fun _ => none) an12 lp Try.f12 0 (N + 1) (S12o a b v) = cond (decide (v < (a.length : Int))) ((getI a v).bind fun x => if 0 ≤ v ∧ v < (b.length : Int) then b[v.toNat]?.bind fun y => cond (!decide (x = y)) (some (Y12o b)) (fnLoop X (fun _ => none) an12 lp Try.f12 0 N (S12o a b (IntKind.i64.wrap (v + 1)))) else none) (some (Z12o b)) := by kernel_rfl
theorem rounds12 (lp : Lp U) {a b : List Int} (ha : a.length ≤ 3000000) (hab : a.length = b.length) : fnLoop X (fun _ => none) an12 lp Try.f12 0 (a.length + 1) (S12 a b 0) = some (cond (decide (a = b)) (.exit 0, mkS 26 [] [] 0) (.ret, mkS 26 [(4, .v (.bool false))] [] 0)) :=
  eq_rounds (fnl := fun n st => fnLoop X (fun _ => none) an12 lp Try.f12 0 n st) (S := S12 a b) ha hab (fun N v x y h0 h1 hx hy => by dsimp only; rw [r12, decide_eq_true h1, hx, hy]; rfl) (fun N v h => by dsimp only; rw [r12, decide_eq_false h]; rfl) a.length 0 (Int.le_refl 0) (by omega)
theorem rounds12o (lp : Lp U) {a b : List Int} (ha : a.length ≤ 3000000) (hab : a.length = b.length) : fnLoop X (fun _ => none) an12 lp Try.f12 0 (a.length + 1) (S12o a b 0) = some (cond (decide (a = b)) (Z12o b) (Y12o b)) :=
  eq_rounds (fnl := fun n st => fnLoop X (fun _ => none) an12 lp Try.f12 0 n st) (S := S12o a b) ha hab (fun N v x y h0 h1 hx hy => by
    have hy' : b[v.toNat]? = some y := by unfold getI at hy; rw [if_pos h0] at hy; exact hy
    dsimp only
    rw [r12o, decide_eq_true h1, hx, cond_true, Option.bind_some, if_pos ⟨h0, by omega⟩, hy']
    rfl) (fun N v h => by dsimp only; rw [r12o, decide_eq_false h]; rfl) a.length 0 (Int.le_refl 0) (by omega)
def dLL (objs : List (TO U)) (args : List (TV U)) : Option (List Int × List Int) := match objs, args with
  | [], [a0, a1] =>
    match a0 with
    | .lst .i64 a =>
      match a1 with
      | .lst .i64 b =>
        some (a, b)
      | _ => none
    | _ => none
  | _, _ => none
theorem dLL_ok {objs : List (TO U)} {args : List (TV U)} {a : List Int} {b : List Int} (h : dLL objs args = some (a, b)) : objs = [] ∧ args = [.lst .i64 a, .lst .i64 b] := by
  unfold dLL at h
  repeat' split at h
  all_goals first | (cases h; done) | (cases h; exact ⟨rfl, rfl⟩)
def dLO (objs : List (TO U)) (args : List (TV U)) : Option (List Int × List Int) := match objs, args with
  | [o0], [a0, a1] =>
    match o0 with
    | .row .i64 b false =>
      match a0 with
      | .lst .i64 a =>
        match a1 with
        | .full 0 =>
          some (b, a)
        | _ => none
      | _ => none
    | _ => none
  | _, _ => none
theorem dLO_ok {objs : List (TO U)} {args : List (TV U)} {b : List Int} {a : List Int} (h : dLO objs args = some (b, a)) : objs = [.row .i64 b false] ∧ args = [.lst .i64 a, .full 0] := by
  unfold dLO at h
  repeat' split at h
  all_goals first | (cases h; done) | (cases h; exact ⟨rfl, rfl⟩)
def dl12 (s : TS U) : Option (List Int × List Int × Int) := match told s 26 [0, 1, 5] 0, s.objs with
  | some [a0, a1, a2], [] =>
    match a0 with
    | .lst .i64 a =>
      match a1 with
      | .lst .i64 b =>
        match a2 with
        | .v (.int .i64 v) =>
          some (a, b, v)
        | _ => none
      | _ => none
    | _ => none
  | _, _ => none
theorem dl12_ok {s : TS U} {a : List Int} {b : List Int} {v : Int} (h : dl12 s = some (a, b, v)) : s = mkS (U := U) 26 ([0, 1, 5].zip ([.lst .i64 a, .lst .i64 b, .v (.int .i64 v)] : List (TV U))) ([] : List (TO U)) 0 := by
  unfold dl12 at h
  split at h <;> try (cases h; done)
  rename_i ht ho
  have hs := told_ok ht
  rw [ho] at hs
  repeat' split at h
  all_goals first | (cases h; done) | (cases h; exact hs)
def dl12o (s : TS U) : Option (List Int × List Int × Int) := match told s 26 [0, 1, 5] 1, s.objs with
  | some [a0, a1, a2], [o0] =>
    match o0 with
    | .row .i64 b false =>
      match a0 with
      | .lst .i64 a =>
        match a1 with
        | .full 0 =>
          match a2 with
          | .v (.int .i64 v) =>
            some (b, a, v)
          | _ => none
        | _ => none
      | _ => none
    | _ => none
  | _, _ => none
theorem dl12o_ok {s : TS U} {b : List Int} {a : List Int} {v : Int} (h : dl12o s = some (b, a, v)) : s = mkS (U := U) 26 ([0, 1, 5].zip ([.lst .i64 a, .full 0, .v (.int .i64 v)] : List (TV U))) ([.row .i64 b false] : List (TO U)) 1 := by
  unfold dl12o at h
  split at h <;> try (cases h; done)
  rename_i ht ho
  have hs := told_ok ht
  rw [ho] at hs
  repeat' split at h
  all_goals first | (cases h; done) | (cases h; exact hs)
def Pre12 (n m : Nat) (v : Int) : Prop := n ≤ 3000000 ∧ n = m ∧ v = 0
instance (n m : Nat) (v : Int) : Decidable (Pre12 n m v) := by unfold Pre12; infer_instance
def eqI (a b : List Int) : Bool := decide (a = b)
def lc12 : LC U := .of2 dl12 (fun (a, b, v) => Pre12 a.length b.length v) (fun (a, b, v) => eqI a b) (.exit 0) (fun _ => mkS 26 [] [] 0) .ret (fun _ => mkS 26 [(4, .v (.bool false))] [] 0)
def lc12o : LC U := .of2 dl12o (fun (b, a, v) => Pre12 a.length b.length v) (fun (b, a, v) => eqI a b) (.exit 0) (fun (b, a, v) => mkS 26 [] [.row .i64 b false] 1) .ret (fun (b, a, v) => mkS 26 [(4, .v (.bool false))] [.row .i64 b false] 1)
theorem lp12_ok : ∀ c, Try.f12.body = some c → LpOk X (fun _ => none) an12 (lpL [(0, lc12)]) (loops c 0) := lpL_ok (by kernel_rfl) fun b L hm st p hs => by
  cases hm with
  | tail _ h => cases h
  | head =>
    obtain ⟨⟨a, b, v⟩, hx, ⟨h1, h2, rfl⟩, rfl⟩ := LC.of2_some hs
    obtain rfl := dl12_ok hx
    exact ⟨_, rounds12 _ h1 h2⟩
theorem lp12o_ok : ∀ c, Try.f12.body = some c → LpOk X (fun _ => none) an12 (lpL [(0, lc12o)]) (loops c 0) := lpL_ok (by kernel_rfl) fun b L hm st p hs => by
  cases hm with
  | tail _ h => cases h
  | head =>
    obtain ⟨⟨b, a, v⟩, hx, ⟨h1, h2, rfl⟩, rfl⟩ := LC.of2_some hs
    obtain rfl := dl12o_ok hx
    exact ⟨_, rounds12o _ h1 h2⟩
theorem e12 (a : List
  Int) (b : List
  Int) : (evFn X (fun (x : FuncId) => none) an12 (lpL [(0, lc12)]) Try.f12 [] [TV.lst C.i64 a, TV.lst C.i64 b]
  fun (o : List (TO X.U)) (v : TV X.U) => some (o, v)) =
  bif !decide ((↑a.length : Int) = (↑b.length : Int)) then some ([], TV.v (Value.bool false))
else
  if Pre12 a.length b.length 0 then
    bif eqI a b then some ([], TV.v (Value.bool true)) else some ([], TV.v (Value.bool false))
  else none := by kernel_rfl
theorem e12o (a : List
  Int) (b : List
  Int) : (evFn X (fun (x : FuncId) => none) an12 (lpL [(0, lc12o)]) Try.f12 [TO.row C.i64 b false]
  [TV.lst C.i64 a, TV.full 0] fun (o : List (TO X.U)) (v : TV X.U) => some (o, v)) =
  bif !decide ((↑a.length : Int) = (↑b.length : Int)) then some ([TO.row C.i64 b false], TV.v (Value.bool false))
else
  if Pre12 a.length b.length 0 then
    bif eqI a b then some ([TO.row C.i64 b false], TV.v (Value.bool true))
    else some ([TO.row C.i64 b false], TV.v (Value.bool false))
  else none := by kernel_rfl
def sInts : Spc U := .of dLL (fun (a, b) => Sn a.length) (fun _ => []) fun (a, b) => .v (.bool (eqI a b))
def sIntsO : Spc U := .of dLO (fun (b, a) => Sn a.length) (fun (b, a) => [.row .i64 b false]) fun (b, a) => .v (.bool (eqI a b))
theorem eqI_ne {a b : List Int} (h : ¬ (a.length : Int) = (b.length : Int)) : eqI a b = false := decide_eq_false fun e => h (by rw [e])
theorem sInts_ok : SpecOk Try.prog 12 sInts := by
  refine fn_ok X_ok mixed E0_ok an12 (lpL [(0, lc12)]) Try.func12 (by kernel_rfl) (by kernel_rfl) lp12_ok fun objs args x hx hp => ?_
  obtain ⟨a, b⟩ := x
  obtain ⟨rfl, rfl⟩ := dLL_ok hx
  dsimp only at hp ⊢
  refine (e12 a b).trans ?_
  by_cases h : (a.length : Int) = (b.length : Int)
  · rw [decide_eq_true h]
    simp only [Bool.not_true, cond_false]
    rw [if_pos ⟨hp, by omega, rfl⟩]
    cases eqI a b <;> rfl
  · rw [decide_eq_false h, eqI_ne h]; rfl
theorem sIntsO_ok : SpecOk Try.prog 12 sIntsO := by
  refine fn_ok X_ok mixed E0_ok an12 (lpL [(0, lc12o)]) Try.func12 (by kernel_rfl) (by kernel_rfl) lp12o_ok fun objs args x hx hp => ?_
  obtain ⟨b, a⟩ := x
  obtain ⟨rfl, rfl⟩ := dLO_ok hx
  dsimp only at hp ⊢
  refine (e12o a b).trans ?_
  by_cases h : (a.length : Int) = (b.length : Int)
  · rw [decide_eq_true h]
    simp only [Bool.not_true, cond_false]
    rw [if_pos ⟨hp, by omega, rfl⟩]
    cases eqI a b <;> rfl
  · rw [decide_eq_false h, eqI_ne h]; rfl
end Go.Proofs.Ytgdnomnealjdlaa.Fl

/- What one comes to. -/
namespace Go.Proofs.Ytgdnomnealjdlaa.Fl
open Go Go.RowKit Go.Proofs.Ytgdnomnealjdlaa.Eng
set_option linter.unusedVariables false
set_option linter.unusedSimpArgs false
set_option maxRecDepth 20000
def Fb : FuncId → Option (Spc U)
  | 13 => some sNxO
  | _ => none
theorem Fb_ok : ∀ f S, Fb f = some S → SpecOk Try.prog f S := fun f S h => by
  unfold Fb at h
  split at h
  · cases h; exact sNxO_ok
  · cases h
def an37 : Ann := ⟨fun | 0 => 100 | _ => 0, fun | 0 => 48 | _ => 0, fun _ => [], false⟩
def S37 (o : IRs) (out : List Bool) (w : List Int) : TS U := mkS 52 [(2, .ref 0 0 0), (5, .full 1), (6, .full 2)] [irOb o, .row .bool out false, .row .i64 w false] 0
def S37n (o : IRs) (out : List Bool) : TS U := mkS 52 [(2, .ref 0 0 0), (5, .full 1), (6, nl)] [irOb o, .row .bool out false] 0
theorem r37 (lp : Lp
  U) (N : Nat) (o : IRs) (out : List Bool) (w : List Int) : (fnLoop X Fb an37 lp Try.f37 0 N.succ (S37 o out w)) =
  bif decide (0 < (↑w.length : Int)) then
  if 0 ≤ IntKind.i64.wrap ((↑w.length : Int) - 1) ∧ IntKind.i64.wrap ((↑w.length : Int) - 1) < (↑w.length : Int) then
    w[(IntKind.i64.wrap ((↑w.length : Int) - 1)).toNat]?.bind fun (y : X.U.T C.i64) =>
      (cutI w none (some (IntKind.i64.wrap ((↑w.length : Int) - 1)))).bind fun (ys : List (X.U.T C.i64)) =>
        bif decide (y < 0) then fnLoop X Fb an37 lp Try.f37 0 N (S37 o out ys)
        else
          bif decide ((↑out.length : Int) ≤ y) then fnLoop X Fb an37 lp Try.f37 0 N (S37 o out ys)
          else
            if 0 ≤ y ∧ y < (↑out.length : Int) then
              out[Int.toNat y]?.bind fun (y_1 : X.U.T C.bool) =>
                bif y_1 then fnLoop X Fb an37 lp Try.f37 0 N (S37 o out ys)
                else
                  if 0 ≤ y ∧ y < (↑out.length : Int) then
                    out[Int.toNat y]?.bind fun (z : X.U.T C.bool) =>
                      if True then
                        bif (nx o y).isEmpty then
                          if (ys.length + 0) * 8 ≤ 140737488355328 then
                            fnLoop X Fb an37 lp Try.f37 0 N (S37 o (out.set (Int.toNat y) true) (ys ++ []))
                          else none
                        else
                          (unc (nx o y)).bind fun (x : Int × List Int) =>
                            if (ys.length + (x.fst :: x.snd).length) * 8 ≤ 140737488355328 then
                              fnLoop X Fb an37 lp Try.f37 0 N
                                (S37 o (out.set (Int.toNat y) true) (ys ++ x.fst :: x.snd))
                            else none
                      else none
                  else none
            else none
  else none
else some (Exit.exit 0, mkS 52 [(5, TV.full 0)] [TO.row C.bool out false] 0) := by kernel_rfl
theorem r37n (lp : Lp U) (N : Nat) (o : IRs) (out : List Bool) : (fnLoop X Fb an37 lp Try.f37 0 N.succ (S37n o out)) =
  some (Exit.exit 0, mkS 52 [(5, TV.full 0)] [TO.row C.bool out false] 0) := by kernel_rfl
/-- What is marked from a list of things to look at on. -/
def rcL (o : IRs) : Nat → List Bool → List Int → List Bool
  | 0, out, _ => out
  | N + 1, out, w => match w[w.length - 1]? with
    | none => out
    | some y => cond (decide (y < 0)) (rcL o N out (w.take (w.length - 1))) (cond (decide ((out.length : Int) ≤ y)) (rcL o N out (w.take (w.length - 1))) (match out[y.toNat]? with
      | some true => rcL o N out (w.take (w.length - 1))
      | some false => rcL o N (out.set y.toNat true) (w.take (w.length - 1) ++ nx o y)
      | none => out))
/-- How many are not marked. -/
def nf : List Bool → Nat
  | [] => 0
  | b :: l => cond b 0 1 + nf l
theorem nf_le : ∀ l : List Bool, nf l ≤ l.length
  | [] => Nat.le_refl _
  | b :: l => by
    have := nf_le l
    rw [nf, List.length_cons]
    cases b <;> simp only [cond_true, cond_false] <;> omega
theorem nf_set : ∀ (l : List Bool) (k : Nat), l[k]? = some false → nf (l.set k true) + 1 = nf l
  | [], k, h => by simp at h
  | b :: l, 0, h => by
    simp at h
    subst h
    rw [List.set_cons_zero, nf, nf]
    simp only [cond_true, cond_false]
    omega
  | b :: l, k + 1, h => by
    have := nf_set l k (by simpa using h)
    rw [List.set_cons_succ, nf, nf]
    omega
theorem nx_len (o : IRs) (n : Int) : (nx o n).length ≤ 2 := by
  unfold nx
  cases decide (n < 0) with
  | true => exact Nat.zero_le _
  | false =>
    cases decide ((o.C.length : Int) ≤ n) with
    | true => exact Nat.zero_le _
    | false =>
      simp only [cond_false]
      split
      · rename_i z _
        cases decide (z.Op = 16) <;> cases decide (z.Op = 17) <;> cases decide (z.Op = 18) <;> cases decide (z.B = z.C) <;> simp only [cond_true, cond_false, List.length_cons, List.length_nil] <;> omega
      · exact Nat.zero_le _
def E37 (out : List Bool) : Exit × TS U := (.exit 0, mkS 52 [(5, .full 0)] [.row .bool out false] 0)
theorem rounds37 (lp : Lp U) (o : IRs) : ∀ (N : Nat) (out : List Bool) (w : List Int), w.length + 3 * nf out ≤ N → N ≤ 100000000 →
    fnLoop X Fb an37 lp Try.f37 0 (N + 1) (S37 o out w) = some (E37 (rcL o (N + 1) out w)) := by
  intro N
  induction N with
  | zero =>
    intro out w h0 h1
    obtain rfl : w = [] := List.length_eq_zero_iff.1 (by omega)
    rw [r37]
    rfl
  | succ N ih =>
    intro out w h0 h1
    rw [r37, rcL]
    by_cases hw : w = []
    · subst hw; rfl
    · have hpos : 0 < w.length := List.length_pos_iff.2 hw
      have hwr : IntKind.i64.wrap ((w.length : Int) - 1) = (w.length : Int) - 1 := wrap_i64 (by omega) (by omega)
      have hx : w[w.length - 1]? = some w[w.length - 1] := List.getElem?_eq_getElem (by omega)
      have hcut : cutI w none (some ((w.length : Int) - 1)) = some (w.take (w.length - 1)) := by
        have : cutI w none (some ((w.length : Int) - 1)) = some (w.take ((w.length : Int) - 1).toNat) := if_pos ⟨by omega, by omega⟩
        rw [this, show ((w.length : Int) - 1).toNat = w.length - 1 by omega]
      have hlt : (w.take (w.length - 1)).length = w.length - 1 := by rw [List.length_take]; omega
      generalize w[w.length - 1] = y at hx
      rw [decide_eq_true (by omega : (0 : Int) < (w.length : Int)), cond_true, hwr, if_pos ⟨by omega, by omega⟩, show ((w.length : Int) - 1).toNat = w.length - 1 by omega, hx, Option.bind_some, hcut, Option.bind_some]
      dsimp only
      have key : fnLoop X Fb an37 lp Try.f37 0 (N + 1) (S37 o out (w.take (w.length - 1))) = some (E37 (rcL o (N + 1) out (w.take (w.length - 1)))) := ih _ _ (by omega) (by omega)
      by_cases hy0 : y < 0
      · rw [decide_eq_true hy0]
        exact key
      · rw [decide_eq_false hy0]
        by_cases hy1 : (out.length : Int) ≤ y
        · rw [decide_eq_true hy1]
          exact key
        · rw [decide_eq_false hy1]
          have hb : out[y.toNat]? = some out[y.toNat] := List.getElem?_eq_getElem (by omega)
          generalize out[y.toNat] = b at hb
          have hyy : 0 ≤ y ∧ y < (out.length : Int) := ⟨by omega, by omega⟩
          simp only [cond_false, if_pos hyy, hb, Option.bind_some]
          cases b with
          | true => exact key
          | false =>
            have hs := nf_set out y.toNat hb
            have hn := nx_len o y
            have fin : ∀ l : List Int, nx o y = l → fnLoop X Fb an37 lp Try.f37 0 (N + 1) (S37 o (out.set y.toNat true) (w.take (w.length - 1) ++ l)) = some (E37 (rcL o (N + 1) (out.set y.toNat true) (w.take (w.length - 1) ++ l))) := fun l hl => ih _ _ (by rw [List.length_append, hlt, ← hl]; omega) (by omega)
            simp only [cond_false, if_true]
            cases hnx : nx o y with
            | nil =>
              have hl : ((w.take (w.length - 1)).length + 0) * 8 ≤ 140737488355328 := by omega
              simp only [List.isEmpty_nil, cond_true, if_pos hl]
              exact fin [] hnx
            | cons a l =>
              have hl : ((w.take (w.length - 1)).length + (a :: l).length) * 8 ≤ 140737488355328 := by rw [hnx] at hn; omega
              simp only [List.isEmpty_cons, cond_false, unc_cons, Option.bind_some, if_pos hl]
              exact fin (a :: l) hnx
def d37 (s : TS U) : Option (IRs × List Bool × List Int) := match told s 52 [2, 5, 6] 0, s.objs with
  | some [a0, a1, a2], [o0, o1, o2] =>
    match o0 with
    | .cells [q0, q1, q2, q3, q4, q5] false =>
      match q0 with
      | .lst .i64 o_G =>
        match q1 with
        | .lst .i64 o_F =>
          match q2 with
          | .lst .i64 o_V =>
            match q3 with
            | .lst .t69 o_Fs =>
              match q4 with
              | .lst .t65 o_C =>
                match q5 with
                | .v (.int .i64 o_Main) =>
                  match o1 with
                  | .row .bool out false =>
                    match o2 with
                    | .row .i64 w false =>
                      match a0 with
                      | .ref 0 0 0 =>
                        match a1 with
                        | .full 1 =>
                          match a2 with
                          | .full 2 =>
                            some ((⟨o_G, o_F, o_V, o_Fs, o_C, o_Main⟩ : IRs), out, w)
                          | _ => none
                        | _ => none
                      | _ => none
                    | _ => none
                  | _ => none
                | _ => none
              | _ => none
            | _ => none
          | _ => none
        | _ => none
      | _ => none
    | _ => none
  | _, _ => none
theorem d37_ok {s : TS U} {o : IRs} {out : List Bool} {w : List Int} (h : d37 s = some (o, out, w)) : s = mkS (U := U) 52 ([2, 5, 6].zip ([.ref 0 0 0, .full 1, .full 2] : List (TV U))) ([o.ob, .row .bool out false, .row .i64 w false] : List (TO U)) 0 := by
  unfold d37 at h
  split at h <;> try (cases h; done)
  rename_i ht ho
  have hs := told_ok ht
  rw [ho] at hs
  repeat' split at h
  all_goals first | (cases h; done) | (cases h; exact hs)
def d37n (s : TS U) : Option (IRs × List Bool) := match told s 52 [2, 5, 6] 0, s.objs with
  | some [a0, a1, a2], [o0, o1] =>
    match o0 with
    | .cells [q0, q1, q2, q3, q4, q5] false =>
      match q0 with
      | .lst .i64 o_G =>
        match q1 with
        | .lst .i64 o_F =>
          match q2 with
          | .lst .i64 o_V =>
            match q3 with
            | .lst .t69 o_Fs =>
              match q4 with
              | .lst .t65 o_C =>
                match q5 with
                | .v (.int .i64 o_Main) =>
                  match o1 with
                  | .row .bool out false =>
                    match a0 with
                    | .ref 0 0 0 =>
                      match a1 with
                      | .full 1 =>
                        match a2 with
                        | .v (.slice none 0 0) =>
                          some ((⟨o_G, o_F, o_V, o_Fs, o_C, o_Main⟩ : IRs), out)
                        | _ => none
                      | _ => none
                    | _ => none
                  | _ => none
                | _ => none
              | _ => none
            | _ => none
          | _ => none
        | _ => none
      | _ => none
    | _ => none
  | _, _ => none
theorem d37n_ok {s : TS U} {o : IRs} {out : List Bool} (h : d37n s = some (o, out)) : s = mkS (U := U) 52 ([2, 5, 6].zip ([.ref 0 0 0, .full 1, .v (.slice none 0 0)] : List (TV U))) ([o.ob, .row .bool out false] : List (TO U)) 0 := by
  unfold d37n at h
  split at h <;> try (cases h; done)
  rename_i ht ho
  have hs := told_ok ht
  rw [ho] at hs
  repeat' split at h
  all_goals first | (cases h; done) | (cases h; exact hs)
def dd37 : TS U → Option (IRs × List Bool × List Int × Bool) := orD (fun s => (d37 s).map fun (o, out, w) => (o, out, w, true)) (fun s => (d37n s).map fun (o, out) => (o, out, [], false))
def Pre37 (n m : Nat) : Prop := n + 3 * m ≤ 100000000
instance (n m : Nat) : Decidable (Pre37 n m) := by unfold Pre37; infer_instance
def rcP (o : IRs) (out : List Bool) (w : List Int) : List Bool := rcL o (w.length + 3 * out.length + 1) out w
def lc37 : LC U := .of dd37 (fun (o, out, w, b) => Pre37 w.length out.length) (.exit 0) (fun (o, out, w, b) => (E37 (rcP o out w)).2)
def lp37 : Lp U := lpL [(0, lc37)]
theorem rounds37' (lp : Lp U) (o : IRs) (out : List Bool) (w : List Int) (h : w.length + 3 * out.length ≤ 100000000) : fnLoop X Fb an37 lp Try.f37 0 (w.length + 3 * out.length + 1) (S37 o out w) = some (E37 (rcP o out w)) := rounds37 lp o _ out w (by have := nf_le out; omega) h
theorem lp37_ok : ∀ c, Try.f37.body = some c → LpOk X Fb an37 lp37 (loops c 0) := lpL_ok (by kernel_rfl) fun b L hm st p hs => by
  cases hm with
  | tail _ h => cases h
  | head =>
    obtain ⟨⟨o, out, w, b⟩, hx, h1, rfl⟩ := LC.of_some hs
    rcases orD_some hx with hy | hy
    · rw [Option.map_eq_some_iff] at hy
      obtain ⟨⟨o', out', w'⟩, hz, he⟩ := hy
      cases he
      obtain rfl := d37_ok hz
      exact ⟨_, rounds37' _ o out w h1⟩
    · rw [Option.map_eq_some_iff] at hy
      obtain ⟨⟨o', out'⟩, hz, he⟩ := hy
      cases he
      obtain rfl := d37n_ok hz
      exact ⟨1, r37n _ 0 o out⟩
theorem e37 (o : IRs) (n : Int) : (evFn X Fb an37 lp37 Try.f37 [] [irV o, TV.v (Value.int IntKind.i64 n)]
  fun (o : List (TO X.U)) (v : TV X.U) => some (o, v)) =
  if
    0 ≤ (↑o.C.length : Int) ∧
      (↑o.C.length : Int) = (↑o.C.length : Int) ∧
        (↑o.C.length : Int) ≤ 9223372036854775807 ∧ (↑1 : Int) * (↑o.C.length : Int) ≤ 281474976710656 then
  if True then
    bif (nx o n).isEmpty then
      if Pre37 0 (List.replicate (↑o.C.length : Int).toNat false).length then
        some ([], TV.lst C.bool (rcP o (List.replicate (↑o.C.length : Int).toNat false) []))
      else none
    else
      (unc (nx o n)).bind fun (x : Int × List Int) =>
        if Pre37 (x.fst :: x.snd).length (List.replicate (↑o.C.length : Int).toNat false).length then
          some ([], TV.lst C.bool (rcP o (List.replicate (↑o.C.length : Int).toNat false) (x.fst :: x.snd)))
        else none
  else none
else none := by kernel_rfl
def reachP (o : IRs) (n : Int) : List Bool := rcP o (List.replicate (o.C.length : Int).toNat false) (nx o n)
def sReach : Spc U := .of dIi (fun (o, n) => Sn o.C.length) (fun _ => []) fun (o, n) => .lst .bool (reachP o n)
theorem sReach_ok : SpecOk Try.prog 37 sReach := by
  refine fn_ok X_ok mixed Fb_ok an37 lp37 Try.func37 (by kernel_rfl) (by kernel_rfl) lp37_ok fun objs args x hx hp => ?_
  obtain ⟨o, n⟩ := x
  obtain ⟨rfl, rfl⟩ := dIi_ok hx
  dsimp only at hp ⊢
  have hp : o.C.length ≤ 3000000 := hp
  have hn := nx_len o n
  have hr : (List.replicate (o.C.length : Int).toNat false).length = o.C.length := by rw [List.length_replicate]; omega
  refine (e37 o n).trans ?_
  rw [if_pos ⟨by omega, rfl, by omega, by omega⟩]
  unfold reachP
  cases hnx : nx o n with
  | nil =>
    have h4 : Pre37 0 (List.replicate (o.C.length : Int).toNat false).length := by show _ ≤ _; rw [hr]; omega
    simp only [if_true, List.isEmpty_nil, cond_true]
    exact if_pos h4
  | cons a l =>
    rw [hnx] at hn
    have h4 : Pre37 (a :: l).length (List.replicate (o.C.length : Int).toNat false).length := by show _ ≤ _; rw [hr]; omega
    simp only [if_true, List.isEmpty_cons, cond_false, unc_cons, Option.bind_some]
    exact if_pos h4
end Go.Proofs.Ytgdnomnealjdlaa.Fl

/- Again; awake. -/
namespace Go.Proofs.Ytgdnomnealjdlaa.Fl
open Go Go.RowKit Go.Proofs.Ytgdnomnealjdlaa.Eng
set_option linter.unusedVariables false
set_option linter.unusedSimpArgs false
set_option maxRecDepth 20000
def Fc : FuncId → Option (Spc U)
  | 37 => some sReach
  | _ => none
theorem Fc_ok : ∀ f S, Fc f = some S → SpecOk Try.prog f S := fun f S h => by
  unfold Fc at h
  split at h
  · cases h; exact sReach_ok
  · cases h
theorem e15 (o : IRs) (n : Int) : (evFn X Fc an0 lp0 Try.f15 [] [irV o, TV.v (Value.int IntKind.i64 n)]
  fun (o : List (TO X.U)) (v : TV X.U) => some (o, v)) =
  bif decide (0 ≤ n) then
  bif decide (n < (↑o.C.length : Int)) then
    if Sn o.C.length then (getI (reachP o n) n).bind fun (z : X.U.T C.bool) => some ([], TV.v (Value.bool z)) else none
  else some ([], TV.v (Value.bool false))
else some ([], TV.v (Value.bool false)) := by kernel_rfl
def agP (o : IRs) (n : Int) : Bool := cond (decide (0 ≤ n)) (cond (decide (n < (o.C.length : Int))) ((getI (reachP o n) n).getD false) false) false
def sAgain : Spc U := .of dIi (fun (o, n) => Sn o.C.length) (fun _ => []) fun (o, n) => .v (.bool (agP o n))
theorem rcL_len (o : IRs) : ∀ (N : Nat) (out : List Bool) (w : List Int), (rcL o N out w).length = out.length := by
  intro N
  induction N with
  | zero => intro out w; rfl
  | succ N ih =>
    intro out w
    rw [rcL]
    split
    · rfl
    · rename_i y _
      cases decide (y < 0) with
      | true => exact ih _ _
      | false =>
        cases decide ((out.length : Int) ≤ y) with
        | true => exact ih _ _
        | false =>
          simp only [cond_false]
          split
          · exact ih _ _
          · rw [ih, List.length_set]
          · rfl
theorem reachP_len (o : IRs) (n : Int) : (reachP o n).length = o.C.length := by
  unfold reachP rcP
  rw [rcL_len, List.length_replicate]
  omega
theorem sAgain_ok : SpecOk Try.prog 15 sAgain := by
  refine fn_ok X_ok mixed Fc_ok an0 lp0 Try.func15 (by kernel_rfl) (by kernel_rfl) (lp0_ok (by kernel_rfl)) fun objs args x hx hp => ?_
  obtain ⟨o, n⟩ := x
  obtain ⟨rfl, rfl⟩ := dIi_ok hx
  dsimp only at hp ⊢
  refine (e15 o n).trans ?_
  unfold agP
  by_cases h0 : 0 ≤ n
  · rw [decide_eq_true h0]
    by_cases h1 : n < (o.C.length : Int)
    · obtain ⟨z, hz, _⟩ := getI_lt (l := reachP o n) h0 (by rw [reachP_len]; exact h1)
      rw [decide_eq_true h1, hz]
      simp only [cond_true]
      rw [if_pos hp]
      rfl
    · rw [decide_eq_false h1]; rfl
  · rw [decide_eq_false h0]; rfl
def Fd : FuncId → Option (Spc U)
  | 10 => some sGiven
  | 12 => some sIntsO
  | 13 => some sNx
  | 15 => some sAgain
  | _ => none
theorem Fd_ok : ∀ f S, Fd f = some S → SpecOk Try.prog f S := fun f S h => by
  unfold Fd at h
  split at h
  · cases h; exact sGiven_ok
  · cases h; exact sIntsO_ok
  · cases h; exact sNx13_ok
  · cases h; exact sAgain_ok
  · cases h
theorem e11 : evFn X Fd an0 lp0 Try.f11 [] [] (fun o v => some (o, v)) = some ([], .v (.bool true)) := by kernel_rfl
def sAwake : Spc U := .of d0 (fun _ => True) (fun _ => []) fun _ => .v (.bool true)
theorem sAwake_ok : SpecOk Try.prog 11 sAwake := by
  refine fn_ok X_ok mixed Fd_ok an0 lp0 Try.func11 (by kernel_rfl) (by kernel_rfl) (lp0_ok (by kernel_rfl)) fun objs args x hx hp => ?_
  obtain ⟨rfl, rfl⟩ := d0_ok hx
  exact e11
end Go.Proofs.Ytgdnomnealjdlaa.Fl

/- What one comes to: two ways to mark it, the same marks. -/
namespace Go.Proofs.Ytgdnomnealjdlaa.Fl
open Go Go.RowKit Go.Proofs.Ytgdnomnealjdlaa.Eng
set_option linter.unusedVariables false
set_option linter.unusedSimpArgs false
/-- One comes to it behind an instruction. -/
inductive Comes (o : IRs) (n : Int) : Int → Prop where
  | one {k : Int} (h : k ∈ nx o n) (h0 : 0 ≤ k) (h1 : k < (o.C.length : Int)) : Comes o n k
  | more {m k : Int} (hm : Comes o n m) (h : k ∈ nx o m) (h0 : 0 ≤ k) (h1 : k < (o.C.length : Int)) : Comes o n k
def At (out : List Bool) (k : Int) : Prop := 0 ≤ k ∧ out[k.toNat]? = some true
/-- All that is marked is come to; all that comes behind what is marked is marked. -/
structure Good (o : IRs) (n : Int) (out : List Bool) : Prop where
  len : out.length = o.C.length
  sound : ∀ k, At out k → Comes o n k
  first : ∀ k ∈ nx o n, 0 ≤ k → k < (o.C.length : Int) → At out k
  closed : ∀ m, At out m → ∀ k ∈ nx o m, 0 ≤ k → k < (o.C.length : Int) → At out k
theorem Good.at {o : IRs} {n : Int} {out : List Bool} (h : Good o n out) {k : Int} (hk : Comes o n k) : At out k := by
  induction hk with
  | one a b c => exact h.first _ a b c
  | more _ a b c ih => exact h.closed _ ih _ a b c
theorem Good.same {o : IRs} {n : Int} {a b : List Bool} (ha : Good o n a) (hb : Good o n b) : a = b := by
  apply List.ext_getElem?
  intro i
  by_cases hi : i < o.C.length
  · have hA : i < a.length := by have := ha.len; omega
    have hB : i < b.length := by have := hb.len; omega
    have ea : a[i]? = some a[i] := List.getElem?_eq_getElem hA
    have eb : b[i]? = some b[i] := List.getElem?_eq_getElem hB
    have hab : At a i ↔ At b i := ⟨fun h => hb.at (ha.sound _ h), fun h => ha.at (hb.sound _ h)⟩
    have xa : At a i ↔ a[i] = true := ⟨fun h => by have := h.2; rw [Int.toNat_natCast, ea] at this; exact Option.some.inj this, fun h => ⟨by omega, by rw [Int.toNat_natCast, ea, h]⟩⟩
    have xb : At b i ↔ b[i] = true := ⟨fun h => by have := h.2; rw [Int.toNat_natCast, eb] at this; exact Option.some.inj this, fun h => ⟨by omega, by rw [Int.toNat_natCast, eb, h]⟩⟩
    rw [ea, eb]
    congr 1
    cases h1 : a[i] <;> cases h2 : b[i] <;> simp_all
  · rw [List.getElem?_eq_none (by have := ha.len; omega), List.getElem?_eq_none (by have := hb.len; omega)]
/-! ### A list of what to look at -/
structure Wl (o : IRs) (n : Int) (out : List Bool) (w : List Int) : Prop where
  len : out.length = o.C.length
  sound : ∀ k, At out k → Comes o n k
  todo : ∀ k ∈ w, 0 ≤ k → k < (o.C.length : Int) → Comes o n k
  first : ∀ k ∈ nx o n, 0 ≤ k → k < (o.C.length : Int) → At out k ∨ k ∈ w
  closed : ∀ m, At out m → ∀ k ∈ nx o m, 0 ≤ k → k < (o.C.length : Int) → At out k ∨ k ∈ w
theorem Wl.good {o : IRs} {n : Int} {out : List Bool} (h : Wl o n out []) : Good o n out := ⟨h.len, h.sound, fun k a b c => (h.first k a b c).resolve_right (by simp), fun m hm k a b c => (h.closed m hm k a b c).resolve_right (by simp)⟩
theorem at_set {out : List Bool} {y k : Int} (hy0 : 0 ≤ y) (hy1 : y < (out.length : Int)) : At (out.set y.toNat true) k ↔ k = y ∨ At out k := by
  unfold At
  rw [List.getElem?_set]
  constructor
  · rintro ⟨h0, h1⟩
    split at h1
    · rename_i e
      left; omega
    · exact .inr ⟨h0, h1⟩
  · rintro (rfl | ⟨h0, h1⟩)
    · exact ⟨hy0, by rw [if_pos rfl, if_pos (by omega)]⟩
    · refine ⟨h0, ?_⟩
      split
      · rw [if_pos (by omega)]
      · exact h1
theorem rcL_good {o : IRs} {n : Int} : ∀ (N : Nat) (out : List Bool) (w : List Int), w.length + 3 * nf out ≤ N → Wl o n out w → Good o n (rcL o (N + 1) out w) := by
  intro N
  induction N with
  | zero =>
    intro out w h0 h
    obtain rfl : w = [] := List.length_eq_zero_iff.1 (by omega)
    exact h.good
  | succ N ih =>
    intro out w h0 h
    rw [rcL]
    by_cases hw : w = []
    · subst hw; exact h.good
    · have hpos : 0 < w.length := List.length_pos_iff.2 hw
      have hx : w[w.length - 1]? = some w[w.length - 1] := List.getElem?_eq_getElem (by omega)
      have hwe : w = w.take (w.length - 1) ++ [w[w.length - 1]] := by
        have := List.take_append_getElem (l := w) (i := w.length - 1) (by omega)
        rw [show w.length - 1 + 1 = w.length by omega, List.take_length] at this
        exact this.symm
      have hlt : (w.take (w.length - 1)).length = w.length - 1 := by rw [List.length_take]; omega
      generalize w[w.length - 1] = y at hx hwe
      generalize w.take (w.length - 1) = w' at hwe hlt
      rw [hx]
      dsimp only
      have hmem : ∀ k, k ∈ w ↔ k ∈ w' ∨ k = y := fun k => by rw [hwe, List.mem_append, List.mem_singleton]
      have drop : (∀ (_ : 0 ≤ y) (_ : y < (o.C.length : Int)), At out y) → Wl o n out w' := fun hy => ⟨h.len, h.sound, fun k hk => h.todo k ((hmem k).2 (.inl hk)), fun k a b c => by
          rcases h.first k a b c with h1 | h1
          · exact .inl h1
          · rcases (hmem k).1 h1 with h2 | rfl
            · exact .inr h2
            · exact .inl (hy b c), fun m hm k a b c => by
          rcases h.closed m hm k a b c with h1 | h1
          · exact .inl h1
          · rcases (hmem k).1 h1 with h2 | rfl
            · exact .inr h2
            · exact .inl (hy b c)⟩
      have hl := h.len
      by_cases hy0 : y < 0
      · rw [decide_eq_true hy0]
        exact ih _ _ (by omega) (drop fun a _ => absurd a (by omega))
      · rw [decide_eq_false hy0]
        by_cases hy1 : (out.length : Int) ≤ y
        · rw [decide_eq_true hy1]
          exact ih _ _ (by omega) (drop fun _ a => absurd a (by omega))
        · rw [decide_eq_false hy1]
          have hb : out[y.toNat]? = some out[y.toNat] := List.getElem?_eq_getElem (by omega)
          generalize out[y.toNat] = b at hb
          simp only [cond_false, hb]
          cases b with
          | true => exact ih _ _ (by omega) (drop fun a _ => ⟨a, hb⟩)
          | false =>
            have hs := nf_set out y.toNat hb
            have hn := nx_len o y
            have hcy : Comes o n y := h.todo y ((hmem y).2 (.inr rfl)) (by omega) (by omega)
            have hat := fun k => at_set (out := out) (y := y) (k := k) (by omega) (by omega)
            refine ih _ _ (by rw [List.length_append, hlt]; omega) ⟨by rw [List.length_set]; exact h.len, fun k hk => ?_, fun k hk a b => ?_, fun k a b c => ?_, fun m hm k a b c => ?_⟩
            · rcases (hat k).1 hk with rfl | hk
              · exact hcy
              · exact h.sound k hk
            · rcases List.mem_append.1 hk with hk | hk
              · exact h.todo k ((hmem k).2 (.inl hk)) a b
              · exact .more hcy hk a b
            · rcases h.first k a b c with h1 | h1
              · exact .inl ((hat k).2 (.inr h1))
              · rcases (hmem k).1 h1 with h2 | rfl
                · exact .inr (List.mem_append_left _ h2)
                · exact .inl ((hat _).2 (.inl rfl))
            · rcases (hat m).1 hm with rfl | hm
              · exact .inr (List.mem_append_right _ a)
              · rcases h.closed m hm k a b c with h1 | h1
                · exact .inl ((hat k).2 (.inr h1))
                · rcases (hmem k).1 h1 with h2 | rfl
                  · exact .inr (List.mem_append_left _ h2)
                  · exact .inl ((hat _).2 (.inl rfl))
theorem not_at (L : Nat) (k : Int) : ¬ At (List.replicate L false) k := fun h => by
  have := h.2
  rw [List.getElem?_replicate] at this
  split at this <;> cases this
theorem reachP_good (o : IRs) (n : Int) : Good o n (reachP o n) := by
  have hl : (List.replicate (o.C.length : Int).toNat false).length = o.C.length := by rw [List.length_replicate]; omega
  have hnf := nf_le (List.replicate (o.C.length : Int).toNat false)
  exact rcL_good _ _ _ (by omega) ⟨hl, fun k h => absurd h (not_at _ k), fun k h a b => .one h a b, fun k h _ _ => .inr h, fun m h => absurd h (not_at _ m)⟩
/-! ### Rounds -/
/-- What is marked with some more; whether that is new. -/
def markL : List Int → List Bool × Bool → List Bool × Bool
  | [], r => r
  | y :: l, r => markL l (cond (decide (0 ≤ y) && (decide (y < (r.1.length : Int)) && !(r.1[y.toNat]?).getD true)) (r.1.set y.toNat true, true) r)
structure Mk (l : List Int) (r s : List Bool × Bool) : Prop where
  len : s.1.length = r.1.length
  keep : ∀ k, At r.1 k → At s.1 k
  news : ∀ k, At s.1 k → At r.1 k ∨ k ∈ l ∧ k < (r.1.length : Int)
  all : ∀ k ∈ l, 0 ≤ k → k < (r.1.length : Int) → At s.1 k
  same : s.2 = false → s.1 = r.1 ∧ r.2 = false
  less : nf s.1 ≤ nf r.1
  new : r.2 = false → s.2 = true → nf s.1 + 1 ≤ nf r.1
theorem markL_ok : ∀ (l : List Int) (r : List Bool × Bool), Mk l r (markL l r)
  | [], r => ⟨rfl, fun _ h => h, fun _ h => .inl h, fun k h => (nomatch h), fun h => ⟨rfl, h⟩, Nat.le_refl _, fun h1 h2 => by rw [markL, h1] at h2; cases h2⟩
  | y :: l, r => by
    rw [markL]
    by_cases hc : 0 ≤ y ∧ y < (r.1.length : Int) ∧ r.1[y.toNat]? = some false
    · obtain ⟨h0, h1, h2⟩ := hc
      rw [decide_eq_true h0, decide_eq_true h1, h2]
      have ih := markL_ok l (r.1.set y.toNat true, true)
      have hat := fun k => at_set (out := r.1) (y := y) (k := k) h0 h1
      have hs := nf_set r.1 y.toNat h2
      simp only [Option.getD_some, Bool.not_false, Bool.and_self, cond_true]
      refine ⟨by rw [ih.len, List.length_set], fun k hk => ih.keep k ((hat k).2 (.inr hk)), fun k hk => ?_, fun k hk a b => ?_, fun h => ?_, by have := ih.less; dsimp only at this; omega, fun _ _ => by have := ih.less; dsimp only at this; omega⟩
      · rcases ih.news k hk with h | ⟨h, h'⟩
        · rcases (hat k).1 h with rfl | h
          · exact .inr ⟨.head _, h1⟩
          · exact .inl h
        · exact .inr ⟨.tail _ h, by dsimp only at h'; rw [List.length_set] at h'; exact h'⟩
      · cases hk with
        | head => exact ih.keep _ ((hat _).2 (.inl rfl))
        | tail _ hk => exact ih.all k hk a (by rw [List.length_set]; exact b)
      · have := (ih.same h).2
        cases this
    · have hcond : (decide (0 ≤ y) && (decide (y < (r.1.length : Int)) && !(r.1[y.toNat]?).getD true)) = false := by
        by_cases h0 : 0 ≤ y
        · by_cases h1 : y < (r.1.length : Int)
          · have hb : r.1[y.toNat]? = some r.1[y.toNat] := List.getElem?_eq_getElem (by omega)
            cases hbv : r.1[y.toNat] with
            | true => rw [hb, hbv]; simp
            | false => exact absurd ⟨h0, h1, by rw [hb, hbv]⟩ hc
          · rw [decide_eq_false h1]; simp
        · rw [decide_eq_false h0]; simp
      rw [hcond, cond_false]
      have ih := markL_ok l r
      refine ⟨ih.len, ih.keep, fun k hk => ?_, fun k hk a b => ?_, ih.same, ih.less, ih.new⟩
      · rcases ih.news k hk with h | ⟨h, h'⟩
        · exact .inl h
        · exact .inr ⟨.tail _ h, h'⟩
      · cases hk with
        | head =>
          refine ih.keep _ ⟨a, ?_⟩
          have hb : r.1[y.toNat]? = some r.1[y.toNat] := List.getElem?_eq_getElem (by omega)
          cases hbv : r.1[y.toNat] with
          | true => rw [hb, hbv]
          | false => exact absurd ⟨a, b, by rw [hb, hbv]⟩ hc
        | tail _ hk => exact ih.all k hk a b
end Go.Proofs.Ytgdnomnealjdlaa.Fl

/- What is marked behind an instruction. -/
namespace Go.Proofs.Ytgdnomnealjdlaa.Fl
open Go Go.RowKit Go.Proofs.Ytgdnomnealjdlaa.Eng
set_option linter.unusedVariables false
set_option linter.unusedSimpArgs false
set_option maxRecDepth 20000
def Ff : FuncId → Option (Spc U)
  | 14 => some sNx
  | _ => none
theorem Ff_ok : ∀ f S, Ff f = some S → SpecOk Try.prog f S := fun f S h => by
  unfold Ff at h
  split at h
  · cases h; exact sNx14_ok
  · cases h
def an62 : Ann := ⟨fun | 0 => 900 | _ => 0, fun | 0 => 192 | _ => 0, fun _ => [], false⟩
def S62 (l : List Int) (r : List Bool × Bool) (v : Int) : TS U := mkS 50 [(2, .full 0), (7, .v (.bool r.2)), (8, .lst .i64 l), (9, .v (.int .i64 v))] [.row .bool r.1 false] 1
def E62 (r : List Bool × Bool) : Exit × TS U := (.exit 0, mkS 50 [(7, .v (.bool r.2))] [.row .bool r.1 false] 1)
theorem r62 (lp : Lp U) (N : Nat) (l : List Int) (r : List Bool × Bool) (v : Int) : fnLoop X Ff an62 lp Try.f62 0 (N + 1) (S62 l r v) =
  cond (decide (v < (l.length : Int)))
  ((getI l v).bind fun (z : X.U.T C.i64) =>
    cond (decide (0 ≤ z))
      ((getI l v).bind fun (z : X.U.T C.i64) =>
        cond (decide (z < (r.1.length : Int)))
          ((getI l v).bind fun (z : X.U.T C.i64) =>
            if 0 ≤ z ∧ z < (r.1.length : Int) then
              r.1[Int.toNat z]?.bind fun (y : X.U.T C.bool) =>
                cond (!y)
                  ((getI l v).bind fun (z : X.U.T C.i64) =>
                    if 0 ≤ z ∧ z < (r.1.length : Int) then
                      r.1[Int.toNat z]?.bind fun (z_1 : X.U.T C.bool) =>
                        fnLoop X Ff an62 lp Try.f62 0 N
                          (S62 l (r.1.set (Int.toNat z) true, true) (IntKind.i64.wrap (v + 1)))
                    else none)
                (fnLoop X Ff an62 lp Try.f62 0 N (S62 l r (IntKind.i64.wrap (v + 1))))
            else none)
        (fnLoop X Ff an62 lp Try.f62 0 N (S62 l r (IntKind.i64.wrap (v + 1)))))
    (fnLoop X Ff an62 lp Try.f62 0 N (S62 l r (IntKind.i64.wrap (v + 1)))))
  (some (E62 r)) := by kernel_rfl
def mark1 (r : List Bool × Bool) (y : Int) : List Bool × Bool := cond (decide (0 ≤ y) && (decide (y < (r.1.length : Int)) && !(r.1[y.toNat]?).getD true)) (r.1.set y.toNat true, true) r
theorem markL_fold : ∀ (l : List Int) (r : List Bool × Bool), markL l r = l.foldl mark1 r
  | [], r => rfl
  | y :: l, r => by rw [markL, List.foldl_cons, markL_fold l]; rfl
theorem rounds62 (lp : Lp U) (l : List Int) (hl : l.length ≤ 3000000) (r : List Bool × Bool) : fnLoop X Ff an62 lp Try.f62 0 (l.length + 1) (S62 l r 0) = some (E62 (markL l r)) := by
  refine (ixL_rounds (fnl := fun n st => fnLoop X Ff an62 lp Try.f62 0 n st) (S62 l) E62 (len := l.length) (step := stepI l mark1) (fun _ _ => True) (fun r v N _ h0 h1 => ⟨?_, trivial⟩) (fun r v N _ h0 h1 => ?_) l.length r 0 (Int.le_refl 0) (by omega) trivial).trans ?_
  · have hw : IntKind.i64.wrap (v + 1) = v + 1 := wrap_i64 (by omega) (by omega)
    obtain ⟨y, hy, _⟩ := getI_lt (l := l) h0 h1
    dsimp only
    unfold stepI mark1
    rw [r62, decide_eq_true h1, hw, hy]
    simp only [cond_true, Option.bind_some]
    by_cases a0 : 0 ≤ y
    · rw [decide_eq_true a0]
      by_cases a1 : y < (r.1.length : Int)
      · rw [decide_eq_true a1]
        have hb : r.1[y.toNat]? = some r.1[y.toNat] := List.getElem?_eq_getElem (by omega)
        generalize r.1[y.toNat] = b at hb
        have h2 : 0 ≤ y ∧ y < (r.1.length : Int) := ⟨a0, a1⟩
        simp only [cond_true, Option.bind_some, if_pos h2, hb]
        cases b <;> rfl
      · rw [decide_eq_false a1]
        rfl
    · rw [decide_eq_false a0]
      rfl
  · dsimp only
    rw [r62, decide_eq_false h1]
    rfl
  · rw [ixL_all, markL_fold]
def dl62 (s : TS U) : Option (List Bool × Bool × List Int × Int) := match told s 50 [2, 7, 8, 9] 1, s.objs with
  | some [a0, a1, a2, a3], [o0] =>
    match o0 with
    | .row .bool out false =>
      match a0 with
      | .full 0 =>
        match a1 with
        | .v (.bool b) =>
          match a2 with
          | .lst .i64 l =>
            match a3 with
            | .v (.int .i64 v) =>
              some (out, b, l, v)
            | _ => none
          | _ => none
        | _ => none
      | _ => none
    | _ => none
  | _, _ => none
theorem dl62_ok {s : TS U} {out : List Bool} {b : Bool} {l : List Int} {v : Int} (h : dl62 s = some (out, b, l, v)) : s = mkS (U := U) 50 ([2, 7, 8, 9].zip ([.full 0, .v (.bool b), .lst .i64 l, .v (.int .i64 v)] : List (TV U))) ([.row .bool out false] : List (TO U)) 1 := by
  unfold dl62 at h
  split at h <;> try (cases h; done)
  rename_i ht ho
  have hs := told_ok ht
  rw [ho] at hs
  repeat' split at h
  all_goals first | (cases h; done) | (cases h; exact hs)
def Pre62 (n : Nat) (v : Int) : Prop := n ≤ 3000000 ∧ v = 0
instance (n : Nat) (v : Int) : Decidable (Pre62 n v) := by unfold Pre62; infer_instance
def lc62 : LC U := .of dl62 (fun (out, b, l, v) => Pre62 l.length v) (.exit 0) (fun (out, b, l, v) => (E62 (markL l (out, b))).2)
theorem lp62_ok : ∀ c, Try.f62.body = some c → LpOk X Ff an62 (lpL [(0, lc62)]) (loops c 0) := lpL_ok (by kernel_rfl) fun b L hm st p hs => by
  cases hm with
  | tail _ h => cases h
  | head =>
    obtain ⟨⟨out, b, l, v⟩, hx, ⟨h1, rfl⟩, rfl⟩ := LC.of_some hs
    obtain rfl := dl62_ok hx
    exact ⟨_, rounds62 _ l h1 (out, b)⟩
theorem e62 (o : IRs) (n : Int) (out : List
  Bool) : (evFn X Ff an62 (lpL [(0, lc62)]) Try.f62 [TO.row C.bool out false]
  [irV o, TV.v (Value.int IntKind.i64 n), TV.full 0] fun (o : List (TO X.U)) (v : TV X.U) => some (o, v)) =
  if True then
  if Pre62 (nx o n).length 0 then
    some ([TO.row C.bool (markL (nx o n) (out, false)).fst false], TV.v (Value.bool (markL (nx o n) (out, false)).snd))
  else none
else none := by kernel_rfl
def dMark (objs : List (TO U)) (args : List (TV U)) : Option (List Bool × IRs × Int) := match objs, args with
  | [o0], [a0, a1, a2] =>
    match o0 with
    | .row .bool out false =>
      match a0 with
      | .agg [q0, q1, q2, q3, q4, q5] =>
        match q0 with
        | .lst .i64 o_G =>
          match q1 with
          | .lst .i64 o_F =>
            match q2 with
            | .lst .i64 o_V =>
              match q3 with
              | .lst .t69 o_Fs =>
                match q4 with
                | .lst .t65 o_C =>
                  match q5 with
                  | .v (.int .i64 o_Main) =>
                    match a1 with
                    | .v (.int .i64 n) =>
                      match a2 with
                      | .full 0 =>
                        some (out, (⟨o_G, o_F, o_V, o_Fs, o_C, o_Main⟩ : IRs), n)
                      | _ => none
                    | _ => none
                  | _ => none
                | _ => none
              | _ => none
            | _ => none
          | _ => none
        | _ => none
      | _ => none
    | _ => none
  | _, _ => none
theorem dMark_ok {objs : List (TO U)} {args : List (TV U)} {out : List Bool} {o : IRs} {n : Int} (h : dMark objs args = some (out, o, n)) : objs = [.row .bool out false] ∧ args = [o.tv, .v (.int .i64 n), .full 0] := by
  unfold dMark at h
  repeat' split at h
  all_goals first | (cases h; done) | (cases h; exact ⟨rfl, rfl⟩)
def mkP (o : IRs) (out : List Bool) (n : Int) : List Bool × Bool := markL (nx o n) (out, false)
def sMark : Spc U := .of dMark (fun _ => True) (fun (out, o, n) => [.row .bool (mkP o out n).1 false]) fun (out, o, n) => .v (.bool (mkP o out n).2)
theorem sMark_ok : SpecOk Try.prog 62 sMark := by
  refine fn_ok X_ok mixed Ff_ok an62 (lpL [(0, lc62)]) Try.func62 (by kernel_rfl) (by kernel_rfl) lp62_ok fun objs args x hx hp => ?_
  obtain ⟨out, o, n⟩ := x
  obtain ⟨rfl, rfl⟩ := dMark_ok hx
  dsimp only
  refine (e62 o n out).trans ?_
  have hn := nx_len o n
  have h1 : Pre62 (nx o n).length 0 := ⟨by omega, rfl⟩
  rw [if_pos trivial]
  exact if_pos h1
end Go.Proofs.Ytgdnomnealjdlaa.Fl

/- What one comes to, by rounds. -/
namespace Go.Proofs.Ytgdnomnealjdlaa.Fl
open Go Go.RowKit Go.Proofs.Ytgdnomnealjdlaa.Eng
set_option linter.unusedVariables false
set_option linter.unusedSimpArgs false
set_option maxRecDepth 20000
def Fg : FuncId → Option (Spc U)
  | 62 => some sMark
  | _ => none
theorem Fg_ok : ∀ f S, Fg f = some S → SpecOk Try.prog f S := fun f S h => by
  unfold Fg at h
  split at h
  · cases h; exact sMark_ok
  · cases h
def an38 : Ann := ⟨fun | 0 => 100 | 2 => 484 | _ => 0, fun | 0 => 48 | 2 => 244 | _ => 0, fun _ => [], false⟩
def S38b (o : IRs) (i : Int) (r : List Bool × Bool) (v : Int) : TS U := mkS 45 [(2, .ref 0 0 0), (5, .full 1), (6, .v (.int .i64 i)), (7, .v (.bool r.2)), (8, .v (.int .i64 v))] [irOb o, .row .bool r.1 false] 0
def E38b (o : IRs) (i : Int) (r : List Bool × Bool) : Exit × TS U := (.exit 2, mkS 45 [(2, .ref 0 0 0), (5, .full 1), (6, .v (.int .i64 i)), (7, .v (.bool r.2))] [irOb o, .row .bool r.1 false] 0)
theorem r38b (lp : Lp U) (N : Nat) (o : IRs) (i : Int) (r : List Bool × Bool) (v : Int) : fnLoop X Fg an38 lp Try.f38 2 (N + 1) (S38b o i r v) =
  cond (decide (v < (r.1.length : Int)))
    (if 0 ≤ v ∧ v < (r.1.length : Int) then
      r.1[v.toNat]?.bind fun (y : X.U.T C.bool) =>
        cond y
          (if True then
            cond (mkP o r.1 v).2
              (fnLoop X Fg an38 lp Try.f38 2 N (S38b o i ((mkP o r.1 v).1, true) (IntKind.i64.wrap (v + 1))))
              (fnLoop X Fg an38 lp Try.f38 2 N (S38b o i ((mkP o r.1 v).1, r.2) (IntKind.i64.wrap (v + 1))))
          else none)
          (fnLoop X Fg an38 lp Try.f38 2 N (S38b o i r (IntKind.i64.wrap (v + 1))))
    else none)
    (some (E38b o i r)) := by kernel_rfl
/-- One place in a round. -/
def rd1 (o : IRs) (r : List Bool × Bool) (v : Int) : List Bool × Bool := match r.1[v.toNat]? with
  | some true => ((mkP o r.1 v).1, (mkP o r.1 v).2 || r.2)
  | _ => r
def rdP (o : IRs) (r : List Bool × Bool) : List Bool × Bool := ixL r.1.length (rd1 o) (r.1.length + 1) r 0
theorem mkP_len (o : IRs) (out : List Bool) (n : Int) : (mkP o out n).1.length = out.length := (markL_ok (nx o n) (out, false)).len
theorem rd1_len (o : IRs) (r : List Bool × Bool) (v : Int) : (rd1 o r v).1.length = r.1.length := by
  unfold rd1
  split
  · exact mkP_len _ _ _
  · rfl
theorem rdP_len (o : IRs) (r : List Bool × Bool) : (rdP o r).1.length = r.1.length :=
  ixL_inv (I := fun s => s.1.length = r.1.length) (fun c v h _ _ => (rd1_len o c v).trans h) _ _ _ (Int.le_refl 0) rfl
theorem rounds38b (lp : Lp U) (o : IRs) (i : Int) (r : List Bool × Bool) (hl : r.1.length ≤ 3000000) : fnLoop X Fg an38 lp Try.f38 2 (r.1.length + 1) (S38b o i r 0) = some (E38b o i (rdP o r)) := by
  refine ixL_rounds (fnl := fun n st => fnLoop X Fg an38 lp Try.f38 2 n st) (S38b o i) (E38b o i) (len := r.1.length) (step := rd1 o) (fun s _ => s.1.length = r.1.length) (fun s v N hs h0 h1 => ⟨?_, (rd1_len o s v).trans hs⟩) (fun s v N hs h0 h1 => ?_) r.1.length r 0 (Int.le_refl 0) (by omega) rfl
  · have hw : IntKind.i64.wrap (v + 1) = v + 1 := wrap_i64 (by omega) (by omega)
    have h1 : v < (s.1.length : Int) := by rw [hs]; exact h1
    dsimp only
    rw [r38b, decide_eq_true h1, hw, cond_true, if_pos ⟨h0, h1⟩]
    unfold rd1
    have hb : s.1[v.toNat]? = some s.1[v.toNat] := List.getElem?_eq_getElem (by omega)
    generalize s.1[v.toNat] = b at hb
    rw [hb]
    cases b with
    | false => rfl
    | true =>
      simp only [Option.bind_some, cond_true, if_true]
      cases (mkP o s.1 v).2 <;> rfl
  · dsimp only
    rw [r38b, decide_eq_false (by rw [hs]; exact h1)]
    rfl
def dl38b (s : TS U) : Option (IRs × List Bool × Int × Bool × Int) := match told s 45 [2, 5, 6, 7, 8] 0, s.objs with
  | some [a0, a1, a2, a3, a4], [o0, o1] =>
    match o0 with
    | .cells [q0, q1, q2, q3, q4, q5] false =>
      match q0 with
      | .lst .i64 o_G =>
        match q1 with
        | .lst .i64 o_F =>
          match q2 with
          | .lst .i64 o_V =>
            match q3 with
            | .lst .t69 o_Fs =>
              match q4 with
              | .lst .t65 o_C =>
                match q5 with
                | .v (.int .i64 o_Main) =>
                  match o1 with
                  | .row .bool out false =>
                    match a0 with
                    | .ref 0 0 0 =>
                      match a1 with
                      | .full 1 =>
                        match a2 with
                        | .v (.int .i64 i) =>
                          match a3 with
                          | .v (.bool b) =>
                            match a4 with
                            | .v (.int .i64 v) =>
                              some ((⟨o_G, o_F, o_V, o_Fs, o_C, o_Main⟩ : IRs), out, i, b, v)
                            | _ => none
                          | _ => none
                        | _ => none
                      | _ => none
                    | _ => none
                  | _ => none
                | _ => none
              | _ => none
            | _ => none
          | _ => none
        | _ => none
      | _ => none
    | _ => none
  | _, _ => none
theorem dl38b_ok {s : TS U} {o : IRs} {out : List Bool} {i : Int} {b : Bool} {v : Int} (h : dl38b s = some (o, out, i, b, v)) : s = mkS (U := U) 45 ([2, 5, 6, 7, 8].zip ([.ref 0 0 0, .full 1, .v (.int .i64 i), .v (.bool b), .v (.int .i64 v)] : List (TV U))) ([o.ob, .row .bool out false] : List (TO U)) 0 := by
  unfold dl38b at h
  split at h <;> try (cases h; done)
  rename_i ht ho
  have hs := told_ok ht
  rw [ho] at hs
  repeat' split at h
  all_goals first | (cases h; done) | (cases h; exact hs)
def lc38b : LC U := .of dl38b (fun (o, out, i, b, v) => Pre62 out.length v) (.exit 2) (fun (o, out, i, b, v) => (E38b o i (rdP o (out, b))).2)
def S38a (o : IRs) (out : List Bool) (i : Int) : TS U := mkS 45 [(2, .ref 0 0 0), (5, .full 1), (6, .v (.int .i64 i))] [irOb o, .row .bool out false] 0
def E38a (out : List Bool) : Exit × TS U := (.exit 0, mkS 45 [(5, .full 0)] [.row .bool out false] 0)
theorem r38a (N : Nat) (o : IRs) (out : List
  Bool) (i : Int) : (fnLoop X Fg an38 (lpL [(2, lc38b)]) Try.f38 0 N.succ (S38a o out i)) =
  bif decide (i < (↑out.length : Int)) then
  if Pre62 out.length 0 then
    bif !(rdP o (out, false)).snd then
      some (Exit.exit 0, mkS 45 [(5, TV.full 0)] [TO.row C.bool (rdP o (out, false)).fst false] 0)
    else fnLoop X Fg an38 (lpL [(2, lc38b)]) Try.f38 0 N (S38a o (rdP o (out, false)).fst (IntKind.i64.wrap (i + 1)))
  else none
else some (Exit.exit 0, mkS 45 [(5, TV.full 0)] [TO.row C.bool out false] 0) := by kernel_rfl
end Go.Proofs.Ytgdnomnealjdlaa.Fl

/- What one comes to, by rounds, is what one comes to. -/
namespace Go.Proofs.Ytgdnomnealjdlaa.Fl
open Go Go.RowKit Go.Proofs.Ytgdnomnealjdlaa.Eng
set_option linter.unusedVariables false
set_option linter.unusedSimpArgs false
set_option maxRecDepth 20000
def behL (o : IRs) : Nat → List Bool → Int → List Bool
  | 0, out, _ => out
  | N + 1, out, i => cond (decide (i < (out.length : Int))) (cond (!(rdP o (out, false)).2) (rdP o (out, false)).1 (behL o N (rdP o (out, false)).1 (i + 1))) out
theorem rounds38a (o : IRs) (L : Nat) (hL : L ≤ 3000000) : ∀ (N : Nat) (out : List Bool) (i : Int), out.length = L → 0 ≤ i → (L : Int) ≤ i + N → fnLoop X Fg an38 (lpL [(2, lc38b)]) Try.f38 0 (N + 1) (S38a o out i) = some (E38a (behL o (N + 1) out i)) := by
  intro N
  induction N with
  | zero =>
    intro out i h h0 h1
    rw [r38a, behL, decide_eq_false (by omega)]
    rfl
  | succ N ih =>
    intro out i h h0 h1
    rw [r38a, behL]
    by_cases hi : i < (out.length : Int)
    · have hw : IntKind.i64.wrap (i + 1) = i + 1 := wrap_i64 (by omega) (by omega)
      have hp : Pre62 out.length 0 := ⟨by omega, rfl⟩
      rw [decide_eq_true hi, cond_true, if_pos hp, hw]
      have hr := rdP_len o (out, false)
      cases (rdP o (out, false)).2 with
      | false => rfl
      | true => exact ih _ _ (hr.trans h) (by omega) (by omega)
    · rw [decide_eq_false hi]; rfl
def dl38a (s : TS U) : Option (IRs × List Bool × Int) := match told s 45 [2, 5, 6] 0, s.objs with
  | some [a0, a1, a2], [o0, o1] =>
    match o0 with
    | .cells [q0, q1, q2, q3, q4, q5] false =>
      match q0 with
      | .lst .i64 o_G =>
        match q1 with
        | .lst .i64 o_F =>
          match q2 with
          | .lst .i64 o_V =>
            match q3 with
            | .lst .t69 o_Fs =>
              match q4 with
              | .lst .t65 o_C =>
                match q5 with
                | .v (.int .i64 o_Main) =>
                  match o1 with
                  | .row .bool out false =>
                    match a0 with
                    | .ref 0 0 0 =>
                      match a1 with
                      | .full 1 =>
                        match a2 with
                        | .v (.int .i64 i) =>
                          some ((⟨o_G, o_F, o_V, o_Fs, o_C, o_Main⟩ : IRs), out, i)
                        | _ => none
                      | _ => none
                    | _ => none
                  | _ => none
                | _ => none
              | _ => none
            | _ => none
          | _ => none
        | _ => none
      | _ => none
    | _ => none
  | _, _ => none
theorem dl38a_ok {s : TS U} {o : IRs} {out : List Bool} {i : Int} (h : dl38a s = some (o, out, i)) : s = mkS (U := U) 45 ([2, 5, 6].zip ([.ref 0 0 0, .full 1, .v (.int .i64 i)] : List (TV U))) ([o.ob, .row .bool out false] : List (TO U)) 0 := by
  unfold dl38a at h
  split at h <;> try (cases h; done)
  rename_i ht ho
  have hs := told_ok ht
  rw [ho] at hs
  repeat' split at h
  all_goals first | (cases h; done) | (cases h; exact hs)
def beh (o : IRs) (out : List Bool) : List Bool := behL o (out.length + 1) out 0
def lc38a : LC U := .of dl38a (fun (o, out, i) => Pre62 out.length i) (.exit 0) (fun (o, out, i) => (E38a (beh o out)).2)
def lp38 : Lp U := lpL [(0, lc38a), (2, lc38b)]
theorem lp38_ok : ∀ c, Try.f38.body = some c → LpOk X Fg an38 lp38 (loops c 0) := lpL_ok (by kernel_rfl) fun b L hm st p hs => by
  cases hm with
  | head =>
    obtain ⟨⟨o, out, i⟩, hx, ⟨h1, rfl⟩, rfl⟩ := LC.of_some hs
    obtain rfl := dl38a_ok hx
    exact ⟨_, rounds38a o out.length h1 out.length out 0 rfl (Int.le_refl 0) (by omega)⟩
  | tail _ hm => cases hm with
    | head =>
      obtain ⟨⟨o, out, i, b, v⟩, hx, ⟨h1, rfl⟩, rfl⟩ := LC.of_some hs
      obtain rfl := dl38b_ok hx
      exact ⟨_, rounds38b _ o i (out, b) h1⟩
    | tail _ hm => cases hm
theorem e38 (o : IRs) (n : Int) : (evFn X Fg an38 lp38 Try.f38 [] [irV o, TV.v (Value.int IntKind.i64 n)]
  fun (o : List (TO X.U)) (v : TV X.U) => some (o, v)) =
  if
    0 ≤ (↑o.C.length : Int) ∧
      (↑o.C.length : Int) = (↑o.C.length : Int) ∧
        (↑o.C.length : Int) ≤ 9223372036854775807 ∧ (↑1 : Int) * (↑o.C.length : Int) ≤ 281474976710656 then
  if True then
    if Pre62 (mkP o (List.replicate (↑o.C.length : Int).toNat false) n).fst.length 0 then
      some ([], TV.lst C.bool (beh o (mkP o (List.replicate (↑o.C.length : Int).toNat false) n).fst))
    else none
  else none
else none := by kernel_rfl
def behP (o : IRs) (n : Int) : List Bool := beh o (mkP o (List.replicate (o.C.length : Int).toNat false) n).1
def sBeh38 : Spc U := .of dIi (fun (o, n) => Sn o.C.length) (fun _ => []) fun (o, n) => .lst .bool (behP o n)
/-! ### The same -/
/-- All that is marked is come to; what comes first is marked. -/
structure Sd (o : IRs) (n : Int) (out : List Bool) : Prop where
  len : out.length = o.C.length
  sound : ∀ k, At out k → Comes o n k
  first : ∀ k ∈ nx o n, 0 ≤ k → k < (o.C.length : Int) → At out k
theorem Sd.mk1 {o : IRs} {n : Int} {out : List Bool} (h : Sd o n out) {m : Int} (hm : At out m) : Sd o n (mkP o out m).1 := by
  have hk := markL_ok (nx o m) (out, false)
  have hl := h.len
  refine ⟨(mkP_len o out m).trans hl, fun k hk' => ?_, fun k a b c => hk.keep k (h.first k a b c)⟩
  rcases hk.news k hk' with h1 | ⟨h1, h2⟩
  · exact h.sound k h1
  · exact .more (h.sound m hm) h1 hk'.1 (by dsimp only at h2; omega)
/-- In a round. -/
structure Rd (o : IRs) (n : Int) (out : List Bool) (r : List Bool × Bool) (v : Int) : Prop where
  sd : Sd o n r.1
  less : nf r.1 ≤ nf out
  same : r.2 = false → r.1 = out ∧ ∀ m, m < v → At out m → ∀ k ∈ nx o m, 0 ≤ k → k < (o.C.length : Int) → At out k
  new : r.2 = true → nf r.1 + 1 ≤ nf out
theorem Rd.step {o : IRs} {n : Int} {out : List Bool} {r : List Bool × Bool} {v : Int} (h : Rd o n out r v) (h0 : 0 ≤ v) : Rd o n out (rd1 o r v) (v + 1) := by
  unfold rd1
  split
  · rename_i hb
    have hat : At r.1 v := ⟨h0, hb⟩
    have hk := markL_ok (nx o v) (r.1, false)
    have hless := hk.less
    refine ⟨h.sd.mk1 hat, ?_, fun e => ?_, fun e => ?_⟩
    · have := h.less
      exact Nat.le_trans hless this
    · dsimp only at e
      cases e1 : (mkP o r.1 v).2 with
      | true => rw [e1] at e; cases e
      | false =>
        rw [e1] at e
        have e : r.2 = false := e
        obtain ⟨q1, q2⟩ := h.same e
        have e3 : (mkP o r.1 v).1 = r.1 := (hk.same e1).1
        refine ⟨e3.trans q1, fun m hm ha k a b c => ?_⟩
        by_cases hmv : m < v
        · exact q2 m hmv ha k a b c
        · obtain rfl : m = v := by omega
          have := hk.all k a b (by have := h.sd.len; dsimp only; omega)
          have e3' : (markL (nx o m) (r.1, false)).1 = r.1 := e3
          rw [e3', q1] at this
          exact this
    · dsimp only at e
      cases e1 : (mkP o r.1 v).2 with
      | true =>
        have := hk.new rfl e1
        have h2 := h.less
        show nf (markL (nx o v) (r.1, false)).1 + 1 ≤ nf out
        dsimp only at this
        omega
      | false =>
        rw [e1] at e
        have := h.new e
        show nf (markL (nx o v) (r.1, false)).1 + 1 ≤ nf out
        dsimp only at hless
        omega
  · rename_i hb
    refine ⟨h.sd, h.less, fun e => ?_, h.new⟩
    obtain ⟨q1, q2⟩ := h.same e
    refine ⟨q1, fun m hm ha k a b c => ?_⟩
    by_cases hmv : m < v
    · exact q2 m hmv ha k a b c
    · obtain rfl : m = v := by omega
      exact absurd (by rw [q1]; exact ha.2) hb
theorem rdP_rd {o : IRs} {n : Int} {out : List Bool} (h : Sd o n out) : Rd o n out (rdP o (out, false)) (out.length : Int) :=
  ixL_invV (I := Rd o n out) (fun c v hI h0 _ => hI.step h0) _ _ _ (Int.le_refl 0) (by omega) (by dsimp only; omega) ⟨h, Nat.le_refl _, fun _ => ⟨rfl, fun m hm ha => absurd ha.1 (by omega)⟩, fun e => by cases e⟩
theorem nf_zero : ∀ (l : List Bool) (k : Nat), nf l = 0 → k < l.length → l[k]? = some true
  | [], k, _, h => by cases h
  | b :: l, 0, h, _ => by
    cases b with
    | true => rfl
    | false => rw [nf, cond_false] at h; omega
  | b :: l, k + 1, h, hk => by
    rw [List.getElem?_cons_succ]
    exact nf_zero l k (by rw [nf] at h; omega) (by rw [List.length_cons] at hk; omega)
theorem Sd.full {o : IRs} {n : Int} {out : List Bool} (h : Sd o n out) (h0 : nf out = 0) : Good o n out :=
  ⟨h.len, h.sound, h.first, fun m _ k _ a b => ⟨a, nf_zero _ _ h0 (by have := h.len; omega)⟩⟩
theorem behL_good {o : IRs} {n : Int} : ∀ (N : Nat) (out : List Bool) (i : Int), Sd o n out → 0 ≤ i → (out.length : Int) ≤ i + N → (nf out : Int) + i ≤ out.length → Good o n (behL o (N + 1) out i) := by
  intro N
  induction N with
  | zero =>
    intro out i h h0 h1 h2
    rw [behL, decide_eq_false (by omega)]
    exact h.full (by omega)
  | succ N ih =>
    intro out i h h0 h1 h2
    rw [behL]
    by_cases hi : i < (out.length : Int)
    · rw [decide_eq_true hi, cond_true]
      have hr := rdP_rd h
      have hl := rdP_len o (out, false)
      cases e : (rdP o (out, false)).2 with
      | false =>
        obtain ⟨q1, q2⟩ := hr.same e
        rw [Bool.not_false, cond_true, q1]
        refine ⟨h.len, h.sound, h.first, fun m hm k a b c => q2 m ?_ hm k a b c⟩
        have := (List.getElem?_eq_some_iff.1 hm.2).1
        have := hm.1
        omega
      | true =>
        rw [Bool.not_true, cond_false]
        have := hr.new e
        dsimp only at hl
        exact ih _ _ hr.sd (by omega) (by omega) (by omega)
    · rw [decide_eq_false hi, cond_false]
      exact h.full (by omega)
theorem behP_good (o : IRs) (n : Int) : Good o n (behP o n) := by
  have hl : (List.replicate (o.C.length : Int).toNat false).length = o.C.length := by rw [List.length_replicate]; omega
  have hk := markL_ok (nx o n) (List.replicate (o.C.length : Int).toNat false, false)
  have hsd : Sd o n (mkP o (List.replicate (o.C.length : Int).toNat false) n).1 := by
    refine ⟨(mkP_len _ _ _).trans hl, fun k hk' => ?_, fun k a b c => hk.all k a b (by dsimp only; omega)⟩
    rcases hk.news k hk' with h1 | ⟨h1, h2⟩
    · exact absurd h1 (not_at _ k)
    · exact .one h1 hk'.1 (by dsimp only at h2; omega)
  have hnf := nf_le (mkP o (List.replicate (o.C.length : Int).toNat false) n).1
  exact behL_good _ _ _ hsd (Int.le_refl 0) (by omega) (by omega)
theorem behP_eq (o : IRs) (n : Int) : behP o n = reachP o n := (behP_good o n).same (reachP_good o n)
theorem sBeh38_ok : SpecOk Try.prog 38 sBeh38 := by
  refine fn_ok X_ok mixed Fg_ok an38 lp38 Try.func38 (by kernel_rfl) (by kernel_rfl) lp38_ok fun objs args x hx hp => ?_
  obtain ⟨o, n⟩ := x
  obtain ⟨rfl, rfl⟩ := dIi_ok hx
  dsimp only at hp ⊢
  have hp : o.C.length ≤ 3000000 := hp
  have hr : (List.replicate (o.C.length : Int).toNat false).length = o.C.length := by rw [List.length_replicate]; omega
  have h1 : Pre62 (mkP o (List.replicate (o.C.length : Int).toNat false) n).1.length 0 := ⟨by rw [mkP_len]; omega, rfl⟩
  refine (e38 o n).trans ?_
  rw [if_pos ⟨by omega, rfl, by omega, by omega⟩, if_pos trivial]
  exact if_pos h1
def Fh : FuncId → Option (Spc U)
  | 38 => some sBeh38
  | _ => none
theorem Fh_ok : ∀ f S, Fh f = some S → SpecOk Try.prog f S := fun f S h => by
  unfold Fh at h
  split at h
  · cases h; exact sBeh38_ok
  · cases h
theorem e16 (o : IRs) (n : Int) : (evFn X Fh an0 lp0 Try.f16 [] [irV o, TV.v (Value.int IntKind.i64 n)]
  fun (o : List (TO X.U)) (v : TV X.U) => some (o, v)) =
  bif decide (0 ≤ n) then
  bif decide (n < (↑o.C.length : Int)) then
    if Sn o.C.length then (getI (behP o n) n).bind fun (z : X.U.T C.bool) => some ([], TV.v (Value.bool z)) else none
  else some ([], TV.v (Value.bool false))
else some ([], TV.v (Value.bool false)) := by kernel_rfl
theorem sAgain16_ok : SpecOk Try.prog 16 sAgain := by
  refine fn_ok X_ok mixed Fh_ok an0 lp0 Try.func16 (by kernel_rfl) (by kernel_rfl) (lp0_ok (by kernel_rfl)) fun objs args x hx hp => ?_
  obtain ⟨o, n⟩ := x
  obtain ⟨rfl, rfl⟩ := dIi_ok hx
  dsimp only at hp ⊢
  refine (e16 o n).trans ?_
  rw [behP_eq]
  unfold agP
  by_cases h0 : 0 ≤ n
  · rw [decide_eq_true h0]
    by_cases h1 : n < (o.C.length : Int)
    · obtain ⟨z, hz, _⟩ := getI_lt (l := reachP o n) h0 (by rw [reachP_len]; exact h1)
      rw [decide_eq_true h1, hz]
      simp only [cond_true]
      rw [if_pos hp]
      rfl
    · rw [decide_eq_false h1]; rfl
  · rw [decide_eq_false h0]; rfl
end Go.Proofs.Ytgdnomnealjdlaa.Fl


/- Texts of this claim, put together: part 18. -/
import Derived.Test.YtgdnomnealjdlaaMfK
import Derived.Test.YtgdnomnealjdlaaMfL
import Derived.Test.YtgdnomnealjdlaaMfM
import Derived.Test.YtgdnomnealjdlaaMfN
import Derived.Test.YtgdnomnealjdlaaMfO
import Derived.Test.YtgdnomnealjdlaaMfP
import Derived.Test.YtgdnomnealjdlaaMfQ
/- The references' instructions: of a program, put together. -/
namespace Go.Proofs.Ytgdnomnealjdlaa.Fl
open Go Go.RowKit Go.Proofs.Ytgdnomnealjdlaa.Eng
set_option linter.unusedVariables false
set_option linter.unusedSimpArgs false
set_option maxRecDepth 20000
noncomputable def run36 (l : List (Nat × LC U)) (b : Nat) : Nat × LC U := (b, LC.run X Ez an36 l Try.f36 b)
noncomputable def in36 : List (Nat × LC U) := [run36 [] 6, run36 [] 8]
noncomputable def all36 : List (Nat × LC U) := [run36 [] 0, run36 [] 2, run36 in36 4, run36 [] 6, run36 [] 8]
def st6 (k : Int) (ps : List Int) (i : Int) : List Int := ps ++ [IntKind.i64.wrap (k + i)]
theorem rounds6 (l : List (Nat × LC U)) (t : TR) (o : IRs) (v : Int) (z : R90) (b : BS) (f : Int) (hz : z.Params.length ≤ 3000000) : fnLoop X Ez an36 (lpL l) Try.f36 6 (z.Params.length + 1) (S36c t o v z b [] f [(10, .v (.int .i64 0))]) = some (.exit 6, S36c t o v z b (ixL z.Params.length (st6 o.V.length) (z.Params.length + 1) [] 0) f []) :=
  ixL_rounds (fnl := fun n st => fnLoop X Ez an36 (lpL l) Try.f36 6 n st) (fun ps i => S36c t o v z b ps f [(10, .v (.int .i64 i))]) (fun ps => (.exit 6, S36c t o v z b ps f [])) (len := z.Params.length) (step := st6 o.V.length) (fun ps i => (ps.length : Int) = i) (fun ps i N hp h0 h1 => by
    have hw : IntKind.i64.wrap (i + 1) = i + 1 := wrap_i64 (by omega) (by omega)
    have hl : (ps.length + 1) * 8 ≤ 140737488355328 := by omega
    refine ⟨?_, by unfold st6; rw [List.length_append]; simp only [List.length_singleton]; omega⟩
    dsimp only
    rw [r6, decide_eq_true h1, hw, cond_true, if_pos hl]
    rfl) (fun ps i N _ h0 h1 => by dsimp only; rw [r6, decide_eq_false h1]; rfl) z.Params.length [] 0 (Int.le_refl 0) (by omega) rfl
def parI (o : IRs) (z : R90) : List Int := ixL z.Params.length (st6 o.V.length) (z.Params.length + 1) [] 0
def IRs.addV (o : IRs) (w : List Int) : IRs := ⟨o.G, o.F, o.V ++ w, o.Fs, o.C, o.Main⟩
def st8 (w : List Int) (d : R82) : List Int := w ++ [d.Type_]
theorem fold8 : ∀ (l : List R82) (w : List Int), l.foldl st8 w = w ++ l.map R82.Type_
  | [], w => by simp
  | d :: l, w => by rw [List.foldl_cons, fold8 l]; simp [st8]
theorem rounds8 (l : List (Nat × LC U)) (t : TR) (o : IRs) (v : Int) (z : R90) (b : BS) (ps : List Int) (f : Int) (hb : b.V.length ≤ 3000000) (ho : o.V.length + b.V.length ≤ 300000000) : fnLoop X Ez an36 (lpL l) Try.f36 8 (b.V.length + 1) (S36c t o v z b ps f [(11, .v (.int .i64 0))]) = some (.exit 8, S36c t (o.addV (b.V.map R82.Type_)) v z b ps f []) := by
  obtain ⟨g, fl, w, fs, c, m⟩ := o
  have h := ixL_rounds (fnl := fun n st => fnLoop X Ez an36 (lpL l) Try.f36 8 n st) (fun w i => S36c t ⟨g, fl, w, fs, c, m⟩ v z b ps f [(11, .v (.int .i64 i))]) (fun w => (.exit 8, S36c t ⟨g, fl, w, fs, c, m⟩ v z b ps f [])) (len := b.V.length) (step := stepI b.V st8) (fun w' i => (w'.length : Int) = w.length + i) (fun w' i N hp h0 h1 => by
    obtain ⟨d, hd, _⟩ := getI_lt h0 h1
    have hw : IntKind.i64.wrap (i + 1) = i + 1 := wrap_i64 (by omega) (by omega)
    have hl : (w'.length + 1) * 8 ≤ 140737488355328 := by dsimp only at ho; omega
    have hst : stepI b.V st8 w' i = w' ++ [d.Type_] := by unfold stepI; rw [hd]; rfl
    rw [hst]
    refine ⟨?_, by rw [List.length_append]; simp only [List.length_singleton]; omega⟩
    dsimp only
    rw [r8, decide_eq_true h1, hd, hw, cond_true, Option.bind_some, if_pos hl]) (fun w' i N _ h0 h1 => by dsimp only; rw [r8, decide_eq_false h1]; rfl) b.V.length w 0 (Int.le_refl 0) (by omega) (by omega)
  rw [ixL_all, fold8] at h
  exact h
/-- A function's instructions. -/
def codI (t : TR) (o : IRs) (v : Int) (z : R90) : List R65 := (lb1 t o v z).C
theorem codI_ne (t : TR) (o : IRs) (v : Int) (z : R90) : ∃ y ys, codI t o v z = y :: ys := by
  unfold codI lb1 BS.put
  cases h : [] ++ (blL z.Body (lb0 t o v z)).C ++ [⟨(blL z.Body (lb0 t o v z)).Fn, z.At, 16, -1, 0, 0, 0, 0, []⟩] with
  | nil => simp at h
  | cons y ys => exact ⟨y, ys, h⟩
/-- With one function more. -/
def lwF (t : TR) (o : IRs) (v : Int) (z : R90) : IRs := ⟨o.G, o.F, o.V ++ ([] ++ z.Params ++ z.Vars).map R82.Type_, o.Fs ++ [⟨z.Name, parI o z, z.Ret, o.C.length, (o.C ++ codI t o v z).length⟩], o.C ++ codI t o v z, cond (z.Name.toList == bMain.toList) v o.Main⟩
/-- Not too much so far. -/
def IrB (t : TR) (o : IRs) (l : List R90) : Prop := o.V.length + fnsW l ≤ 1000000 ∧ o.C.length + 3 * fnsW l ≤ 3000000 ∧ o.Fs.length + fnsW l ≤ 1000000
theorem lb1_V (t : TR) (o : IRs) (v : Int) (z : R90) : (lb1 t o v z).V = [] ++ z.Params ++ z.Vars := by
  have h := (blL_lk z.Body (lb0 t o v z)).trans (BS.Lk.put _ z.At (ins3 16 (-1) 0 0 0 0))
  obtain ⟨C, hC, _⟩ := h
  have : lb1 t o v z = { lb0 t o v z with C := C } := hC
  rw [this]
  rfl
theorem round4 {R : Type} {K : Exit → TS U → Option R} {t : TR} (ht : TrOk t) {o : IRs} {v : Int} {z : R90} (h0 : 0 ≤ v) (h1 : v < t.N.length) (hz : getI t.N v = some z) {r : List R90} (ho : IrB t o (z :: r)) (hw : fnW z ≤ 1000000) :
    evC X Ez an36 (lpL in36) L4 4 (S36 t o 6 v) K = K .normal (S36 t (lwF t o v z) 6 (IntKind.i64.wrap (v + 1))) ∧ IrB t (lwF t o v z) r := by
  obtain ⟨b1, b2, b3⟩ := ho
  rw [fnsW] at b1 b2 b3
  have hfw : fnW z = 1 + (z.Params.length + (z.Vars.length + cntL z.Body)) := rfl
  have hn := fnsW_len t.N
  obtain ⟨t1, t2, t3⟩ := ht
  have hV : ([] ++ z.Params ++ z.Vars).length = z.Params.length + z.Vars.length := by simp
  have hb0 : BSz (lb0 t o v z) := ⟨by show _ ≤ _; unfold lb0; dsimp only; omega, by show _ ≤ _; unfold lb0; dsimp only; omega, by show _ ≤ _; unfold lb0; dsimp only; omega, by show _ ≤ _; unfold lb0; dsimp only; omega⟩
  have k1 := blL_lk z.Body (lb0 t o v z)
  have k1l := k1.len
  have hc0 : (lb0 t o v z).C.length = 0 := rfl
  have k2 := (k1.trans (BS.Lk.put _ z.At (ins3 16 (-1) 0 0 0 0))).len
  have k3 : (codI t o v z).length ≤ 2 * cntL z.Body + 1 := by show (lb1 t o v z).C.length ≤ _; unfold lb1; omega
  have l1 : (0 + z.Params.length) * 32 ≤ 140737488355328 := by omega
  have l2 : (([] ++ z.Params).length + z.Vars.length) * 32 ≤ 140737488355328 := by rw [List.nil_append]; omega
  have l3 : PreBl (lb0 t o v z) (cntL z.Body) := ⟨hb0, by omega⟩
  have l4 : Sn (blL z.Body (lb0 t o v z)).C.length := by show _ ≤ _; omega
  have hbV : (lb1 t o v z).V.length = z.Params.length + z.Vars.length := by rw [lb1_V, hV]
  refine ⟨?_, ?_⟩
  · rw [hL4, evC_seq]
    obtain ⟨g, fl, w, fs, c, m⟩ := o
    rw [q0, decide_eq_true h1, cond_true]
    dsimp only
    rw [evC_seq, evC_block, q1, hz, Option.bind_some, if_pos l1, if_pos l2, if_pos l3, if_pos l4, hC16, evC_seq, evC_seq, q2]
    dsimp only
    rw [evC_block, evC_loop, n6]
    dsimp only
    have e6 : ∀ (K : Exit → TS U → Option R), (lpL in36).F 6 (S36c t ⟨g, fl, w, fs, c, m⟩ v z (lb1 t ⟨g, fl, w, fs, c, m⟩ v z) [] c.length [(10, .v (.int .i64 0))]) K = K (.exit 6) (S36c t ⟨g, fl, w, fs, c, m⟩ v z (lb1 t ⟨g, fl, w, fs, c, m⟩ v z) (parI ⟨g, fl, w, fs, c, m⟩ z) c.length []) := fun K =>
      run_F (X := X) Ez_ok (rounds6 [] t ⟨g, fl, w, fs, c, m⟩ v z _ _ (by omega)) K
    rw [e6]
    dsimp only
    rw [evC_seq, evC_seq, q4]
    dsimp only
    rw [evC_block, evC_loop, n8]
    dsimp only
    have e8 : ∀ (K : Exit → TS U → Option R), (lpL in36).F 8 (S36c t ⟨g, fl, w, fs, c, m⟩ v z (lb1 t ⟨g, fl, w, fs, c, m⟩ v z) (parI ⟨g, fl, w, fs, c, m⟩ z) c.length [(11, .v (.int .i64 0))]) K = K (.exit 8) (S36c t (IRs.addV ⟨g, fl, w, fs, c, m⟩ ((lb1 t ⟨g, fl, w, fs, c, m⟩ v z).V.map R82.Type_)) v z (lb1 t ⟨g, fl, w, fs, c, m⟩ v z) (parI ⟨g, fl, w, fs, c, m⟩ z) c.length []) := fun K =>
      run_F (X := X) Ez_ok (rounds8 [] t ⟨g, fl, w, fs, c, m⟩ v z _ _ _ (by omega) (by dsimp only at b1 ⊢; omega)) K
    rw [e8]
    dsimp only
    have hbq : lb1 t ⟨g, fl, w, fs, c, m⟩ v z = ⟨(lb1 t ⟨g, fl, w, fs, c, m⟩ v z).G, (lb1 t ⟨g, fl, w, fs, c, m⟩ v z).F, (lb1 t ⟨g, fl, w, fs, c, m⟩ v z).N, (lb1 t ⟨g, fl, w, fs, c, m⟩ v z).Fn, (lb1 t ⟨g, fl, w, fs, c, m⟩ v z).V, (lb1 t ⟨g, fl, w, fs, c, m⟩ v z).Base, (lb1 t ⟨g, fl, w, fs, c, m⟩ v z).First, codI t ⟨g, fl, w, fs, c, m⟩ v z⟩ := rfl
    obtain ⟨y, ys, hy⟩ := codI_ne t ⟨g, fl, w, fs, c, m⟩ v z
    rw [hy] at k3
    have hlw : lwF t ⟨g, fl, w, fs, c, m⟩ v z = ⟨g, fl, w ++ ([] ++ z.Params ++ z.Vars).map R82.Type_, fs ++ [⟨z.Name, parI ⟨g, fl, w, fs, c, m⟩ z, z.Ret, c.length, (c ++ y :: ys).length⟩], c ++ y :: ys, cond (z.Name.toList == bMain.toList) v m⟩ := by unfold lwF; rw [hy]
    rw [lb1_V, hbq, hy, hC25, evC_seq]
    unfold IRs.addV
    dsimp only at b1 b2 b3 ⊢
    rw [u5 _ _ _ _ _ _ _ _ _ _ _ _ _ _ _ _ _ _ _ _ _ _ _ (by omega)]
    dsimp only
    rw [evC_seq, q6]
    dsimp only
    rw [evC_seq, q7, if_pos (by omega)]
    dsimp only
    rw [q8, hlw]
    cases z.Name.toList == bMain.toList with
    | true => simp only [cond_true]; rw [q9]
    | false => simp only [cond_false]; rw [q9']
  · refine ⟨?_, ?_, ?_⟩
    · show (o.V ++ ([] ++ z.Params ++ z.Vars).map R82.Type_).length + _ ≤ _
      rw [List.length_append, List.length_map, hV]
      omega
    · show (o.C ++ codI t o v z).length + _ ≤ _
      rw [List.length_append]
      omega
    · show (o.Fs ++ [_]).length + _ ≤ _
      rw [List.length_append]
      simp only [List.length_singleton]
      omega
end Go.Proofs.Ytgdnomnealjdlaa.Fl

/- The references' instructions: of a program, the whole. -/
namespace Go.Proofs.Ytgdnomnealjdlaa.Fl
open Go Go.RowKit Go.Proofs.Ytgdnomnealjdlaa.Eng
set_option linter.unusedVariables false
set_option linter.unusedSimpArgs false
set_option maxRecDepth 20000
noncomputable def D0 : Code := match Try.f36.body with
  | some c => c
  | none => .skip
noncomputable def D5 : Code := sR (sR (sR (sR (sR D0))))
theorem hD0 : D0 = .seq (sL D0) (.seq (sL (sR D0)) (.seq (.seq (sL (sL (sR (sR D0)))) (.block 0 (.loop (loopAt Try.f36 0)))) (.seq (.seq (sL (sL (sR (sR (sR D0))))) (.block 2 (.loop (loopAt Try.f36 2)))) (.seq (.seq (sL (sL (sR (sR (sR (sR D0)))))) (.block 4 (.loop (loopAt Try.f36 4)))) D5)))) := by kernel_rfl
def wkIR : Lw U := .a [.l .i64, .l .i64, .l .i64, .l .t69, .l .t65, .no]
def irV (o : IRs) : TV U := .agg [.lst .i64 o.G, .lst .i64 o.F, .lst .i64 o.V, .lst .t69 o.Fs, .lst .t65 o.C, .v (.int .i64 o.Main)]
noncomputable def K36 : Exit → TS U → Option (List (TO U) × TV U) := fun ex s => match ex with
  | .ret => evFin X an36 Try.f36.results.toList s fun o v => some (o, wkIR.f v)
  | .normal => evFin X an36 Try.f36.results.toList s fun o v => some (o, wkIR.f v)
  | _ => none
theorem w00 (lp : Lp U) (t : TR) : evFn X Ez an36 lp Try.f36 [] [t.tv] (fun o v => some (o, wkIR.f v)) = evC X Ez an36 lp D0 0 (mkS 150 [(0, t.tv)] [] 0) K36 := by kernel_rfl
def sA (t : TR) (l : List (Nat × TV U)) : TS U := mkS 150 ([(0, t.tv), (1, .ref 0 0 0), (2, .ref 1 0 0), (3, .ref 2 0 0)] ++ l ++ [(12, .agg [nl, nl, nl, nl, nl, .v (.int .i64 0)])]) [t.ob, z26, z26] 0
theorem w0 (lp : Lp U) (R : Type) (K : Exit → TS U → Option R) (t : TR) (c : Code) : evC X Ez an36 lp (.seq (sL D0) (.seq (sL (sR D0)) c)) 0 (mkS 150 [(0, t.tv)] [] 0) K = evC X Ez an36 lp c 0 (sA t []) K := by kernel_rfl
theorem w2 (lp : Lp U) (R : Type) (K : Exit → TS U → Option R) (t : TR) : evC X Ez an36 lp (sL (sL (sR (sR D0)))) 0 (sA t []) K = K .normal (sA t [(4, .v (.int .i64 0))]) := by kernel_rfl
theorem n0 (t : TR) : evNorm (X := X) (an36.live 0) (sA t [(4, .v (.int .i64 0))]) = some (S36 t ⟨[], [], [], [], [], 0⟩ 4 0) := by kernel_rfl
theorem w6 (lp : Lp U) (R : Type) (K : Exit → TS U → Option R) (t : TR) (g : List Int) : evC X Ez an36 lp (sL (sL (sR (sR (sR D0))))) 0 (E36 t ⟨g, [], [], [], [], 0⟩) K = K .normal (S36 t ⟨g, [], [], [], [], 0⟩ 5 0) := by cases g <;> kernel_rfl
theorem n2 (t : TR) (g : List Int) : evNorm (X := X) (an36.live 2) (S36 t ⟨g, [], [], [], [], 0⟩ 5 0) = some (S36 t ⟨g, [], [], [], [], 0⟩ 5 0) := by cases g <;> kernel_rfl
theorem w10 (lp : Lp U) (R : Type) (K : Exit → TS U → Option R) (t : TR) (g f : List Int) : evC X Ez an36 lp (sL (sL (sR (sR (sR (sR D0)))))) 0 (E36 t ⟨g, f, [], [], [], 0⟩) K = K .normal (S36 t ⟨g, f, [], [], [], 0⟩ 6 0) := by cases g <;> cases f <;> kernel_rfl
theorem n4 (t : TR) (g fl w : List Int) (fs : List R69) (c : List R65) (m v : Int) : evNorm (X := X) (an36.live 4) (S36 t ⟨g, fl, w, fs, c, m⟩ 6 v) = some (S36 t ⟨g, fl, w, fs, c, m⟩ 6 v) := by
  cases g <;> cases fl <;> cases w <;> cases fs <;> cases c <;> kernel_rfl
theorem n4' (t : TR) (g fl w : List Int) (fs : List R69) (c : List R65) (m v : Int) : evNorm (X := X) (an36.out 4) (S36h t ⟨g, fl, w, fs, c, m⟩ v false) = some (E36' ⟨g, fl, w, fs, c, m⟩) := by
  cases g <;> cases fl <;> cases w <;> cases fs <;> cases c <;> kernel_rfl
theorem w30 (lp : Lp U) (g fl w : List Int) (fs : List R69) (c : List R65) (m : Int) : evC X Ez an36 lp D5 0 (E36' ⟨g, fl, w, fs, c, m⟩) K36 = some ([], irV ⟨g, fl, w, fs, c, m⟩) := by
  cases g <;> cases fl <;> cases w <;> cases fs <;> cases c <;> kernel_rfl
end Go.Proofs.Ytgdnomnealjdlaa.Fl

/- The references' instructions: of a program, proved. -/
namespace Go.Proofs.Ytgdnomnealjdlaa.Fl
open Go Go.RowKit Go.Proofs.Ytgdnomnealjdlaa.Eng
set_option linter.unusedVariables false
set_option linter.unusedSimpArgs false
set_option maxRecDepth 20000
theorem rounds36a (l : List (Nat × LC U)) (t : TR) (ht : t.G.length ≤ 1000000) : fnLoop X Ez an36 (lpL l) Try.f36 0 (t.G.length + 1) (S36 t ⟨[], [], [], [], [], 0⟩ 4 0) = some (.exit 0, E36 t ⟨t.G.map R82.Type_, [], [], [], [], 0⟩) := by
  have h := ixL_rounds (fnl := fun n st => fnLoop X Ez an36 (lpL l) Try.f36 0 n st) (fun g v => S36 t ⟨g, [], [], [], [], 0⟩ 4 v) (fun g => (.exit 0, E36 t ⟨g, [], [], [], [], 0⟩)) (len := t.G.length) (step := stepI t.G st8) (fun g v => (g.length : Int) = v) (fun g v N hp h0 h1 => by
    obtain ⟨d, hd, _⟩ := getI_lt h0 h1
    have hw : IntKind.i64.wrap (v + 1) = v + 1 := wrap_i64 (by omega) (by omega)
    have hl : (g.length + 1) * 8 ≤ 140737488355328 := by omega
    have hst : stepI t.G st8 g v = g ++ [d.Type_] := by unfold stepI; rw [hd]; rfl
    rw [hst]
    refine ⟨?_, by rw [List.length_append]; simp only [List.length_singleton]; omega⟩
    dsimp only
    rw [r36a, decide_eq_true h1, hd, hw, cond_true, Option.bind_some, if_pos hl]) (fun g v N _ h0 h1 => by dsimp only; rw [r36a, decide_eq_false h1]; rfl) t.G.length [] 0 (Int.le_refl 0) (by omega) rfl
  rw [ixL_all, fold8, List.nil_append] at h
  exact h
theorem rounds36b (l : List (Nat × LC U)) (t : TR) (g : List Int) (ht : t.F.length ≤ 1000000) : fnLoop X Ez an36 (lpL l) Try.f36 2 (t.F.length + 1) (S36 t ⟨g, [], [], [], [], 0⟩ 5 0) = some (.exit 2, E36 t ⟨g, t.F.map R82.Type_, [], [], [], 0⟩) := by
  have h := ixL_rounds (fnl := fun n st => fnLoop X Ez an36 (lpL l) Try.f36 2 n st) (fun f v => S36 t ⟨g, f, [], [], [], 0⟩ 5 v) (fun f => (.exit 2, E36 t ⟨g, f, [], [], [], 0⟩)) (len := t.F.length) (step := stepI t.F st8) (fun f v => (f.length : Int) = v) (fun f v N hp h0 h1 => by
    obtain ⟨d, hd, _⟩ := getI_lt h0 h1
    have hw : IntKind.i64.wrap (v + 1) = v + 1 := wrap_i64 (by omega) (by omega)
    have hl : (f.length + 1) * 8 ≤ 140737488355328 := by omega
    have hst : stepI t.F st8 f v = f ++ [d.Type_] := by unfold stepI; rw [hd]; rfl
    rw [hst]
    refine ⟨?_, by rw [List.length_append]; simp only [List.length_singleton]; omega⟩
    dsimp only
    rw [r36b, decide_eq_true h1, hd, hw, cond_true, Option.bind_some, if_pos hl]) (fun f v N _ h0 h1 => by dsimp only; rw [r36b, decide_eq_false h1]; rfl) t.F.length [] 0 (Int.le_refl 0) (by omega) rfl
  rw [ixL_all, fold8, List.nil_append] at h
  exact h
/-- With all functions. -/
def lwL (t : TR) : List R90 → IRs → Int → IRs
  | [], o, _ => o
  | z :: r, o, v => lwL t r (lwF t o v z) (v + 1)
theorem rounds36c {t : TR} (ht : TrOk t) : ∀ (r : List R90) (o : IRs) (v : Int), 0 ≤ v → t.N.drop v.toNat = r → IrB t o r → fnLoop X Ez an36 (lpL in36) Try.f36 4 (r.length + 1) (S36 t o 6 v) = some (.exit 4, E36' (lwL t r o v))
  | [], o, v, h0, hr, ho => by
    have hlen : ¬ v < (t.N.length : Int) := by
      have := congrArg List.length hr
      rw [List.length_drop, List.length_nil] at this
      omega
    obtain ⟨g, fl, w, fs, c, m⟩ := o
    show fnLoop X Ez an36 (lpL in36) Try.f36 4 1 _ = _
    rw [fnLoop_succ]
    show evC X Ez an36 (lpL in36) L4 4 _ _ = _
    rw [hL4, evC_seq, q0, decide_eq_false hlen, cond_false]
    dsimp only
    rw [n4']
    rfl
  | z :: r, o, v, h0, hr, ho => by
    have hlen : v < (t.N.length : Int) := by
      have := congrArg List.length hr
      rw [List.length_drop, List.length_cons] at this
      omega
    have hx : t.N[v.toNat]? = some t.N[v.toNat] := List.getElem?_eq_getElem (by omega)
    have hd : t.N.drop v.toNat = t.N[v.toNat] :: t.N.drop (v.toNat + 1) := List.drop_eq_getElem_cons (by omega)
    rw [hd] at hr
    injection hr with hz hr
    have hg : getI t.N v = some z := by unfold getI; rw [if_pos h0, hx, hz]
    have hfw : fnW z ≤ 1000000 := by
      have := fnsW_at t.N v.toNat z (by rw [hx, hz])
      have := ht.2.2
      omega
    have hw : IntKind.i64.wrap (v + 1) = v + 1 := wrap_i64 (by omega) (by have := fnsW_len t.N; have := ht.2.2; omega)
    rw [List.length_cons, fnLoop_succ]
    show evC X Ez an36 (lpL in36) L4 4 _ _ = _
    generalize hK : (fun (ex : Exit) (s' : TS X.U) => _ : Exit → TS X.U → Option (Exit × TS X.U)) = K1
    obtain ⟨he, hb⟩ := round4 (K := K1) ht h0 hlen hg ho hfw
    rw [he, ← hK, hw]
    dsimp only
    have hn := fun (o : IRs) => n4 t o.G o.F o.V o.Fs o.C o.Main (v + 1)
    rw [hn (lwF t o v z)]
    dsimp only
    rw [lwL]
    exact rounds36c ht r _ (v + 1) (by omega) (by rw [show (v + 1).toNat = v.toNat + 1 by omega]; exact hr) hb
/-- A program as instructions. -/
def lower (t : TR) : IRs := lwL t t.N ⟨t.G.map R82.Type_, t.F.map R82.Type_, [], [], [], 0⟩ 0
theorem e36 {t : TR} (ht : TrOk t) : evFn X Ez an36 (lpL all36) Try.f36 [] [t.tv] (fun o v => some (o, wkIR.f v)) = some ([], irV (lower t)) := by
  have e0 : ∀ (K : Exit → TS U → Option (List (TO U) × TV U)), (lpL all36).F 0 (S36 t ⟨[], [], [], [], [], 0⟩ 4 0) K = K (.exit 0) (E36 t ⟨t.G.map R82.Type_, [], [], [], [], 0⟩) := fun K => run_F (X := X) Ez_ok (rounds36a [] t ht.1) K
  have e2 : ∀ (g : List Int) (K : Exit → TS U → Option (List (TO U) × TV U)), (lpL all36).F 2 (S36 t ⟨g, [], [], [], [], 0⟩ 5 0) K = K (.exit 2) (E36 t ⟨g, t.F.map R82.Type_, [], [], [], 0⟩) := fun g K => run_F (X := X) Ez_ok (rounds36b [] t g ht.2.1) K
  have hb : IrB t ⟨t.G.map R82.Type_, t.F.map R82.Type_, [], [], [], 0⟩ t.N := by
    have := ht.2.2
    exact ⟨by show 0 + _ ≤ _; omega, by show 0 + _ ≤ _; omega, by show 0 + _ ≤ _; omega⟩
  have e4 : ∀ (K : Exit → TS U → Option (List (TO U) × TV U)), (lpL all36).F 4 (S36 t ⟨t.G.map R82.Type_, t.F.map R82.Type_, [], [], [], 0⟩ 6 0) K = K (.exit 4) (E36' (lower t)) := fun K => run_F (X := X) Ez_ok (rounds36c ht t.N _ 0 (Int.le_refl 0) rfl hb) K
  rw [w00, hD0, w0, evC_seq, evC_seq, w2]
  dsimp only
  rw [evC_block, evC_loop, n0]
  dsimp only
  rw [e0]
  dsimp only
  rw [evC_seq, evC_seq, w6]
  dsimp only
  rw [evC_block, evC_loop, n2]
  dsimp only
  rw [e2]
  dsimp only
  rw [evC_seq, evC_seq, w10]
  dsimp only
  rw [evC_block, evC_loop, n4]
  dsimp only
  rw [e4]
  dsimp only
  exact w30 _ (lower t).G (lower t).F (lower t).V (lower t).Fs (lower t).C (lower t).Main
theorem lp36_ok : ∀ c, Try.f36.body = some c → LpOk X Ez an36 (lpL all36) (loops c 0) := lpL_ok (by kernel_rfl) fun b L hm st p hs => by
  cases hm with
  | head => exact run_ok (ag_of (bs := []) (by kernel_rfl) fun i hi => by cases hi) hs
  | tail _ hm => cases hm with
    | head => exact run_ok (ag_of (bs := []) (by kernel_rfl) fun i hi => by cases hi) hs
    | tail _ hm => cases hm with
      | head => exact run_ok (ag_of (bs := [6, 8]) (by kernel_rfl) fun i hi R s K => by
          cases hi with
          | head => rfl
          | tail _ hi => cases hi with
            | head => rfl
            | tail _ hi => cases hi) hs
      | tail _ hm => cases hm with
        | head => exact run_ok (ag_of (bs := []) (by kernel_rfl) fun i hi => by cases hi) hs
        | tail _ hm => cases hm with
          | head => exact run_ok (ag_of (bs := []) (by kernel_rfl) fun i hi => by cases hi) hs
          | tail _ hm => cases hm
noncomputable def sLower : Spc U := .of dT (fun t => TrOk t) (fun _ => []) fun t => irV (lower t)
theorem sLower_ok : SpecOk Try.prog 36 sLower := by
  refine fn_okw wkIR X_ok mixed Ez_ok an36 (lpL all36) Try.func36 (by kernel_rfl) (by kernel_rfl) lp36_ok fun objs args t hx hp => ?_
  obtain ⟨rfl, rfl⟩ := dT_ok hx
  exact e36 hp
end Go.Proofs.Ytgdnomnealjdlaa.Fl

/- A program that is given. -/
namespace Go.Proofs.Ytgdnomnealjdlaa.Fl
open Go Go.RowKit Go.Proofs.Ytgdnomnealjdlaa.Eng
set_option linter.unusedVariables false
set_option linter.unusedSimpArgs false
set_option maxRecDepth 20000
noncomputable def Fa : FuncId → Option (Spc U)
  | 34 => some sParse
  | 35 => some sCheck
  | 36 => some sLower
  | _ => none
theorem Fa_ok : ∀ f S, Fa f = some S → SpecOk Try.prog f S := fun f S h => by
  unfold Fa at h
  split at h
  · cases h; exact sParse_ok
  · cases h; exact sCheck_ok
  · cases h; exact sLower_ok
  · cases h
def an10 : Ann := ⟨fun | 0 => 452 | _ => 0, fun | 0 => 204 | _ => 0, fun _ => [], false⟩
def irOb (o : IRs) : TO U := .cells [.lst .i64 o.G, .lst .i64 o.F, .lst .i64 o.V, .lst .t69 o.Fs, .lst .t65 o.C, .v (.int .i64 o.Main)] false
def S10 (o : IRs) (c : Int × Int) (v : Int) : TS U := mkS 95 [(2, .ref 0 0 0), (6, .v (.int .i64 c.1)), (7, .v (.int .i64 c.2)), (8, .v (.int .i64 v))] [irOb o] 0
def E10 (o : IRs) (c : Int × Int) : Exit × TS U := (.exit 0, mkS 95 [(2, .ref 0 0 0), (6, .v (.int .i64 c.1)), (7, .v (.int .i64 c.2))] [irOb o] 0)
theorem r10 (lp : Lp U) (N : Nat) (o : IRs) (c : Int × Int) (v : Int) : fnLoop X Fa an10 lp Try.f10 0 (N + 1) (S10 o c v) = cond (decide (v < (o.C.length : Int))) ((getI o.C v).bind fun z => cond (decide (z.Op = 6))
      ((getI o.C v).bind fun z => cond (decide (8 ≤ z.Op)) ((getI o.C v).bind fun z => cond (decide (z.Op ≤ 11)) (fnLoop X Fa an10 lp Try.f10 0 N (S10 o (IntKind.i64.wrap (c.1 + 1), IntKind.i64.wrap (c.2 + 1)) (IntKind.i64.wrap (v + 1)))) (fnLoop X Fa an10 lp Try.f10 0 N (S10 o (IntKind.i64.wrap (c.1 + 1), c.2) (IntKind.i64.wrap (v + 1))))) (fnLoop X Fa an10 lp Try.f10 0 N (S10 o (IntKind.i64.wrap (c.1 + 1), c.2) (IntKind.i64.wrap (v + 1)))))
      ((getI o.C v).bind fun z => cond (decide (8 ≤ z.Op)) ((getI o.C v).bind fun z => cond (decide (z.Op ≤ 11)) (fnLoop X Fa an10 lp Try.f10 0 N (S10 o (c.1, IntKind.i64.wrap (c.2 + 1)) (IntKind.i64.wrap (v + 1)))) (fnLoop X Fa an10 lp Try.f10 0 N (S10 o c (IntKind.i64.wrap (v + 1))))) (fnLoop X Fa an10 lp Try.f10 0 N (S10 o c (IntKind.i64.wrap (v + 1)))))) (some (E10 o c)) := by kernel_rfl
def cnt10 (c : Int × Int) (z : R65) : Int × Int := (cond (decide (z.Op = 6)) (c.1 + 1) c.1, cond (decide (8 ≤ z.Op) && decide (z.Op ≤ 11)) (c.2 + 1) c.2)
def cnts (o : IRs) : Int × Int := o.C.foldl cnt10 (0, 0)
theorem cnt10_in (c : Int × Int) (z : R65) : (cnt10 c z).1 ≤ c.1 + 1 ∧ c.1 ≤ (cnt10 c z).1 ∧ (cnt10 c z).2 ≤ c.2 + 1 ∧ c.2 ≤ (cnt10 c z).2 := by
  unfold cnt10
  cases decide (z.Op = 6) <;> cases (decide (8 ≤ z.Op) && decide (z.Op ≤ 11)) <;> dsimp only [cond_true, cond_false] <;> omega
theorem rounds10 (lp : Lp U) (o : IRs) (ho : o.C.length ≤ 3000000) : fnLoop X Fa an10 lp Try.f10 0 (o.C.length + 1) (S10 o (0, 0) 0) = some (E10 o (cnts o)) := by
  have h := ixL_rounds (fnl := fun n st => fnLoop X Fa an10 lp Try.f10 0 n st) (fun c v => S10 o c v) (E10 o) (len := o.C.length) (step := stepI o.C cnt10) (fun c v => 0 ≤ c.1 ∧ c.1 ≤ v ∧ 0 ≤ c.2 ∧ c.2 ≤ v) (fun c v N hc h0 h1 => by
    obtain ⟨z, hz, _⟩ := getI_lt h0 h1
    have hw : IntKind.i64.wrap (v + 1) = v + 1 := wrap_i64 (by omega) (by omega)
    have hw1 : IntKind.i64.wrap (c.1 + 1) = c.1 + 1 := wrap_i64 (by omega) (by omega)
    have hw2 : IntKind.i64.wrap (c.2 + 1) = c.2 + 1 := wrap_i64 (by omega) (by omega)
    have hst : stepI o.C cnt10 c v = cnt10 c z := by unfold stepI; rw [hz]
    have hin := cnt10_in c z
    rw [hst]
    refine ⟨?_, by omega, by omega, by omega, by omega⟩
    dsimp only
    rw [r10, decide_eq_true h1, hz]
    simp only [cond_true, Option.bind_some, hw, hw1, hw2]
    unfold cnt10
    cases decide (z.Op = 6) <;> cases decide (8 ≤ z.Op) <;> cases decide (z.Op ≤ 11) <;> rfl) (fun c v N _ h0 h1 => by dsimp only; rw [r10, decide_eq_false h1]; rfl) o.C.length (0, 0) 0 (Int.le_refl 0) (by omega) ⟨Int.le_refl 0, Int.le_refl 0, Int.le_refl 0, Int.le_refl 0⟩
  rw [ixL_all] at h
  exact h
def IRs.ob (o : IRs) : TO U := irOb o
def d10 (s : TS U) : Option (IRs × Int × Int × Int) := match told s 95 [2, 6, 7, 8] 0, s.objs with
  | some [a0, a1, a2, a3], [o0] =>
    match o0 with
    | .cells [q0, q1, q2, q3, q4, q5] false =>
      match q0 with
      | .lst .i64 o_G =>
        match q1 with
        | .lst .i64 o_F =>
          match q2 with
          | .lst .i64 o_V =>
            match q3 with
            | .lst .t69 o_Fs =>
              match q4 with
              | .lst .t65 o_C =>
                match q5 with
                | .v (.int .i64 o_Main) =>
                  match a0 with
                  | .ref 0 0 0 =>
                    match a1 with
                    | .v (.int .i64 a) =>
                      match a2 with
                      | .v (.int .i64 b) =>
                        match a3 with
                        | .v (.int .i64 v) =>
                          some ((⟨o_G, o_F, o_V, o_Fs, o_C, o_Main⟩ : IRs), a, b, v)
                        | _ => none
                      | _ => none
                    | _ => none
                  | _ => none
                | _ => none
              | _ => none
            | _ => none
          | _ => none
        | _ => none
      | _ => none
    | _ => none
  | _, _ => none
theorem d10_ok {s : TS U} {o : IRs} {a : Int} {b : Int} {v : Int} (h : d10 s = some (o, a, b, v)) : s = mkS (U := U) 95 ([2, 6, 7, 8].zip ([.ref 0 0 0, .v (.int .i64 a), .v (.int .i64 b), .v (.int .i64 v)] : List (TV U))) ([o.ob] : List (TO U)) 0 := by
  unfold d10 at h
  split at h <;> try (cases h; done)
  rename_i ht ho
  have hs := told_ok ht
  rw [ho] at hs
  repeat' split at h
  all_goals first | (cases h; done) | (cases h; exact hs)
def Pre10 (n : Nat) (a b v : Int) : Prop := n ≤ 3000000 ∧ a = 0 ∧ b = 0 ∧ v = 0
instance (n : Nat) (a b v : Int) : Decidable (Pre10 n a b v) := by unfold Pre10; infer_instance
def lc10 : LC U := .of d10 (fun (o, a, b, v) => Pre10 o.C.length a b v) (.exit 0) (fun (o, a, b, v) => (E10 o (cnts o)).2)
def lp10 : Lp U := lpL [(0, lc10)]
theorem lp10_ok : ∀ c, Try.f10.body = some c → LpOk X Fa an10 lp10 (loops c 0) := lpL_ok (by kernel_rfl) fun b L hm st p hs => by
  cases hm with
  | tail _ h => cases h
  | head =>
    obtain ⟨⟨o, a, b, v⟩, hx, ⟨h1, rfl, rfl, rfl⟩, rfl⟩ := LC.of_some hs
    obtain rfl := d10_ok hx
    exact ⟨_, rounds10 _ o h1⟩
def wkG : Lw U := .a [wkIR, .no]
theorem e10 (s : ByteArray) : (evFn X Fa an10 lp10 Try.f10 [] [TV.v (Value.string s)]
  fun (o : List (TO X.U)) (v : TV X.U) => some (o, wkG.f v)) =
  (cutB s none (some (if 3000 < (↑s.size : Int) then 3000 else (↑s.size : Int)))).bind fun (c : ByteArray) =>
  if c.size ≤ 100000 then
    bif !decide ((parseP c).snd.fst = 0) then
      some
        ([],
          TV.tup
            [TV.agg
                [TV.lst C.i64 [], TV.lst C.i64 [], TV.lst C.i64 [], TV.lst C.t69 [], TV.lst C.t65 [],
                  TV.v (Value.int IntKind.i64 0)],
              TV.v (Value.bool false)])
    else
      if TrOk (parseP c).fst then
        bif !decide ((chk (parseP c).fst).Code = 0) then
          some
            ([],
              TV.tup
                [TV.agg
                    [TV.lst C.i64 [], TV.lst C.i64 [], TV.lst C.i64 [], TV.lst C.t69 [], TV.lst C.t65 [],
                      TV.v (Value.int IntKind.i64 0)],
                  TV.v (Value.bool false)])
        else
          if TrOk (parseP c).fst then
            if Pre10 (lower (parseP c).fst).C.length 0 0 0 then
              bif decide ((↑(lower (parseP c).fst).C.length : Int) ≤ 160) then
                bif decide ((cnts (lower (parseP c).fst)).fst ≤ 12) then
                  bif decide ((cnts (lower (parseP c).fst)).snd ≤ 50) then
                    bif decide ((↑(lower (parseP c).fst).V.length : Int) ≤ 60) then
                      bif decide ((↑(lower (parseP c).fst).F.length : Int) ≤ 6) then
                        some
                          ([],
                            TV.tup
                              [irV (lower (parseP c).fst),
                                TV.v (Value.bool (decide ((↑(lower (parseP c).fst).G.length : Int) ≤ 12)))])
                      else some ([], TV.tup [irV (lower (parseP c).fst), TV.v (Value.bool false)])
                    else some ([], TV.tup [irV (lower (parseP c).fst), TV.v (Value.bool false)])
                  else some ([], TV.tup [irV (lower (parseP c).fst), TV.v (Value.bool false)])
                else some ([], TV.tup [irV (lower (parseP c).fst), TV.v (Value.bool false)])
              else some ([], TV.tup [irV (lower (parseP c).fst), TV.v (Value.bool false)])
            else none
          else none
      else none
  else none := by kernel_rfl
theorem lwL_B {t : TR} (ht : TrOk t) : ∀ (r : List R90) (o : IRs) (v : Int), 0 ≤ v → t.N.drop v.toNat = r → IrB t o r → IrB t (lwL t r o v) []
  | [], o, v, h0, hr, ho => ho
  | z :: r, o, v, h0, hr, ho => by
    have hlen : v < (t.N.length : Int) := by
      have := congrArg List.length hr
      rw [List.length_drop, List.length_cons] at this
      omega
    have hx : t.N[v.toNat]? = some t.N[v.toNat] := List.getElem?_eq_getElem (by omega)
    have hd : t.N.drop v.toNat = t.N[v.toNat] :: t.N.drop (v.toNat + 1) := List.drop_eq_getElem_cons (by omega)
    rw [hd] at hr
    injection hr with hz hr
    have hg : getI t.N v = some z := by unfold getI; rw [if_pos h0, hx, hz]
    have hfw : fnW z ≤ 1000000 := by
      have := fnsW_at t.N v.toNat z (by rw [hx, hz])
      have := ht.2.2
      omega
    have hb := (round4 (R := Unit) (K := fun _ _ => none) ht h0 hlen hg ho hfw).2
    rw [lwL]
    exact lwL_B ht r _ (v + 1) (by omega) (by rw [show (v + 1).toNat = v.toNat + 1 by omega]; exact hr) hb
theorem lower_B {t : TR} (ht : TrOk t) : (lower t).V.length ≤ 1000000 ∧ (lower t).C.length ≤ 3000000 ∧ (lower t).Fs.length ≤ 1000000 := by
  have hb : IrB t ⟨t.G.map R82.Type_, t.F.map R82.Type_, [], [], [], 0⟩ t.N := by
    have := ht.2.2
    exact ⟨by show 0 + _ ≤ _; omega, by show 0 + _ ≤ _; omega, by show 0 + _ ≤ _; omega⟩
  obtain ⟨a, b, c⟩ := lwL_B ht t.N _ 0 (Int.le_refl 0) rfl hb
  rw [fnsW] at a b c
  exact ⟨a, b, c⟩
theorem parse_ok {s : ByteArray} (h : s.size ≤ 100000) : TrOk (parseP s).1 := by
  have h0 := ps0_ok h
  have h1 := (progL_ok ((ps0 s).left + 1) (ps0 s) [] [] [] h0).2
  have h2 := h0.left_le
  have h3 := h0.len
  have e : progL ((ps0 s).left + 1) (ps0 s) [] [] [] = progP (ps0 s) := rfl
  rw [e] at h1
  unfold prW at h1
  simp only [List.length_nil, fnsW] at h1
  have hz : TrOk ⟨[], [], []⟩ := ⟨Nat.zero_le _, Nat.zero_le _, Nat.zero_le _⟩
  unfold parseP
  cases lexF s with
  | true => exact hz
  | false =>
    cases !decide ((progP (ps0 s)).q.Code = 0) with
    | true => exact hz
    | false => exact ⟨by show (progP (ps0 s)).g.length ≤ _; omega, by show (progP (ps0 s)).f.length ≤ _; omega, by show fnsW (progP (ps0 s)).n ≤ _; omega⟩
end Go.Proofs.Ytgdnomnealjdlaa.Fl

/- A program that is given, proved; what comes behind an instruction. -/
namespace Go.Proofs.Ytgdnomnealjdlaa.Fl
open Go Go.RowKit Go.Proofs.Ytgdnomnealjdlaa.Eng
set_option linter.unusedVariables false
set_option linter.unusedSimpArgs false
set_option maxRecDepth 20000
def cut3 (s : ByteArray) : ByteArray := (cutB s none (some (if 3000 < (s.size : Int) then 3000 else (s.size : Int)))).getD ⟨#[]⟩
theorem cut3_ok (s : ByteArray) : cutB s none (some (if 3000 < (s.size : Int) then 3000 else (s.size : Int))) = some (cut3 s) ∧ (cut3 s).size ≤ 100000 := by
  have h : ∀ m : Int, 0 ≤ m → m ≤ s.size → m ≤ 3000 → cutB s none (some m) = some (s.extract 0 m.toNat) ∧ (s.extract 0 m.toNat).size ≤ 100000 := fun m h0 h1 h2 => by
    refine ⟨if_pos ⟨h0, h1⟩, ?_⟩
    rw [ByteArray.size_extract]
    omega
  unfold cut3
  split
  · rename_i hm
    obtain ⟨a, b⟩ := h 3000 (by decide) (by omega) (by decide)
    rw [a]
    exact ⟨rfl, b⟩
  · obtain ⟨a, b⟩ := h (s.size : Int) (by omega) (Int.le_refl _) (by omega)
    rw [a]
    exact ⟨rfl, b⟩
def ir0 : IRs := ⟨[], [], [], [], [], 0⟩
def okG (o : IRs) : Bool := decide ((o.C.length : Int) ≤ 160) && (decide ((cnts o).1 ≤ 12) && (decide ((cnts o).2 ≤ 50) && (decide ((o.V.length : Int) ≤ 60) && (decide ((o.F.length : Int) ≤ 6) && decide ((o.G.length : Int) ≤ 12)))))
/-- A program that is given; whether it is one. -/
def given (s : ByteArray) : IRs × Bool := cond (!decide ((parseP (cut3 s)).2.1 = 0)) (ir0, false) (cond (!decide ((chk (parseP (cut3 s)).1).Code = 0)) (ir0, false) (lower (parseP (cut3 s)).1, okG (lower (parseP (cut3 s)).1)))
def sGiven : Spc U := .of dstr (fun _ => True) (fun _ => []) fun s => .tup [irV (given s).1, .v (.bool (given s).2)]
theorem sGiven_ok : SpecOk Try.prog 10 sGiven := by
  refine fn_okw wkG X_ok mixed Fa_ok an10 lp10 Try.func10 (by kernel_rfl) (by kernel_rfl) lp10_ok fun objs args s hp h => ?_
  obtain ⟨rfl, rfl⟩ := dstr_ok hp
  dsimp only
  obtain ⟨h1, h2⟩ := cut3_ok s
  have h3 := parse_ok h2
  have h4 := (lower_B h3).2.1
  refine (e10 s).trans ?_
  rw [h1, Option.bind_some, if_pos h2]
  unfold given okG
  cases decide ((parseP (cut3 s)).2.1 = 0) with
  | false => rfl
  | true =>
    simp only [Bool.not_true, cond_false]
    rw [if_pos h3]
    cases decide ((chk (parseP (cut3 s)).1).Code = 0) with
    | false => rfl
    | true =>
      simp only [Bool.not_true, cond_false]
      rw [if_pos h3, if_pos ⟨h4, rfl, rfl, rfl⟩]
      generalize lower (parseP (cut3 s)).1 = o
      cases decide ((o.C.length : Int) ≤ 160) with
      | false => rfl
      | true =>
        cases decide ((cnts o).1 ≤ 12) with
        | false => rfl
        | true =>
          cases decide ((cnts o).2 ≤ 50) with
          | false => rfl
          | true =>
            cases decide ((o.V.length : Int) ≤ 60) with
            | false => rfl
            | true => cases decide ((o.F.length : Int) ≤ 6) <;> rfl
theorem given_C (s : ByteArray) : (given s).1.C.length ≤ 3000000 := by
  have h := (lower_B (parse_ok (cut3_ok s).2)).2.1
  unfold given
  cases !decide ((parseP (cut3 s)).2.1 = 0) with
  | true => exact Nat.zero_le _
  | false =>
    cases !decide ((chk (parseP (cut3 s)).1).Code = 0) with
    | true => exact Nat.zero_le _
    | false => exact h
theorem given_ok {s : ByteArray} (h : (given s).2 = true) : (given s).1.C.length ≤ 160 := by
  unfold given at h ⊢
  revert h
  cases !decide ((parseP (cut3 s)).2.1 = 0) with
  | true => intro h; cases h
  | false =>
    cases !decide ((chk (parseP (cut3 s)).1).Code = 0) with
    | true => intro h; cases h
    | false =>
      intro h
      have h : okG (lower (parseP (cut3 s)).1) = true := h
      unfold okG at h
      rw [Bool.and_eq_true] at h
      have := of_decide_eq_true h.1
      show (lower (parseP (cut3 s)).1).C.length ≤ 160
      omega
def wkL : Lw U := .l .i64
def an13 : Ann := ⟨fun _ => 0, fun _ => 0, fun _ => [], false⟩
def an14 : Ann := ⟨fun _ => 0, fun _ => 0, fun _ => [], false⟩
theorem e13 (o : IRs) (n : Int) : (evFn X (fun (x : FuncId) => none) an13 lp0 Try.f13 []
  [irV o, TV.v (Value.int IntKind.i64 n)] fun (o : List (TO X.U)) (v : TV X.U) => some (o, wkL.f v)) =
  bif decide (n < 0) then some ([], TV.lst C.i64 [])
else
  bif decide ((↑o.C.length : Int) ≤ n) then some ([], TV.lst C.i64 [])
  else
    (getI o.C n).bind fun (z : X.U.T C.t65) =>
      bif decide (z.Op = 16) then some ([], TV.lst C.i64 [])
      else
        bif decide (z.Op = 17) then some ([], TV.lst C.i64 [z.B])
        else
          bif decide (z.Op = 18) then
            bif decide (z.B = z.C) then some ([], TV.lst C.i64 [z.B]) else some ([], TV.lst C.i64 [z.B, z.C])
          else some ([], TV.lst C.i64 [IntKind.i64.wrap (n + 1)]) := by kernel_rfl
theorem e14 (o : IRs) (n : Int) : (evFn X (fun (x : FuncId) => none) an14 lp0 Try.f14 []
  [irV o, TV.v (Value.int IntKind.i64 n)] fun (o : List (TO X.U)) (v : TV X.U) => some (o, wkL.f v)) =
  bif decide (n < 0) then some ([], TV.lst C.i64 [])
else
  bif decide ((↑o.C.length : Int) ≤ n) then some ([], TV.lst C.i64 [])
  else
    (getI o.C n).bind fun (z : X.U.T C.t65) =>
      bif decide (z.Op = 16) then some ([], TV.lst C.i64 [])
      else
        bif decide (z.Op = 17) then some ([], TV.lst C.i64 [z.B])
        else
          bif decide (z.Op = 18) then
            bif !decide (z.B = z.C) then some ([], TV.lst C.i64 [z.B, z.C]) else some ([], TV.lst C.i64 [z.B])
          else some ([], TV.lst C.i64 [IntKind.i64.wrap (n + 1)]) := by kernel_rfl
end Go.Proofs.Ytgdnomnealjdlaa.Fl

/- What a function comes to, told by cases. -/
namespace Go.Proofs.Ytgdnomnealjdlaa.Eng
open Go Go.RowKit
set_option linter.unusedVariables false
def Spc.ofG {U : Univ} {A : Type} (d : List (TO U) → List (TV U) → Option A) (pre : A → Prop) [DecidablePred pre] (G : {R : Type} → A → (List (TO U) → TV U → Option R) → Option R) (o : A → List (TO U)) (v : A → TV U) (hG : ∀ {R : Type} (x : A) (k : List (TO U) → TV U → Option R), G x k = k (o x) (v x)) : Spc U := ⟨fun objs args k => match d objs args with
  | some x => if pre x then G x k else none
  | none => none⟩
theorem SpecOk.ofG {P : Program} {U : Univ} {fid : FuncId} {S0 : Spc U} (h0 : SpecOk P fid S0) {A : Type} {d : List (TO U) → List (TV U) → Option A} {pre : A → Prop} [DecidablePred pre] {G : {R : Type} → A → (List (TO U) → TV U → Option R) → Option R} {o : A → List (TO U)} {v : A → TV U} (hG : ∀ {R : Type} (x : A) (k : List (TO U) → TV U → Option R), G x k = k (o x) (v x))
    (h : ∀ objs args x, d objs args = some x → pre x → S0.F objs args (fun o v => some (o, v)) = some (o x, v x)) : SpecOk P fid (Spc.ofG d pre G o v hG) := by
  refine SpecOk.of_ev h0 (fun objs args => ?_) fun objs args o' v' h' => ?_
  · intro R k r h'
    unfold Spc.ofG at h' ⊢
    dsimp only at h' ⊢
    cases hd : d objs args with
    | none => rw [hd] at h'; cases h'
    | some x =>
      rw [hd] at h'
      dsimp only at h' ⊢
      split at h' <;> try (cases h'; done)
      rename_i hp
      rw [hG] at h'
      exact ⟨_, _, h', fun k' => by rw [if_pos hp, hG]⟩
  · unfold Spc.ofG at h'
    dsimp only at h'
    cases hd : d objs args with
    | none => rw [hd] at h'; cases h'
    | some x =>
      rw [hd] at h'
      dsimp only at h'
      split at h' <;> try (cases h'; done)
      rename_i hp
      rw [hG] at h'
      cases h'
      exact h _ _ _ hd hp
theorem fn_okG {P : Program} {X : Cx} (hX : CxOk P X) (hm : P.follows .mixedOrders = true) {E : FuncId → Option (Spc X.U)} (hE : ∀ f S, E f = some S → SpecOk P f S) (an : Ann) (lp : Lp X.U) {fid : FuncId} {fn : Func} (hf : P.funcs[fid]? = some fn) (hname : (fn.name == "runtime.NumGoroutine") = false) (hcode : (match fn.body with | some c => codeOk fn.ntmps c | none => false) = true)
    (hL : ∀ c, fn.body = some c → LpOk X E an lp (loops c 0)) {A : Type} {d : List (TO X.U) → List (TV X.U) → Option A} {pre : A → Prop} [DecidablePred pre] {G : {R : Type} → A → (List (TO X.U) → TV X.U → Option R) → Option R} {o : A → List (TO X.U)} {v : A → TV X.U} (hG : ∀ {R : Type} (x : A) (k : List (TO X.U) → TV X.U → Option R), G x k = k (o x) (v x))
    (h : ∀ objs args x, d objs args = some x → pre x → evFn X E an lp fn objs args (fun o v => some (o, v)) = some (o x, v x)) : SpecOk P fid (Spc.ofG d pre G o v hG) :=
  SpecOk.ofG (specFn_ok hX hm hE an lp hf hname hcode hL) hG h
end Go.Proofs.Ytgdnomnealjdlaa.Eng

/- What comes behind an instruction; lists that are the same. -/
namespace Go.Proofs.Ytgdnomnealjdlaa.Fl
open Go Go.RowKit Go.Proofs.Ytgdnomnealjdlaa.Eng
set_option linter.unusedVariables false
set_option linter.unusedSimpArgs false
set_option maxRecDepth 20000
def IRs.tv (o : IRs) : TV U := irV o
def dIi (objs : List (TO U)) (args : List (TV U)) : Option (IRs × Int) := match objs, args with
  | [], [a0, a1] =>
    match a0 with
    | .agg [q0, q1, q2, q3, q4, q5] =>
      match q0 with
      | .lst .i64 o_G =>
        match q1 with
        | .lst .i64 o_F =>
          match q2 with
          | .lst .i64 o_V =>
            match q3 with
            | .lst .t69 o_Fs =>
              match q4 with
              | .lst .t65 o_C =>
                match q5 with
                | .v (.int .i64 o_Main) =>
                  match a1 with
                  | .v (.int .i64 n) =>
                    some ((⟨o_G, o_F, o_V, o_Fs, o_C, o_Main⟩ : IRs), n)
                  | _ => none
                | _ => none
              | _ => none
            | _ => none
          | _ => none
        | _ => none
      | _ => none
    | _ => none
  | _, _ => none
theorem dIi_ok {objs : List (TO U)} {args : List (TV U)} {o : IRs} {n : Int} (h : dIi objs args = some (o, n)) : objs = [] ∧ args = [o.tv, .v (.int .i64 n)] := by
  unfold dIi at h
  repeat' split at h
  all_goals first | (cases h; done) | (cases h; exact ⟨rfl, rfl⟩)
/-- What comes behind an instruction. -/
def nx (o : IRs) (n : Int) : List Int := cond (decide (n < 0)) [] (cond (decide ((o.C.length : Int) ≤ n)) [] (match getI o.C n with
  | some z => cond (decide (z.Op = 16)) [] (cond (decide (z.Op = 17)) [z.B] (cond (decide (z.Op = 18)) (cond (decide (z.B = z.C)) [z.B] [z.B, z.C]) [IntKind.i64.wrap (n + 1)]))
  | none => []))
def sNx : Spc U := .of dIi (fun _ => True) (fun _ => []) fun (o, n) => .lst .i64 (nx o n)
theorem nx_get {o : IRs} {n : Int} (h1 : decide (n < 0) = false) (h2 : decide ((o.C.length : Int) ≤ n) = false) : ∃ z, getI o.C n = some z := by
  have h1 := of_decide_eq_false h1
  have h2 := of_decide_eq_false h2
  obtain ⟨z, hz, _⟩ := getI_lt (l := o.C) (v := n) (by omega) (by omega)
  exact ⟨z, hz⟩
theorem sNx13_ok : SpecOk Try.prog 13 sNx := by
  refine fn_okw wkL X_ok mixed E0_ok an13 lp0 Try.func13 (by kernel_rfl) (by kernel_rfl) (lp0_ok (by kernel_rfl)) fun objs args x hx hp => ?_
  obtain ⟨o, n⟩ := x
  obtain ⟨rfl, rfl⟩ := dIi_ok hx
  dsimp only
  refine (e13 o n).trans ?_
  unfold nx
  cases h1 : decide (n < 0) with
  | true => rfl
  | false =>
    cases h2 : decide ((o.C.length : Int) ≤ n) with
    | true => rfl
    | false =>
      obtain ⟨z, hz⟩ := nx_get h1 h2
      rw [hz]
      simp only [cond_false, Option.bind_some]
      cases decide (z.Op = 16) <;> cases decide (z.Op = 17) <;> cases decide (z.Op = 18) <;> cases decide (z.B = z.C) <;> rfl
theorem sNx14_ok : SpecOk Try.prog 14 sNx := by
  refine fn_okw wkL X_ok mixed E0_ok an14 lp0 Try.func14 (by kernel_rfl) (by kernel_rfl) (lp0_ok (by kernel_rfl)) fun objs args x hx hp => ?_
  obtain ⟨o, n⟩ := x
  obtain ⟨rfl, rfl⟩ := dIi_ok hx
  dsimp only
  refine (e14 o n).trans ?_
  unfold nx
  cases h1 : decide (n < 0) with
  | true => rfl
  | false =>
    cases h2 : decide ((o.C.length : Int) ≤ n) with
    | true => rfl
    | false =>
      obtain ⟨z, hz⟩ := nx_get h1 h2
      rw [hz]
      simp only [cond_false, Option.bind_some]
      cases decide (z.Op = 16) <;> cases decide (z.Op = 17) <;> cases decide (z.Op = 18) <;> cases decide (z.B = z.C) <;> rfl
/-! ### One's own -/
def an13o : Ann := ⟨fun _ => 0, fun _ => 0, fun _ => [], true⟩
theorem e13o (o : IRs) (n : Int) : (evFn X (fun (x : FuncId) => none) an13o lp0 Try.f13 []
  [irV o, TV.v (Value.int IntKind.i64 n)] fun (o : List (TO X.U)) (v : TV X.U) => some (o, v)) =
  bif decide (n < 0) then some ([], TV.v (Value.slice none 0 0))
else
  bif decide ((↑o.C.length : Int) ≤ n) then some ([], TV.v (Value.slice none 0 0))
  else
    (getI o.C n).bind fun (z : X.U.T C.t65) =>
      bif decide (z.Op = 16) then some ([], TV.v (Value.slice none 0 0))
      else
        bif decide (z.Op = 17) then some ([TO.row C.i64 [z.B] false], TV.full 0)
        else
          bif decide (z.Op = 18) then
            bif decide (z.B = z.C) then some ([TO.row C.i64 [z.B] false], TV.full 0)
            else some ([TO.row C.i64 [z.B, z.C] false], TV.full 0)
          else some ([TO.row C.i64 [IntKind.i64.wrap (n + 1)] false], TV.full 0) := by kernel_rfl
def an12 : Ann := ⟨fun | 0 => 35 | _ => 0, fun | 0 => 16 | _ => 0, fun _ => [], false⟩
def nxO (o : IRs) (n : Int) : List (TO U) × TV U := (rwI (nx o n), nvl (nx o n) 0)
def sNxO : Spc U := .ofG dIi (fun _ => True) (fun (o, n) k => lsp (nx o n) fun l => k (rwI l) (nvl l 0)) (fun (o, n) => rwI (nx o n)) (fun (o, n) => nvl (nx o n) 0) fun x k => lsp_eq _ _
theorem sNxO_ok : SpecOk Try.prog 13 sNxO := by
  refine fn_okG X_ok mixed E0_ok an13o lp0 Try.func13 (by kernel_rfl) (by kernel_rfl) (lp0_ok (by kernel_rfl)) (fun x k => lsp_eq _ _) fun objs args x hx hp => ?_
  obtain ⟨o, n⟩ := x
  obtain ⟨rfl, rfl⟩ := dIi_ok hx
  dsimp only
  refine (e13o o n).trans ?_
  unfold nx
  cases h1 : decide (n < 0) with
  | true => rfl
  | false =>
    cases h2 : decide ((o.C.length : Int) ≤ n) with
    | true => rfl
    | false =>
      obtain ⟨z, hz⟩ := nx_get h1 h2
      rw [hz]
      simp only [cond_false, Option.bind_some]
      cases decide (z.Op = 16) <;> cases decide (z.Op = 17) <;> cases decide (z.Op = 18) <;> cases decide (z.B = z.C) <;> rfl
/-! ### The same? -/
theorem eq_rounds {T B : Type} {fnl : Nat → T → Option B} {S : Int → T} {rt ex : B} {a b : List Int} (ha : a.length ≤ 3000000) (hab : a.length = b.length)
    (hin : ∀ (N : Nat) (v : Int) (x y : Int), 0 ≤ v → v < (a.length : Int) → getI a v = some x → getI b v = some y → fnl (N + 1) (S v) = cond (!decide (x = y)) (some rt) (fnl N (S (IntKind.i64.wrap (v + 1)))))
    (hout : ∀ (N : Nat) (v : Int), ¬ v < (a.length : Int) → fnl (N + 1) (S v) = some ex) : ∀ (N : Nat) (v : Int), 0 ≤ v → (a.length : Int) ≤ v + N → fnl (N + 1) (S v) = some (cond (decide (a.drop v.toNat = b.drop v.toNat)) ex rt) := by
  intro N
  induction N with
  | zero =>
    intro v h0 h1
    rw [hout 0 v (by omega), List.drop_eq_nil_of_le (by omega), List.drop_eq_nil_of_le (by omega)]
    rfl
  | succ N ih =>
    intro v h0 h1
    by_cases hv : v < (a.length : Int)
    · obtain ⟨x, hx, hx2⟩ := getI_lt (l := a) h0 hv
      obtain ⟨y, hy, hy2⟩ := getI_lt (l := b) h0 (by omega)
      have hw : IntKind.i64.wrap (v + 1) = v + 1 := wrap_i64 (by omega) (by omega)
      have ea : a.drop v.toNat = x :: a.drop (v.toNat + 1) := by
        rw [List.drop_eq_getElem_cons (by omega)]
        rw [List.getElem?_eq_getElem (by omega)] at hx2
        rw [Option.some.inj hx2]
      have eb : b.drop v.toNat = y :: b.drop (v.toNat + 1) := by
        rw [List.drop_eq_getElem_cons (by omega)]
        rw [List.getElem?_eq_getElem (by omega)] at hy2
        rw [Option.some.inj hy2]
      rw [hin (N + 1) v x y h0 hv hx hy, hw, ih (v + 1) (by omega) (by omega), ea, eb, show (v + 1).toNat = v.toNat + 1 by omega]
      by_cases hxy : x = y
      · subst hxy
        simp
      · simp [hxy]
    · rw [hout (N + 1) v hv, List.drop_eq_nil_of_le (by omega), List.drop_eq_nil_of_le (by omega)]
      rfl
def S12 (a b : List Int) (v : Int) : TS U := mkS 26 [(0, .lst .i64 a), (1, .lst .i64 b), (5, .v (.int .i64 v))] [] 0
def S12o (a b : List Int) (v : Int) : TS U := mkS 26 [(0, .lst .i64 a), (1, .full 0), (5, .v (.int .i64 v))] [.row .i64 b false] 1
theorem r12 (lp : Lp U) (N : Nat) (a b : List Int) (v : Int) : fnLoop X (fun _ => none) an12 lp Try.f12 0 (N + 1) (S12 a b v) = cond (decide (v < (a.length : Int))) ((getI a v).bind fun x => (getI b v).bind fun y => cond (!decide (x = y)) (some (.ret, mkS 26 [(4, .v (.bool false))] [] 0)) (fnLoop X (fun _ => none) an12 lp Try.f12 0 N (S12 a b (IntKind.i64.wrap (v + 1))))) (some (.exit 0, mkS 26 [] [] 0)) := by kernel_rfl
def Z12o (b : List Int) : Exit × TS U := (.exit 0, mkS 26 [] [.row .i64 b false] 1)
def Y12o (b : List Int) : Exit × TS U := (.ret, mkS 26 [(4, .v (.bool false))] [.row .i64 b false] 1)
theorem r12o (lp : Lp U) (N : Nat) (a b : List Int) (v : Int) : fnLoop X (fun _ => none) an12 lp Try.f12 0 (N + 1) (S12o a b v) = cond (decide (v < (a.length : Int))) ((getI a v).bind fun x => if 0 ≤ v ∧ v < (b.length : Int) then b[v.toNat]?.bind fun y => cond (!decide (x = y)) (some (Y12o b)) (fnLoop X (fun _ => none) an12 lp Try.f12 0 N (S12o a b (IntKind.i64.wrap (v + 1)))) else none) (some (Z12o b)) := by kernel_rfl
theorem rounds12 (lp : Lp U) {a b : List Int} (ha : a.length ≤ 3000000) (hab : a.length = b.length) : fnLoop X (fun _ => none) an12 lp Try.f12 0 (a.length + 1) (S12 a b 0) = some (cond (decide (a = b)) (.exit 0, mkS 26 [] [] 0) (.ret, mkS 26 [(4, .v (.bool false))] [] 0)) :=
  eq_rounds (fnl := fun n st => fnLoop X (fun _ => none) an12 lp Try.f12 0 n st) (S := S12 a b) ha hab (fun N v x y h0 h1 hx hy => by dsimp only; rw [r12, decide_eq_true h1, hx, hy]; rfl) (fun N v h => by dsimp only; rw [r12, decide_eq_false h]; rfl) a.length 0 (Int.le_refl 0) (by omega)
theorem rounds12o (lp : Lp U) {a b : List Int} (ha : a.length ≤ 3000000) (hab : a.length = b.length) : fnLoop X (fun _ => none) an12 lp Try.f12 0 (a.length + 1) (S12o a b 0) = some (cond (decide (a = b)) (Z12o b) (Y12o b)) :=
  eq_rounds (fnl := fun n st => fnLoop X (fun _ => none) an12 lp Try.f12 0 n st) (S := S12o a b) ha hab (fun N v x y h0 h1 hx hy => by
    have hy' : b[v.toNat]? = some y := by unfold getI at hy; rw [if_pos h0] at hy; exact hy
    dsimp only
    rw [r12o, decide_eq_true h1, hx, cond_true, Option.bind_some, if_pos ⟨h0, by omega⟩, hy']
    rfl) (fun N v h => by dsimp only; rw [r12o, decide_eq_false h]; rfl) a.length 0 (Int.le_refl 0) (by omega)
def dLL (objs : List (TO U)) (args : List (TV U)) : Option (List Int × List Int) := match objs, args with
  | [], [a0, a1] =>
    match a0 with
    | .lst .i64 a =>
      match a1 with
      | .lst .i64 b =>
        some (a, b)
      | _ => none
    | _ => none
  | _, _ => none
theorem dLL_ok {objs : List (TO U)} {args : List (TV U)} {a : List Int} {b : List Int} (h : dLL objs args = some (a, b)) : objs = [] ∧ args = [.lst .i64 a, .lst .i64 b] := by
  unfold dLL at h
  repeat' split at h
  all_goals first | (cases h; done) | (cases h; exact ⟨rfl, rfl⟩)
def dLO (objs : List (TO U)) (args : List (TV U)) : Option (List Int × List Int) := match objs, args with
  | [o0], [a0, a1] =>
    match o0 with
    | .row .i64 b false =>
      match a0 with
      | .lst .i64 a =>
        match a1 with
        | .full 0 =>
          some (b, a)
        | _ => none
      | _ => none
    | _ => none
  | _, _ => none
theorem dLO_ok {objs : List (TO U)} {args : List (TV U)} {b : List Int} {a : List Int} (h : dLO objs args = some (b, a)) : objs = [.row .i64 b false] ∧ args = [.lst .i64 a, .full 0] := by
  unfold dLO at h
  repeat' split at h
  all_goals first | (cases h; done) | (cases h; exact ⟨rfl, rfl⟩)
def dl12 (s : TS U) : Option (List Int × List Int × Int) := match told s 26 [0, 1, 5] 0, s.objs with
  | some [a0, a1, a2], [] =>
    match a0 with
    | .lst .i64 a =>
      match a1 with
      | .lst .i64 b =>
        match a2 with
        | .v (.int .i64 v) =>
          some (a, b, v)
        | _ => none
      | _ => none
    | _ => none
  | _, _ => none
theorem dl12_ok {s : TS U} {a : List Int} {b : List Int} {v : Int} (h : dl12 s = some (a, b, v)) : s = mkS (U := U) 26 ([0, 1, 5].zip ([.lst .i64 a, .lst .i64 b, .v (.int .i64 v)] : List (TV U))) ([] : List (TO U)) 0 := by
  unfold dl12 at h
  split at h <;> try (cases h; done)
  rename_i ht ho
  have hs := told_ok ht
  rw [ho] at hs
  repeat' split at h
  all_goals first | (cases h; done) | (cases h; exact hs)
def dl12o (s : TS U) : Option (List Int × List Int × Int) := match told s 26 [0, 1, 5] 1, s.objs with
  | some [a0, a1, a2], [o0] =>
    match o0 with
    | .row .i64 b false =>
      match a0 with
      | .lst .i64 a =>
        match a1 with
        | .full 0 =>
          match a2 with
          | .v (.int .i64 v) =>
            some (b, a, v)
          | _ => none
        | _ => none
      | _ => none
    | _ => none
  | _, _ => none
theorem dl12o_ok {s : TS U} {b : List Int} {a : List Int} {v : Int} (h : dl12o s = some (b, a, v)) : s = mkS (U := U) 26 ([0, 1, 5].zip ([.lst .i64 a, .full 0, .v (.int .i64 v)] : List (TV U))) ([.row .i64 b false] : List (TO U)) 1 := by
  unfold dl12o at h
  split at h <;> try (cases h; done)
  rename_i ht ho
  have hs := told_ok ht
  rw [ho] at hs
  repeat' split at h
  all_goals first | (cases h; done) | (cases h; exact hs)
def Pre12 (n m : Nat) (v : Int) : Prop := n ≤ 3000000 ∧ n = m ∧ v = 0
instance (n m : Nat) (v : Int) : Decidable (Pre12 n m v) := by unfold Pre12; infer_instance
def eqI (a b : List Int) : Bool := decide (a = b)
def lc12 : LC U := .of2 dl12 (fun (a, b, v) => Pre12 a.length b.length v) (fun (a, b, v) => eqI a b) (.exit 0) (fun _ => mkS 26 [] [] 0) .ret (fun _ => mkS 26 [(4, .v (.bool false))] [] 0)
def lc12o : LC U := .of2 dl12o (fun (b, a, v) => Pre12 a.length b.length v) (fun (b, a, v) => eqI a b) (.exit 0) (fun (b, a, v) => mkS 26 [] [.row .i64 b false] 1) .ret (fun (b, a, v) => mkS 26 [(4, .v (.bool false))] [.row .i64 b false] 1)
theorem lp12_ok : ∀ c, Try.f12.body = some c → LpOk X (fun _ => none) an12 (lpL [(0, lc12)]) (loops c 0) := lpL_ok (by kernel_rfl) fun b L hm st p hs => by
  cases hm with
  | tail _ h => cases h
  | head =>
    obtain ⟨⟨a, b, v⟩, hx, ⟨h1, h2, rfl⟩, rfl⟩ := LC.of2_some hs
    obtain rfl := dl12_ok hx
    exact ⟨_, rounds12 _ h1 h2⟩
theorem lp12o_ok : ∀ c, Try.f12.body = some c → LpOk X (fun _ => none) an12 (lpL [(0, lc12o)]) (loops c 0) := lpL_ok (by kernel_rfl) fun b L hm st p hs => by
  cases hm with
  | tail _ h => cases h
  | head =>
    obtain ⟨⟨b, a, v⟩, hx, ⟨h1, h2, rfl⟩, rfl⟩ := LC.of2_some hs
    obtain rfl := dl12o_ok hx
    exact ⟨_, rounds12o _ h1 h2⟩
theorem e12 (a : List
  Int) (b : List
  Int) : (evFn X (fun (x : FuncId) => none) an12 (lpL [(0, lc12)]) Try.f12 [] [TV.lst C.i64 a, TV.lst C.i64 b]
  fun (o : List (TO X.U)) (v : TV X.U) => some (o, v)) =
  bif !decide ((↑a.length : Int) = (↑b.length : Int)) then some ([], TV.v (Value.bool false))
else
  if Pre12 a.length b.length 0 then
    bif eqI a b then some ([], TV.v (Value.bool true)) else some ([], TV.v (Value.bool false))
  else none := by kernel_rfl
theorem e12o (a : List
  Int) (b : List
  Int) : (evFn X (fun (x : FuncId) => none) an12 (lpL [(0, lc12o)]) Try.f12 [TO.row C.i64 b false]
  [TV.lst C.i64 a, TV.full 0] fun (o : List (TO X.U)) (v : TV X.U) => some (o, v)) =
  bif !decide ((↑a.length : Int) = (↑b.length : Int)) then some ([TO.row C.i64 b false], TV.v (Value.bool false))
else
  if Pre12 a.length b.length 0 then
    bif eqI a b then some ([TO.row C.i64 b false], TV.v (Value.bool true))
    else some ([TO.row C.i64 b false], TV.v (Value.bool false))
  else none := by kernel_rfl
def sInts : Spc U := .of dLL (fun (a, b) => Sn a.length) (fun _ => []) fun (a, b) => .v (.bool (eqI a b))
def sIntsO : Spc U := .of dLO (fun (b, a) => Sn a.length) (fun (b, a) => [.row .i64 b false]) fun (b, a) => .v (.bool (eqI a b))
theorem eqI_ne {a b : List Int} (h : ¬ (a.length : Int) = (b.length : Int)) : eqI a b = false := decide_eq_false fun e => h (by rw [e])
theorem sInts_ok : SpecOk Try.prog 12 sInts := by
  refine fn_ok X_ok mixed E0_ok an12 (lpL [(0, lc12)]) Try.func12 (by kernel_rfl) (by kernel_rfl) lp12_ok fun objs args x hx hp => ?_
  obtain ⟨a, b⟩ := x
  obtain ⟨rfl, rfl⟩ := dLL_ok hx
  dsimp only at hp ⊢
  refine (e12 a b).trans ?_
  by_cases h : (a.length : Int) = (b.length : Int)
  · rw [decide_eq_true h]
    simp only [Bool.not_true, cond_false]
    rw [if_pos ⟨hp, by omega, rfl⟩]
    cases eqI a b <;> rfl
  · rw [decide_eq_false h, eqI_ne h]; rfl
theorem sIntsO_ok : SpecOk Try.prog 12 sIntsO := by
  refine fn_ok X_ok mixed E0_ok an12 (lpL [(0, lc12o)]) Try.func12 (by kernel_rfl) (by kernel_rfl) lp12o_ok fun objs args x hx hp => ?_
  obtain ⟨b, a⟩ := x
  obtain ⟨rfl, rfl⟩ := dLO_ok hx
  dsimp only at hp ⊢
  refine (e12o a b).trans ?_
  by_cases h : (a.length : Int) = (b.length : Int)
  · rw [decide_eq_true h]
    simp only [Bool.not_true, cond_false]
    rw [if_pos ⟨hp, by omega, rfl⟩]
    cases eqI a b <;> rfl
  · rw [decide_eq_false h, eqI_ne h]; rfl
end Go.Proofs.Ytgdnomnealjdlaa.Fl

/- What one comes to. -/
namespace Go.Proofs.Ytgdnomnealjdlaa.Fl
open Go Go.RowKit Go.Proofs.Ytgdnomnealjdlaa.Eng
set_option linter.unusedVariables false
set_option linter.unusedSimpArgs false
set_option maxRecDepth 20000
def Fb : FuncId → Option (Spc U)
  | 13 => some sNxO
  | _ => none
theorem Fb_ok : ∀ f S, Fb f = some S → SpecOk Try.prog f S := fun f S h => by
  unfold Fb at h
  split at h
  · cases h; exact sNxO_ok
  · cases h
def an37 : Ann := ⟨fun | 0 => 100 | _ => 0, fun | 0 => 48 | _ => 0, fun _ => [], false⟩
def S37 (o : IRs) (out : List Bool) (w : List Int) : TS U := mkS 52 [(2, .ref 0 0 0), (5, .full 1), (6, .full 2)] [irOb o, .row .bool out false, .row .i64 w false] 0
def S37n (o : IRs) (out : List Bool) : TS U := mkS 52 [(2, .ref 0 0 0), (5, .full 1), (6, nl)] [irOb o, .row .bool out false] 0
theorem r37 (lp : Lp
  U) (N : Nat) (o : IRs) (out : List Bool) (w : List Int) : (fnLoop X Fb an37 lp Try.f37 0 N.succ (S37 o out w)) =
  bif decide (0 < (↑w.length : Int)) then
  if 0 ≤ IntKind.i64.wrap ((↑w.length : Int) - 1) ∧ IntKind.i64.wrap ((↑w.length : Int) - 1) < (↑w.length : Int) then
    w[(IntKind.i64.wrap ((↑w.length : Int) - 1)).toNat]?.bind fun (y : X.U.T C.i64) =>
      (cutI w none (some (IntKind.i64.wrap ((↑w.length : Int) - 1)))).bind fun (ys : List (X.U.T C.i64)) =>
        bif decide (y < 0) then fnLoop X Fb an37 lp Try.f37 0 N (S37 o out ys)
        else
          bif decide ((↑out.length : Int) ≤ y) then fnLoop X Fb an37 lp Try.f37 0 N (S37 o out ys)
          else
            if 0 ≤ y ∧ y < (↑out.length : Int) then
              out[Int.toNat y]?.bind fun (y_1 : X.U.T C.bool) =>
                bif y_1 then fnLoop X Fb an37 lp Try.f37 0 N (S37 o out ys)
                else
                  if 0 ≤ y ∧ y < (↑out.length : Int) then
                    out[Int.toNat y]?.bind fun (z : X.U.T C.bool) =>
                      if True then
                        bif (nx o y).isEmpty then
                          if (ys.length + 0) * 8 ≤ 140737488355328 then
                            fnLoop X Fb an37 lp Try.f37 0 N (S37 o (out.set (Int.toNat y) true) (ys ++ []))
                          else none
                        else
                          (unc (nx o y)).bind fun (x : Int × List Int) =>
                            if (ys.length + (x.fst :: x.snd).length) * 8 ≤ 140737488355328 then
                              fnLoop X Fb an37 lp Try.f37 0 N
                                (S37 o (out.set (Int.toNat y) true) (ys ++ x.fst :: x.snd))
                            else none
                      else none
                  else none
            else none
  else none
else some (Exit.exit 0, mkS 52 [(5, TV.full 0)] [TO.row C.bool out false] 0) := by kernel_rfl
theorem r37n (lp : Lp U) (N : Nat) (o : IRs) (out : List Bool) : (fnLoop X Fb an37 lp Try.f37 0 N.succ (S37n o out)) =
  some (Exit.exit 0, mkS 52 [(5, TV.full 0)] [TO.row C.bool out false] 0) := by kernel_rfl
/-- What is marked from a list of things to look at on. -/
def rcL (o : IRs) : Nat → List Bool → List Int → List Bool
  | 0, out, _ => out
  | N + 1, out, w => match w[w.length - 1]? with
    | none => out
    | some y => cond (decide (y < 0)) (rcL o N out (w.take (w.length - 1))) (cond (decide ((out.length : Int) ≤ y)) (rcL o N out (w.take (w.length - 1))) (match out[y.toNat]? with
      | some true => rcL o N out (w.take (w.length - 1))
      | some false => rcL o N (out.set y.toNat true) (w.take (w.length - 1) ++ nx o y)
      | none => out))
/-- How many are not marked. -/
def nf : List Bool → Nat
  | [] => 0
  | b :: l => cond b 0 1 + nf l
theorem nf_le : ∀ l : List Bool, nf l ≤ l.length
  | [] => Nat.le_refl _
  | b :: l => by
    have := nf_le l
    rw [nf, List.length_cons]
    cases b <;> simp only [cond_true, cond_false] <;> omega
theorem nf_set : ∀ (l : List Bool) (k : Nat), l[k]? = some false → nf (l.set k true) + 1 = nf l
  | [], k, h => by simp at h
  | b :: l, 0, h => by
    simp at h
    subst h
    rw [List.set_cons_zero, nf, nf]
    simp only [cond_true, cond_false]
    omega
  | b :: l, k + 1, h => by
    have := nf_set l k (by simpa using h)
    rw [List.set_cons_succ, nf, nf]
    omega
theorem nx_len (o : IRs) (n : Int) : (nx o n).length ≤ 2 := by
  unfold nx
  cases decide (n < 0) with
  | true => exact Nat.zero_le _
  | false =>
    cases decide ((o.C.length : Int) ≤ n) with
    | true => exact Nat.zero_le _
    | false =>
      simp only [cond_false]
      split
      · rename_i z _
        cases decide (z.Op = 16) <;> cases decide (z.Op = 17) <;> cases decide (z.Op = 18) <;> cases decide (z.B = z.C) <;> simp only [cond_true, cond_false, List.length_cons, List.length_nil] <;> omega
      · exact Nat.zero_le _
def E37 (out : List Bool) : Exit × TS U := (.exit 0, mkS 52 [(5, .full 0)] [.row .bool out false] 0)
theorem rounds37 (lp : Lp U) (o : IRs) : ∀ (N : Nat) (out : List Bool) (w : List Int), w.length + 3 * nf out ≤ N → N ≤ 100000000 →
    fnLoop X Fb an37 lp Try.f37 0 (N + 1) (S37 o out w) = some (E37 (rcL o (N + 1) out w)) := by
  intro N
  induction N with
  | zero =>
    intro out w h0 h1
    obtain rfl : w = [] := List.length_eq_zero_iff.1 (by omega)
    rw [r37]
    rfl
  | succ N ih =>
    intro out w h0 h1
    rw [r37, rcL]
    by_cases hw : w = []
    · subst hw; rfl
    · have hpos : 0 < w.length := List.length_pos_iff.2 hw
      have hwr : IntKind.i64.wrap ((w.length : Int) - 1) = (w.length : Int) - 1 := wrap_i64 (by omega) (by omega)
      have hx : w[w.length - 1]? = some w[w.length - 1] := List.getElem?_eq_getElem (by omega)
      have hcut : cutI w none (some ((w.length : Int) - 1)) = some (w.take (w.length - 1)) := by
        have : cutI w none (some ((w.length : Int) - 1)) = some (w.take ((w.length : Int) - 1).toNat) := if_pos ⟨by omega, by omega⟩
        rw [this, show ((w.length : Int) - 1).toNat = w.length - 1 by omega]
      have hlt : (w.take (w.length - 1)).length = w.length - 1 := by rw [List.length_take]; omega
      generalize w[w.length - 1] = y at hx
      rw [decide_eq_true (by omega : (0 : Int) < (w.length : Int)), cond_true, hwr, if_pos ⟨by omega, by omega⟩, show ((w.length : Int) - 1).toNat = w.length - 1 by omega, hx, Option.bind_some, hcut, Option.bind_some]
      dsimp only
      have key : fnLoop X Fb an37 lp Try.f37 0 (N + 1) (S37 o out (w.take (w.length - 1))) = some (E37 (rcL o (N + 1) out (w.take (w.length - 1)))) := ih _ _ (by omega) (by omega)
      by_cases hy0 : y < 0
      · rw [decide_eq_true hy0]
        exact key
      · rw [decide_eq_false hy0]
        by_cases hy1 : (out.length : Int) ≤ y
        · rw [decide_eq_true hy1]
          exact key
        · rw [decide_eq_false hy1]
          have hb : out[y.toNat]? = some out[y.toNat] := List.getElem?_eq_getElem (by omega)
          generalize out[y.toNat] = b at hb
          have hyy : 0 ≤ y ∧ y < (out.length : Int) := ⟨by omega, by omega⟩
          simp only [cond_false, if_pos hyy, hb, Option.bind_some]
          cases b with
          | true => exact key
          | false =>
            have hs := nf_set out y.toNat hb
            have hn := nx_len o y
            have fin : ∀ l : List Int, nx o y = l → fnLoop X Fb an37 lp Try.f37 0 (N + 1) (S37 o (out.set y.toNat true) (w.take (w.length - 1) ++ l)) = some (E37 (rcL o (N + 1) (out.set y.toNat true) (w.take (w.length - 1) ++ l))) := fun l hl => ih _ _ (by rw [List.length_append, hlt, ← hl]; omega) (by omega)
            simp only [cond_false, if_true]
            cases hnx : nx o y with
            | nil =>
              have hl : ((w.take (w.length - 1)).length + 0) * 8 ≤ 140737488355328 := by omega
              simp only [List.isEmpty_nil, cond_true, if_pos hl]
              exact fin [] hnx
            | cons a l =>
              have hl : ((w.take (w.length - 1)).length + (a :: l).length) * 8 ≤ 140737488355328 := by rw [hnx] at hn; omega
              simp only [List.isEmpty_cons, cond_false, unc_cons, Option.bind_some, if_pos hl]
              exact fin (a :: l) hnx
def d37 (s : TS U) : Option (IRs × List Bool × List Int) := match told s 52 [2, 5, 6] 0, s.objs with
  | some [a0, a1, a2], [o0, o1, o2] =>
    match o0 with
    | .cells [q0, q1, q2, q3, q4, q5] false =>
      match q0 with
      | .lst .i64 o_G =>
        match q1 with
        | .lst .i64 o_F =>
          match q2 with
          | .lst .i64 o_V =>
            match q3 with
            | .lst .t69 o_Fs =>
              match q4 with
              | .lst .t65 o_C =>
                match q5 with
                | .v (.int .i64 o_Main) =>
                  match o1 with
                  | .row .bool out false =>
                    match o2 with
                    | .row .i64 w false =>
                      match a0 with
                      | .ref 0 0 0 =>
                        match a1 with
                        | .full 1 =>
                          match a2 with
                          | .full 2 =>
                            some ((⟨o_G, o_F, o_V, o_Fs, o_C, o_Main⟩ : IRs), out, w)
                          | _ => none
                        | _ => none
                      | _ => none
                    | _ => none
                  | _ => none
                | _ => none
              | _ => none
            | _ => none
          | _ => none
        | _ => none
      | _ => none
    | _ => none
  | _, _ => none
theorem d37_ok {s : TS U} {o : IRs} {out : List Bool} {w : List Int} (h : d37 s = some (o, out, w)) : s = mkS (U := U) 52 ([2, 5, 6].zip ([.ref 0 0 0, .full 1, .full 2] : List (TV U))) ([o.ob, .row .bool out false, .row .i64 w false] : List (TO U)) 0 := by
  unfold d37 at h
  split at h <;> try (cases h; done)
  rename_i ht ho
  have hs := told_ok ht
  rw [ho] at hs
  repeat' split at h
  all_goals first | (cases h; done) | (cases h; exact hs)
def d37n (s : TS U) : Option (IRs × List Bool) := match told s 52 [2, 5, 6] 0, s.objs with
  | some [a0, a1, a2], [o0, o1] =>
    match o0 with
    | .cells [q0, q1, q2, q3, q4, q5] false =>
      match q0 with
      | .lst .i64 o_G =>
        match q1 with
        | .lst .i64 o_F =>
          match q2 with
          | .lst .i64 o_V =>
            match q3 with
            | .lst .t69 o_Fs =>
              match q4 with
              | .lst .t65 o_C =>
                match q5 with
                | .v (.int .i64 o_Main) =>
                  match o1 with
                  | .row .bool out false =>
                    match a0 with
                    | .ref 0 0 0 =>
                      match a1 with
                      | .full 1 =>
                        match a2 with
                        | .v (.slice none 0 0) =>
                          some ((⟨o_G, o_F, o_V, o_Fs, o_C, o_Main⟩ : IRs), out)
                        | _ => none
                      | _ => none
                    | _ => none
                  | _ => none
                | _ => none
              | _ => none
            | _ => none
          | _ => none
        | _ => none
      | _ => none
    | _ => none
  | _, _ => none
theorem d37n_ok {s : TS U} {o : IRs} {out : List Bool} (h : d37n s = some (o, out)) : s = mkS (U := U) 52 ([2, 5, 6].zip ([.ref 0 0 0, .full 1, .v (.slice none 0 0)] : List (TV U))) ([o.ob, .row .bool out false] : List (TO U)) 0 := by
  unfold d37n at h
  split at h <;> try (cases h; done)
  rename_i ht ho
  have hs := told_ok ht
  rw [ho] at hs
  repeat' split at h
  all_goals first | (cases h; done) | (cases h; exact hs)
def dd37 : TS U → Option (IRs × List Bool × List Int × Bool) := orD (fun s => (d37 s).map fun (o, out, w) => (o, out, w, true)) (fun s => (d37n s).map fun (o, out) => (o, out, [], false))
def Pre37 (n m : Nat) : Prop := n + 3 * m ≤ 100000000
instance (n m : Nat) : Decidable (Pre37 n m) := by unfold Pre37; infer_instance
def rcP (o : IRs) (out : List Bool) (w : List Int) : List Bool := rcL o (w.length + 3 * out.length + 1) out w
def lc37 : LC U := .of dd37 (fun (o, out, w, b) => Pre37 w.length out.length) (.exit 0) (fun (o, out, w, b) => (E37 (rcP o out w)).2)
def lp37 : Lp U := lpL [(0, lc37)]
theorem rounds37' (lp : Lp U) (o : IRs) (out : List Bool) (w : List Int) (h : w.length + 3 * out.length ≤ 100000000) : fnLoop X Fb an37 lp Try.f37 0 (w.length + 3 * out.length + 1) (S37 o out w) = some (E37 (rcP o out w)) := rounds37 lp o _ out w (by have := nf_le out; omega) h
theorem lp37_ok : ∀ c, Try.f37.body = some c → LpOk X Fb an37 lp37 (loops c 0) := lpL_ok (by kernel_rfl) fun b L hm st p hs => by
  cases hm with
  | tail _ h => cases h
  | head =>
    obtain ⟨⟨o, out, w, b⟩, hx, h1, rfl⟩ := LC.of_some hs
    rcases orD_some hx with hy | hy
    · rw [Option.map_eq_some_iff] at hy
      obtain ⟨⟨o', out', w'⟩, hz, he⟩ := hy
      cases he
      obtain rfl := d37_ok hz
      exact ⟨_, rounds37' _ o out w h1⟩
    · rw [Option.map_eq_some_iff] at hy
      obtain ⟨⟨o', out'⟩, hz, he⟩ := hy
      cases he
      obtain rfl := d37n_ok hz
      exact ⟨1, r37n _ 0 o out⟩
theorem e37 (o : IRs) (n : Int) : (evFn X Fb an37 lp37 Try.f37 [] [irV o, TV.v (Value.int IntKind.i64 n)]
  fun (o : List (TO X.U)) (v : TV X.U) => some (o, v)) =
  if
    0 ≤ (↑o.C.length : Int) ∧
      (↑o.C.length : Int) = (↑o.C.length : Int) ∧
        (↑o.C.length : Int) ≤ 9223372036854775807 ∧ (↑1 : Int) * (↑o.C.length : Int) ≤ 281474976710656 then
  if True then
    bif (nx o n).isEmpty then
      if Pre37 0 (List.replicate (↑o.C.length : Int).toNat false).length then
        some ([], TV.lst C.bool (rcP o (List.replicate (↑o.C.length : Int).toNat false) []))
      else none
    else
      (unc (nx o n)).bind fun (x : Int × List Int) =>
        if Pre37 (x.fst :: x.snd).length (List.replicate (↑o.C.length : Int).toNat false).length then
          some ([], TV.lst C.bool (rcP o (List.replicate (↑o.C.length : Int).toNat false) (x.fst :: x.snd)))
        else none
  else none
else none := by kernel_rfl
def reachP (o : IRs) (n : Int) : List Bool := rcP o (List.replicate (o.C.length : Int).toNat false) (nx o n)
def sReach : Spc U := .of dIi (fun (o, n) => Sn o.C.length) (fun _ => []) fun (o, n) => .lst .bool (reachP o n)
theorem sReach_ok : SpecOk Try.prog 37 sReach := by
  refine fn_ok X_ok mixed Fb_ok an37 lp37 Try.func37 (by kernel_rfl) (by kernel_rfl) lp37_ok fun objs args x hx hp => ?_
  obtain ⟨o, n⟩ := x
  obtain ⟨rfl, rfl⟩ := dIi_ok hx
  dsimp only at hp ⊢
  have hp : o.C.length ≤ 3000000 := hp
  have hn := nx_len o n
  have hr : (List.replicate (o.C.length : Int).toNat false).length = o.C.length := by rw [List.length_replicate]; omega
  refine (e37 o n).trans ?_
  rw [if_pos ⟨by omega, rfl, by omega, by omega⟩]
  unfold reachP
  cases hnx : nx o n with
  | nil =>
    have h4 : Pre37 0 (List.replicate (o.C.length : Int).toNat false).length := by show _ ≤ _; rw [hr]; omega
    simp only [if_true, List.isEmpty_nil, cond_true]
    exact if_pos h4
  | cons a l =>
    rw [hnx] at hn
    have h4 : Pre37 (a :: l).length (List.replicate (o.C.length : Int).toNat false).length := by show _ ≤ _; rw [hr]; omega
    simp only [if_true, List.isEmpty_cons, cond_false, unc_cons, Option.bind_some]
    exact if_pos h4
end Go.Proofs.Ytgdnomnealjdlaa.Fl

/- Again; awake. -/
namespace Go.Proofs.Ytgdnomnealjdlaa.Fl
open Go Go.RowKit Go.Proofs.Ytgdnomnealjdlaa.Eng
set_option linter.unusedVariables false
set_option linter.unusedSimpArgs false
set_option maxRecDepth 20000
def Fc : FuncId → Option (Spc U)
  | 37 => some sReach
  | _ => none
theorem Fc_ok : ∀ f S, Fc f = some S → SpecOk Try.prog f S := fun f S h => by
  unfold Fc at h
  split at h
  · cases h; exact sReach_ok
  · cases h
theorem e15 (o : IRs) (n : Int) : (evFn X Fc an0 lp0 Try.f15 [] [irV o, TV.v (Value.int IntKind.i64 n)]
  fun (o : List (TO X.U)) (v : TV X.U) => some (o, v)) =
  bif decide (0 ≤ n) then
  bif decide (n < (↑o.C.length : Int)) then
    if Sn o.C.length then (getI (reachP o n) n).bind fun (z : X.U.T C.bool) => some ([], TV.v (Value.bool z)) else none
  else some ([], TV.v (Value.bool false))
else some ([], TV.v (Value.bool false)) := by kernel_rfl
def agP (o : IRs) (n : Int) : Bool := cond (decide (0 ≤ n)) (cond (decide (n < (o.C.length : Int))) ((getI (reachP o n) n).getD false) false) false
def sAgain : Spc U := .of dIi (fun (o, n) => Sn o.C.length) (fun _ => []) fun (o, n) => .v (.bool (agP o n))
theorem rcL_len (o : IRs) : ∀ (N : Nat) (out : List Bool) (w : List Int), (rcL o N out w).length = out.length := by
  intro N
  induction N with
  | zero => intro out w; rfl
  | succ N ih =>
    intro out w
    rw [rcL]
    split
    · rfl
    · rename_i y _
      cases decide (y < 0) with
      | true => exact ih _ _
      | false =>
        cases decide ((out.length : Int) ≤ y) with
        | true => exact ih _ _
        | false =>
          simp only [cond_false]
          split
          · exact ih _ _
          · rw [ih, List.length_set]
          · rfl
theorem reachP_len (o : IRs) (n : Int) : (reachP o n).length = o.C.length := by
  unfold reachP rcP
  rw [rcL_len, List.length_replicate]
  omega
theorem sAgain_ok : SpecOk Try.prog 15 sAgain := by
  refine fn_ok X_ok mixed Fc_ok an0 lp0 Try.func15 (by kernel_rfl) (by kernel_rfl) (lp0_ok (by kernel_rfl)) fun objs args x hx hp => ?_
  obtain ⟨o, n⟩ := x
  obtain ⟨rfl, rfl⟩ := dIi_ok hx
  dsimp only at hp ⊢
  refine (e15 o n).trans ?_
  unfold agP
  by_cases h0 : 0 ≤ n
  · rw [decide_eq_true h0]
    by_cases h1 : n < (o.C.length : Int)
    · obtain ⟨z, hz, _⟩ := getI_lt (l := reachP o n) h0 (by rw [reachP_len]; exact h1)
      rw [decide_eq_true h1, hz]
      simp only [cond_true]
      rw [if_pos hp]
      rfl
    · rw [decide_eq_false h1]; rfl
  · rw [decide_eq_false h0]; rfl
def Fd : FuncId → Option (Spc U)
  | 10 => some sGiven
  | 12 => some sIntsO
  | 13 => some sNx
  | 15 => some sAgain
  | _ => none
theorem Fd_ok : ∀ f S, Fd f = some S → SpecOk Try.prog f S := fun f S h => by
  unfold Fd at h
  split at h
  · cases h; exact sGiven_ok
  · cases h; exact sIntsO_ok
  · cases h; exact sNx13_ok
  · cases h; exact sAgain_ok
  · cases h
theorem e11 : evFn X Fd an0 lp0 Try.f11 [] [] (fun o v => some (o, v)) = some ([], .v (.bool true)) := by kernel_rfl
def sAwake : Spc U := .of d0 (fun _ => True) (fun _ => []) fun _ => .v (.bool true)
theorem sAwake_ok : SpecOk Try.prog 11 sAwake := by
  refine fn_ok X_ok mixed Fd_ok an0 lp0 Try.func11 (by kernel_rfl) (by kernel_rfl) (lp0_ok (by kernel_rfl)) fun objs args x hx hp => ?_
  obtain ⟨rfl, rfl⟩ := d0_ok hx
  exact e11
end Go.Proofs.Ytgdnomnealjdlaa.Fl

/- What may be called. -/
namespace Go.Proofs.Ytgdnomnealjdlaa.Fl
open Go Go.RowKit Go.Proofs.Ytgdnomnealjdlaa.Eng
set_option linter.unusedVariables false
set_option linter.unusedSimpArgs false
set_option maxRecDepth 20000
def an17 : Ann := ⟨fun | 0 => 30064771098 | _ => 0, fun | 0 => 282 | _ => 0, fun _ => [], false⟩
def an18 : Ann := ⟨fun | 0 => 542 | _ => 0, fun | 0 => 282 | _ => 0, fun _ => [], false⟩
/-- The types of variables. -/
def vOf (o : IRs) (l : List Int) : List Int := l.map fun x => (getI o.V x).getD 0
def InV (o : IRs) (l : List Int) : Prop := ∀ a ∈ l, 0 ≤ a ∧ a < (o.V.length : Int)
def RngF (o : IRs) : Prop := ∀ z ∈ o.Fs, InV o z.Params
def PreF (o : IRs) (l : List Int) (to : Int) : Prop := RngF o ∧ InV o l ∧ to < (o.V.length : Int) ∧ l.length ≤ 3000000
noncomputable instance (o : IRs) (l : List Int) (to : Int) : Decidable (PreF o l to) := Classical.propDecidable _
theorem getI_map {α β : Type} (g : α → β) (l : List α) (v : Int) : getI (l.map g) v = (getI l v).map g := by
  unfold getI
  split
  · rw [List.getElem?_map]
  · rfl
theorem getI_mem {α : Type} {l : List α} {v : Int} {x : α} (h : getI l v = some x) : x ∈ l := by
  unfold getI at h
  split at h
  · exact List.mem_of_getElem? h
  · cases h
theorem InV.get {o : IRs} {l : List Int} (h : InV o l) {v x : Int} (hv : getI (vOf o l) v = some x) : ∃ a, getI l v = some a ∧ getI o.V a = some x := by
  unfold vOf at hv
  rw [getI_map, Option.map_eq_some_iff] at hv
  obtain ⟨a, ha, rfl⟩ := hv
  obtain ⟨h0, h1⟩ := h a (getI_mem ha)
  obtain ⟨z, hz, _⟩ := getI_lt h0 h1
  exact ⟨a, ha, by rw [hz]; rfl⟩
def S17 (o : IRs) (f : Int) (l : List Int) (to : Int) (v : Int) : TS U := mkS 75 [(1, .v (.int .i64 f)), (3, .v (.int .i64 to)), (4, .ref 0 0 0), (32, .lst .i64 l), (33, .v (.int .i64 (l.length : Int))), (34, .v (.int .i64 v))] [irOb o] 0
def S18 (o : IRs) (f : Int) (l : List Int) (to : Int) (v : Int) : TS U := mkS 75 [(1, .v (.int .i64 f)), (2, .lst .i64 l), (3, .v (.int .i64 to)), (4, .ref 0 0 0), (9, .v (.int .i64 v))] [irOb o] 0
def Y17 (o : IRs) (f to : Int) : Exit × TS U := (.ret, mkS 75 [(1, .v (.int .i64 f)), (3, .v (.int .i64 to)), (4, .ref 0 0 0), (8, .v (.bool false))] [irOb o] 0)
def Z17 (o : IRs) (f to : Int) : Exit × TS U := (.exit 0, mkS 75 [(1, .v (.int .i64 f)), (3, .v (.int .i64 to)), (4, .ref 0 0 0)] [irOb o] 0)
theorem r17 (lp : Lp U) (N : Nat) (o : IRs) (f : Int) (l : List Int) (to v : Int) : fnLoop X (fun _ => none) an17 lp Try.f17 0 (N + 1) (S17 o f l to v) = cond (decide (v < (l.length : Int))) ((getI l v).bind fun a => (getI o.V a).bind fun x => (getI o.Fs f).bind fun z => (getI z.Params v).bind fun b => (getI o.V b).bind fun y => cond (!decide (x = y)) (some (Y17 o f to)) (fnLoop X (fun _ => none) an17 lp Try.f17 0 N (S17 o f l to (IntKind.i64.wrap (v + 1))))) (some (Z17 o f to)) := by kernel_rfl
theorem r18 (lp : Lp U) (N : Nat) (o : IRs) (f : Int) (l : List Int) (to v : Int) : fnLoop X (fun _ => none) an18 lp Try.f18 0 (N + 1) (S18 o f l to v) = cond (decide (v < (l.length : Int))) ((getI l v).bind fun a => (getI o.V a).bind fun x => (getI o.Fs f).bind fun z => (getI z.Params v).bind fun b => (getI o.V b).bind fun y => cond (!decide (x = y)) (some (Y17 o f to)) (fnLoop X (fun _ => none) an18 lp Try.f18 0 N (S18 o f l to (IntKind.i64.wrap (v + 1))))) (some (Z17 o f to)) := by kernel_rfl
theorem rounds17 (lp : Lp U) {o : IRs} {f : Int} {l : List Int} {to : Int} {z : R69} (hz : getI o.Fs f = some z) (hl : InV o l) (hp : InV o z.Params) (h1 : l.length ≤ 3000000) (h2 : l.length = z.Params.length) : fnLoop X (fun _ => none) an17 lp Try.f17 0 (l.length + 1) (S17 o f l to 0) = some (cond (eqI (vOf o l) (vOf o z.Params)) (Z17 o f to) (Y17 o f to)) := by
  have e1 : (vOf o l).length = l.length := List.length_map _
  have e2 : (vOf o z.Params).length = z.Params.length := List.length_map _
  have h := eq_rounds (a := vOf o l) (b := vOf o z.Params) (fnl := fun n st => fnLoop X (fun _ => none) an17 lp Try.f17 0 n st) (S := S17 o f l to) (rt := Y17 o f to) (ex := Z17 o f to) (by omega) (by omega) (fun N v x y h0 h1 hx hy => by
    obtain ⟨a, ha, hax⟩ := hl.get hx
    obtain ⟨b, hb, hby⟩ := hp.get hy
    dsimp only
    rw [r17, decide_eq_true (by rw [e1] at h1; exact h1), ha, Option.bind_some, hax, Option.bind_some, hz, Option.bind_some, hb, Option.bind_some, hby]
    rfl) (fun N v h => by dsimp only; rw [r17, decide_eq_false (by rw [e1] at h; exact h)]; rfl) l.length 0 (Int.le_refl 0) (by omega)
  exact h
theorem rounds18 (lp : Lp U) {o : IRs} {f : Int} {l : List Int} {to : Int} {z : R69} (hz : getI o.Fs f = some z) (hl : InV o l) (hp : InV o z.Params) (h1 : l.length ≤ 3000000) (h2 : l.length = z.Params.length) : fnLoop X (fun _ => none) an18 lp Try.f18 0 (l.length + 1) (S18 o f l to 0) = some (cond (eqI (vOf o l) (vOf o z.Params)) (Z17 o f to) (Y17 o f to)) := by
  have e1 : (vOf o l).length = l.length := List.length_map _
  have e2 : (vOf o z.Params).length = z.Params.length := List.length_map _
  have h := eq_rounds (a := vOf o l) (b := vOf o z.Params) (fnl := fun n st => fnLoop X (fun _ => none) an18 lp Try.f18 0 n st) (S := S18 o f l to) (rt := Y17 o f to) (ex := Z17 o f to) (by omega) (by omega) (fun N v x y h0 h1 hx hy => by
    obtain ⟨a, ha, hax⟩ := hl.get hx
    obtain ⟨b, hb, hby⟩ := hp.get hy
    dsimp only
    rw [r18, decide_eq_true (by rw [e1] at h1; exact h1), ha, Option.bind_some, hax, Option.bind_some, hz, Option.bind_some, hb, Option.bind_some, hby]
    rfl) (fun N v h => by dsimp only; rw [r18, decide_eq_false (by rw [e1] at h; exact h)]; rfl) l.length 0 (Int.le_refl 0) (by omega)
  exact h
def dl17 (s : TS U) : Option (IRs × Int × Int × List Int × Int × Int) := match told s 75 [1, 3, 4, 32, 33, 34] 0, s.objs with
  | some [a0, a1, a2, a3, a4, a5], [o0] =>
    match o0 with
    | .cells [q0, q1, q2, q3, q4, q5] false =>
      match q0 with
      | .lst .i64 o_G =>
        match q1 with
        | .lst .i64 o_F =>
          match q2 with
          | .lst .i64 o_V =>
            match q3 with
            | .lst .t69 o_Fs =>
              match q4 with
              | .lst .t65 o_C =>
                match q5 with
                | .v (.int .i64 o_Main) =>
                  match a0 with
                  | .v (.int .i64 f) =>
                    match a1 with
                    | .v (.int .i64 to) =>
                      match a2 with
                      | .ref 0 0 0 =>
                        match a3 with
                        | .lst .i64 l =>
                          match a4 with
                          | .v (.int .i64 n) =>
                            match a5 with
                            | .v (.int .i64 v) =>
                              some ((⟨o_G, o_F, o_V, o_Fs, o_C, o_Main⟩ : IRs), f, to, l, n, v)
                            | _ => none
                          | _ => none
                        | _ => none
                      | _ => none
                    | _ => none
                  | _ => none
                | _ => none
              | _ => none
            | _ => none
          | _ => none
        | _ => none
      | _ => none
    | _ => none
  | _, _ => none
theorem dl17_ok {s : TS U} {o : IRs} {f : Int} {to : Int} {l : List Int} {n : Int} {v : Int} (h : dl17 s = some (o, f, to, l, n, v)) : s = mkS (U := U) 75 ([1, 3, 4, 32, 33, 34].zip ([.v (.int .i64 f), .v (.int .i64 to), .ref 0 0 0, .lst .i64 l, .v (.int .i64 n), .v (.int .i64 v)] : List (TV U))) ([o.ob] : List (TO U)) 0 := by
  unfold dl17 at h
  split at h <;> try (cases h; done)
  rename_i ht ho
  have hs := told_ok ht
  rw [ho] at hs
  repeat' split at h
  all_goals first | (cases h; done) | (cases h; exact hs)
def dl18 (s : TS U) : Option (IRs × Int × List Int × Int × Int) := match told s 75 [1, 2, 3, 4, 9] 0, s.objs with
  | some [a0, a1, a2, a3, a4], [o0] =>
    match o0 with
    | .cells [q0, q1, q2, q3, q4, q5] false =>
      match q0 with
      | .lst .i64 o_G =>
        match q1 with
        | .lst .i64 o_F =>
          match q2 with
          | .lst .i64 o_V =>
            match q3 with
            | .lst .t69 o_Fs =>
              match q4 with
              | .lst .t65 o_C =>
                match q5 with
                | .v (.int .i64 o_Main) =>
                  match a0 with
                  | .v (.int .i64 f) =>
                    match a1 with
                    | .lst .i64 l =>
                      match a2 with
                      | .v (.int .i64 to) =>
                        match a3 with
                        | .ref 0 0 0 =>
                          match a4 with
                          | .v (.int .i64 v) =>
                            some ((⟨o_G, o_F, o_V, o_Fs, o_C, o_Main⟩ : IRs), f, l, to, v)
                          | _ => none
                        | _ => none
                      | _ => none
                    | _ => none
                  | _ => none
                | _ => none
              | _ => none
            | _ => none
          | _ => none
        | _ => none
      | _ => none
    | _ => none
  | _, _ => none
theorem dl18_ok {s : TS U} {o : IRs} {f : Int} {l : List Int} {to : Int} {v : Int} (h : dl18 s = some (o, f, l, to, v)) : s = mkS (U := U) 75 ([1, 2, 3, 4, 9].zip ([.v (.int .i64 f), .lst .i64 l, .v (.int .i64 to), .ref 0 0 0, .v (.int .i64 v)] : List (TV U))) ([o.ob] : List (TO U)) 0 := by
  unfold dl18 at h
  split at h <;> try (cases h; done)
  rename_i ht ho
  have hs := told_ok ht
  rw [ho] at hs
  repeat' split at h
  all_goals first | (cases h; done) | (cases h; exact hs)
def Pre17 (o : IRs) (f : Int) (l : List Int) (n v : Int) : Prop := (∃ z, getI o.Fs f = some z ∧ InV o l ∧ InV o z.Params ∧ l.length ≤ 3000000 ∧ l.length = z.Params.length) ∧ n = l.length ∧ v = 0
noncomputable instance (o : IRs) (f : Int) (l : List Int) (n v : Int) : Decidable (Pre17 o f l n v) := Classical.propDecidable _
def eqF (o : IRs) (f : Int) (l : List Int) : Bool := match getI o.Fs f with
  | some z => eqI (vOf o l) (vOf o z.Params)
  | none => false
noncomputable def lc17 : LC U := .of2 dl17 (fun (o, f, to, l, n, v) => Pre17 o f l n v) (fun (o, f, to, l, n, v) => eqF o f l) (.exit 0) (fun (o, f, to, l, n, v) => (Z17 o f to).2) .ret (fun (o, f, to, l, n, v) => (Y17 o f to).2)
noncomputable def lc18 : LC U := .of2 dl18 (fun (o, f, l, to, v) => Pre17 o f l l.length v) (fun (o, f, l, to, v) => eqF o f l) (.exit 0) (fun (o, f, l, to, v) => (Z17 o f to).2) .ret (fun (o, f, l, to, v) => (Y17 o f to).2)
theorem lp17_ok : ∀ c, Try.f17.body = some c → LpOk X (fun _ => none) an17 (lpL [(0, lc17)]) (loops c 0) := lpL_ok (by kernel_rfl) fun b L hm st p hs => by
  cases hm with
  | tail _ h => cases h
  | head =>
    obtain ⟨⟨o, f, to, l, n, v⟩, hx, ⟨⟨z, hz, h1, h2, h3, h4⟩, rfl, rfl⟩, rfl⟩ := LC.of2_some hs
    obtain rfl := dl17_ok hx
    have e : eqF o f l = eqI (vOf o l) (vOf o z.Params) := by unfold eqF; rw [hz]
    refine ⟨_, (rounds17 _ hz h1 h2 h3 h4).trans ?_⟩
    dsimp only
    rw [e]
    rfl
theorem lp18_ok : ∀ c, Try.f18.body = some c → LpOk X (fun _ => none) an18 (lpL [(0, lc18)]) (loops c 0) := lpL_ok (by kernel_rfl) fun b L hm st p hs => by
  cases hm with
  | tail _ h => cases h
  | head =>
    obtain ⟨⟨o, f, l, to, v⟩, hx, ⟨⟨z, hz, h1, h2, h3, h4⟩, _, rfl⟩, rfl⟩ := LC.of2_some hs
    obtain rfl := dl18_ok hx
    have e : eqF o f l = eqI (vOf o l) (vOf o z.Params) := by unfold eqF; rw [hz]
    refine ⟨_, (rounds18 _ hz h1 h2 h3 h4).trans ?_⟩
    dsimp only
    rw [e]
    rfl
theorem e17 (o : IRs) (f : Int) (l : List
  Int) (to : Int) : (evFn X (fun (x : FuncId) => none) an17 (lpL [(0, lc17)]) Try.f17 []
  [irV o, TV.v (Value.int IntKind.i64 f), TV.lst C.i64 l, TV.v (Value.int IntKind.i64 to)]
  fun (o : List (TO X.U)) (v : TV X.U) => some (o, v)) =
  bif decide (f < 0) then some ([], TV.v (Value.bool false))
else
  bif decide ((↑o.Fs.length : Int) ≤ f) then some ([], TV.v (Value.bool false))
  else
    (getI o.Fs f).bind fun (z : X.U.T C.t69) =>
      bif !decide ((↑z.Params.length : Int) = (↑l.length : Int)) then some ([], TV.v (Value.bool false))
      else
        if Pre17 o f l (↑l.length : Int) 0 then
          bif eqF o f l then
            bif decide (to < 0) then some ([], TV.v (Value.bool true))
            else
              (getI o.V to).bind fun (z : X.U.T C.i64) =>
                (getI o.Fs f).bind fun (z_1 : X.U.T C.t69) => some ([], TV.v (Value.bool (decide (z = z_1.Ret))))
          else some ([], TV.v (Value.bool false))
        else none := by kernel_rfl
theorem e18 (o : IRs) (f : Int) (l : List
  Int) (to : Int) : (evFn X (fun (x : FuncId) => none) an18 (lpL [(0, lc18)]) Try.f18 []
  [irV o, TV.v (Value.int IntKind.i64 f), TV.lst C.i64 l, TV.v (Value.int IntKind.i64 to)]
  fun (o : List (TO X.U)) (v : TV X.U) => some (o, v)) =
  bif decide (f < 0) then some ([], TV.v (Value.bool false))
else
  bif decide ((↑o.Fs.length : Int) ≤ f) then some ([], TV.v (Value.bool false))
  else
    (getI o.Fs f).bind fun (z : X.U.T C.t69) =>
      bif !decide ((↑l.length : Int) = (↑z.Params.length : Int)) then some ([], TV.v (Value.bool false))
      else
        if Pre17 o f l (↑l.length : Int) 0 then
          bif eqF o f l then
            bif decide (to < 0) then some ([], TV.v (Value.bool true))
            else
              (getI o.V to).bind fun (z : X.U.T C.i64) =>
                (getI o.Fs f).bind fun (z_1 : X.U.T C.t69) => some ([], TV.v (Value.bool (decide (z = z_1.Ret))))
          else some ([], TV.v (Value.bool false))
        else none := by kernel_rfl
def fitsP (o : IRs) (f : Int) (l : List Int) (to : Int) : Bool := cond (decide (f < 0)) false (cond (decide ((o.Fs.length : Int) ≤ f)) false (match getI o.Fs f with
  | some z => cond (!decide ((z.Params.length : Int) = l.length)) false (cond (eqF o f l) (cond (decide (to < 0)) true (decide ((getI o.V to).getD 0 = z.Ret))) false)
  | none => false))
def dFit (objs : List (TO U)) (args : List (TV U)) : Option (IRs × Int × List Int × Int) := match objs, args with
  | [], [a0, a1, a2, a3] =>
    match a0 with
    | .agg [q0, q1, q2, q3, q4, q5] =>
      match q0 with
      | .lst .i64 o_G =>
        match q1 with
        | .lst .i64 o_F =>
          match q2 with
          | .lst .i64 o_V =>
            match q3 with
            | .lst .t69 o_Fs =>
              match q4 with
              | .lst .t65 o_C =>
                match q5 with
                | .v (.int .i64 o_Main) =>
                  match a1 with
                  | .v (.int .i64 f) =>
                    match a2 with
                    | .lst .i64 l =>
                      match a3 with
                      | .v (.int .i64 to) =>
                        some ((⟨o_G, o_F, o_V, o_Fs, o_C, o_Main⟩ : IRs), f, l, to)
                      | _ => none
                    | _ => none
                  | _ => none
                | _ => none
              | _ => none
            | _ => none
          | _ => none
        | _ => none
      | _ => none
    | _ => none
  | _, _ => none
theorem dFit_ok {objs : List (TO U)} {args : List (TV U)} {o : IRs} {f : Int} {l : List Int} {to : Int} (h : dFit objs args = some (o, f, l, to)) : objs = [] ∧ args = [o.tv, .v (.int .i64 f), .lst .i64 l, .v (.int .i64 to)] := by
  unfold dFit at h
  repeat' split at h
  all_goals first | (cases h; done) | (cases h; exact ⟨rfl, rfl⟩)
noncomputable def sFits : Spc U := .of dFit (fun (o, f, l, to) => PreF o l to) (fun _ => []) fun (o, f, l, to) => .v (.bool (fitsP o f l to))
end Go.Proofs.Ytgdnomnealjdlaa.Fl

/- What may be called: the law. -/
namespace Go.Proofs.Ytgdnomnealjdlaa.Fl
open Go Go.RowKit Go.Proofs.Ytgdnomnealjdlaa.Eng
set_option linter.unusedVariables false
set_option linter.unusedSimpArgs false
set_option maxRecDepth 20000
theorem fits_pre {o : IRs} {f : Int} {l : List Int} {to : Int} (hp : PreF o l to) {z : R69} (hz : getI o.Fs f = some z) (hl : (z.Params.length : Int) = (l.length : Int)) : Pre17 o f l (l.length : Int) 0 := ⟨⟨z, hz, hp.2.1, hp.1 z (getI_mem hz), hp.2.2.2, by omega⟩, rfl, rfl⟩
theorem fits_get {o : IRs} {f : Int} (h1 : decide (f < 0) = false) (h2 : decide ((o.Fs.length : Int) ≤ f) = false) : ∃ z, getI o.Fs f = some z := by
  have h1 := of_decide_eq_false h1
  have h2 := of_decide_eq_false h2
  obtain ⟨z, hz, _⟩ := getI_lt (l := o.Fs) (v := f) (by omega) (by omega)
  exact ⟨z, hz⟩
theorem fits_to {o : IRs} {to : Int} (h1 : decide (to < 0) = false) (h2 : to < (o.V.length : Int)) : ∃ x, getI o.V to = some x := by
  have h1 := of_decide_eq_false h1
  obtain ⟨z, hz, _⟩ := getI_lt (l := o.V) (v := to) (by omega) h2
  exact ⟨z, hz⟩
theorem sFits17_ok : SpecOk Try.prog 17 sFits := by
  refine fn_ok X_ok mixed E0_ok an17 (lpL [(0, lc17)]) Try.func17 (by kernel_rfl) (by kernel_rfl) lp17_ok fun objs args x hx hp => ?_
  obtain ⟨o, f, l, to⟩ := x
  obtain ⟨rfl, rfl⟩ := dFit_ok hx
  dsimp only at hp ⊢
  refine (e17 o f l to).trans ?_
  unfold fitsP
  cases h1 : decide (f < 0) with
  | true => rfl
  | false =>
    cases h2 : decide ((o.Fs.length : Int) ≤ f) with
    | true => rfl
    | false =>
      obtain ⟨z, hz⟩ := fits_get h1 h2
      rw [hz]
      simp only [cond_false, Option.bind_some]
      by_cases hl : (z.Params.length : Int) = (l.length : Int)
      · rw [if_pos (fits_pre hp hz hl), decide_eq_true hl]
        cases eqF o f l with
        | false => rfl
        | true =>
          cases h3 : decide (to < 0) with
          | true => rfl
          | false =>
            obtain ⟨x, hx⟩ := fits_to h3 hp.2.2.1
            rw [hx]
            rfl
      · rw [decide_eq_false hl]; rfl
theorem sFits18_ok : SpecOk Try.prog 18 sFits := by
  refine fn_ok X_ok mixed E0_ok an18 (lpL [(0, lc18)]) Try.func18 (by kernel_rfl) (by kernel_rfl) lp18_ok fun objs args x hx hp => ?_
  obtain ⟨o, f, l, to⟩ := x
  obtain ⟨rfl, rfl⟩ := dFit_ok hx
  dsimp only at hp ⊢
  refine (e18 o f l to).trans ?_
  unfold fitsP
  cases h1 : decide (f < 0) with
  | true => rfl
  | false =>
    cases h2 : decide ((o.Fs.length : Int) ≤ f) with
    | true => rfl
    | false =>
      obtain ⟨z, hz⟩ := fits_get h1 h2
      rw [hz]
      simp only [cond_false, Option.bind_some]
      by_cases hl : (z.Params.length : Int) = (l.length : Int)
      · rw [if_pos (fits_pre hp hz hl), decide_eq_true hl, decide_eq_true hl.symm]
        cases eqF o f l with
        | false => rfl
        | true =>
          cases h3 : decide (to < 0) with
          | true => rfl
          | false =>
            obtain ⟨x, hx⟩ := fits_to h3 hp.2.2.1
            rw [hx]
            rfl
      · rw [decide_eq_false hl, decide_eq_false (fun h => hl h.symm)]; rfl
noncomputable def Fe : FuncId → Option (Spc U)
  | 10 => some sGiven
  | 11 => some sAwake
  | 17 => some sFits
  | 18 => some sFits
  | _ => none
theorem Fe_ok : ∀ f S, Fe f = some S → SpecOk Try.prog f S := fun f S h => by
  unfold Fe at h
  split at h
  · cases h; exact sGiven_ok
  · cases h; exact sAwake_ok
  · cases h; exact sFits17_ok
  · cases h; exact sFits18_ok
  · cases h
def an4 : Ann := ⟨fun | 0 => 1670 | 2 => 2690 | 4 => 6786 | _ => 0, fun | 0 => 706 | 2 => 706 | 4 => 2754 | _ => 0, fun | 9 => [9] | _ => [], false⟩
def S4a (o : IRs) (f : Int) (a l : List Int) (i : Int) : TS U := mkS 95 [(1, .v (.int .i64 f)), (2, .lst .i64 a), (7, .ref 0 0 0), (9, .full 1), (10, .v (.int .i64 i))] [irOb o, .row .i64 l false] 0
def E4a (o : IRs) (f : Int) (l : List Int) : Exit × TS U := (.exit 0, mkS 95 [(1, .v (.int .i64 f)), (7, .ref 0 0 0), (9, .full 1)] [irOb o, .row .i64 l false] 0)
def md (n z : Int) : Int := (IntKind.i64.wrap (Int.tmod z n + n)).tmod n
theorem r4a (lp : Lp U) (N : Nat) (o : IRs) (f : Int) (a l : List Int) (i : Int) : fnLoop X Fe an4 lp Try.f4 0 (N + 1) (S4a o f a l i) = cond (decide (i < (a.length : Int))) (cond (decide (i < 4)) ((getI a i).bind fun z => if (o.V.length : Int) = 0 then none else (if (o.V.length : Int) = 0 then none else (if (l.length + 1) * 8 ≤ 140737488355328 then fnLoop X Fe an4 lp Try.f4 0 N (S4a o f a (l ++ [md o.V.length z]) (IntKind.i64.wrap (i + 1))) else none))) (some (E4a o f l))) (some (E4a o f l)) := by kernel_rfl
theorem md_in {n z : Int} (h0 : 0 < n) (h1 : n ≤ 60) : 0 ≤ md n z ∧ md n z < n := by
  have a1 : Int.tmod z n < n := Int.tmod_lt_of_pos z h0
  have a2 : -n < Int.tmod z n := Int.lt_tmod_of_pos z h0
  have hw : IntKind.i64.wrap (Int.tmod z n + n) = Int.tmod z n + n := wrap_i64 (by omega) (by omega)
  unfold md
  rw [hw]
  exact ⟨Int.tmod_nonneg n (by omega), Int.tmod_lt_of_pos _ h0⟩
def S4b (o : IRs) (f : Int) (l : List Int) (k : Int) : TS U := mkS 95 [(1, .v (.int .i64 f)), (7, .ref 0 0 0), (9, .lst .i64 l), (11, .v (.int .i64 k))] [irOb o] 0
def S4c (o : IRs) (f : Int) (l : List Int) (k to : Int) : TS U := mkS 95 [(1, .v (.int .i64 f)), (7, .ref 0 0 0), (9, .lst .i64 l), (11, .v (.int .i64 k)), (12, .v (.int .i64 to))] [irOb o] 0
theorem r4c (lp : Lp
  U) (N : Nat) (o : IRs) (f : Int) (l : List
  Int) (k : Int) (to : Int) : (fnLoop X Fe an4 lp Try.f4 4 N.succ (S4c o f l k to)) =
  bif decide (to < (↑o.V.length : Int)) then
  if PreF o l to then
    if PreF o l to then
      bif !fitsP o k l to == fitsP o k l to then
        some
          (Exit.ret,
            mkS 95
              [(1, TV.v (Value.int IntKind.i64 f)), (6, TV.v (Value.bool false)), (7, TV.ref 0 0 0),
                (9, TV.lst C.i64 l), (11, TV.v (Value.int IntKind.i64 k))]
              [irOb o] 0)
      else fnLoop X Fe an4 lp Try.f4 4 N (S4c o f l k (IntKind.i64.wrap (to + 1)))
    else none
  else none
else some (Exit.exit 4, S4b o f l k) := by kernel_rfl
def PreV (o : IRs) (l : List Int) : Prop := RngF o ∧ InV o l ∧ l.length ≤ 3000000 ∧ o.V.length ≤ 3000000 ∧ o.Fs.length ≤ 3000000
noncomputable instance (o : IRs) (l : List Int) : Decidable (PreV o l) := Classical.propDecidable _
theorem PreV.f {o : IRs} {l : List Int} (h : PreV o l) {to : Int} (ht : to < (o.V.length : Int)) : PreF o l to := ⟨h.1, h.2.1, ht, h.2.2.1⟩
theorem beq_self' (b : Bool) : (b == b) = true := by cases b <;> rfl
theorem rounds4c (lp : Lp U) {o : IRs} {l : List Int} (h : PreV o l) (f k : Int) : ∀ (N : Nat) (to : Int), -1 ≤ to → (o.V.length : Int) ≤ to + N → fnLoop X Fe an4 lp Try.f4 4 (N + 1) (S4c o f l k to) = some (.exit 4, S4b o f l k) := by
  intro N
  induction N with
  | zero => intro to h0 h1; rw [r4c, decide_eq_false (by omega)]; rfl
  | succ N ih =>
    intro to h0 h1
    rw [r4c]
    by_cases ht : to < (o.V.length : Int)
    · have hw : IntKind.i64.wrap (to + 1) = to + 1 := wrap_i64 (by omega) (by have := h.2.2.2.1; omega)
      rw [decide_eq_true ht, cond_true, if_pos (h.f ht), if_pos (h.f ht), beq_self', hw]
      exact ih _ (by omega) (by omega)
    · rw [decide_eq_false ht]; rfl
def dl4c (s : TS U) : Option (IRs × Int × List Int × Int × Int) := match told s 95 [1, 7, 9, 11, 12] 0, s.objs with
  | some [a0, a1, a2, a3, a4], [o0] =>
    match o0 with
    | .cells [q0, q1, q2, q3, q4, q5] false =>
      match q0 with
      | .lst .i64 o_G =>
        match q1 with
        | .lst .i64 o_F =>
          match q2 with
          | .lst .i64 o_V =>
            match q3 with
            | .lst .t69 o_Fs =>
              match q4 with
              | .lst .t65 o_C =>
                match q5 with
                | .v (.int .i64 o_Main) =>
                  match a0 with
                  | .v (.int .i64 f) =>
                    match a1 with
                    | .ref 0 0 0 =>
                      match a2 with
                      | .lst .i64 l =>
                        match a3 with
                        | .v (.int .i64 k) =>
                          match a4 with
                          | .v (.int .i64 to) =>
                            some ((⟨o_G, o_F, o_V, o_Fs, o_C, o_Main⟩ : IRs), f, l, k, to)
                          | _ => none
                        | _ => none
                      | _ => none
                    | _ => none
                  | _ => none
                | _ => none
              | _ => none
            | _ => none
          | _ => none
        | _ => none
      | _ => none
    | _ => none
  | _, _ => none
theorem dl4c_ok {s : TS U} {o : IRs} {f : Int} {l : List Int} {k : Int} {to : Int} (h : dl4c s = some (o, f, l, k, to)) : s = mkS (U := U) 95 ([1, 7, 9, 11, 12].zip ([.v (.int .i64 f), .ref 0 0 0, .lst .i64 l, .v (.int .i64 k), .v (.int .i64 to)] : List (TV U))) ([o.ob] : List (TO U)) 0 := by
  unfold dl4c at h
  split at h <;> try (cases h; done)
  rename_i ht ho
  have hs := told_ok ht
  rw [ho] at hs
  repeat' split at h
  all_goals first | (cases h; done) | (cases h; exact hs)
def Pre4c (o : IRs) (l : List Int) (to : Int) : Prop := PreV o l ∧ to = -1
noncomputable instance (o : IRs) (l : List Int) (to : Int) : Decidable (Pre4c o l to) := Classical.propDecidable _
noncomputable def lc4c : LC U := .of dl4c (fun (o, f, l, k, to) => Pre4c o l to) (.exit 4) (fun (o, f, l, k, to) => S4b o f l k)
noncomputable def lp4c : Lp U := lpL [(4, lc4c)]
theorem r4b (N : Nat) (o : IRs) (f : Int) (l : List
  Int) (k : Int) : (fnLoop X Fe an4 lp4c Try.f4 2 N.succ (S4b o f l k)) =
  bif decide (k < (↑o.Fs.length : Int)) then
  if Pre4c o l (-1) then fnLoop X Fe an4 lp4c Try.f4 2 N (S4b o f l (IntKind.i64.wrap (k + 1))) else none
else
  some
    (Exit.exit 2,
      mkS 95 [(1, TV.v (Value.int IntKind.i64 f)), (7, TV.ref 0 0 0), (9, TV.lst C.i64 l)] [irOb o] 0) := by kernel_rfl
end Go.Proofs.Ytgdnomnealjdlaa.Fl

/- What may be called: the law, proved. -/
namespace Go.Proofs.Ytgdnomnealjdlaa.Fl
open Go Go.RowKit Go.Proofs.Ytgdnomnealjdlaa.Eng
set_option linter.unusedVariables false
set_option linter.unusedSimpArgs false
set_option maxRecDepth 20000
def gl4 (o : IRs) (l : List Int) (z : Int) : List Int := l ++ [md o.V.length z]
def l4 (o : IRs) (a : List Int) : List Int := (a.take 4).map (md o.V.length)
theorem fold4 (o : IRs) : ∀ (a l : List Int), a.foldl (gl4 o) l = l ++ a.map (md o.V.length)
  | [], l => by simp
  | z :: a, l => by rw [List.foldl_cons, fold4 o a]; simp [gl4]
theorem getI_take {a : List Int} {v z : Int} (h : getI (a.take 4) v = some z) : getI a v = some z ∧ v < 4 ∧ v < a.length := by
  unfold getI at h ⊢
  split at h
  · rename_i h0
    have hlt := (List.getElem?_eq_some_iff.1 h).1
    rw [List.length_take] at hlt
    rw [List.getElem?_take] at h
    split at h
    · exact ⟨by rw [if_pos h0]; exact h, by omega, by omega⟩
    · cases h
  · cases h
theorem rounds4a (lp : Lp U) (o : IRs) (ho : (o.V.length : Int) ≠ 0) (f : Int) (a : List Int) : fnLoop X Fe an4 lp Try.f4 0 ((a.take 4).length + 1) (S4a o f a [] 0) = some (E4a o f (l4 o a)) := by
  have hlen : (a.take 4).length ≤ 4 := by rw [List.length_take]; omega
  have hlen2 : (a.take 4).length = min 4 a.length := List.length_take
  have h := ixL_rounds (fnl := fun n st => fnLoop X Fe an4 lp Try.f4 0 n st) (fun l i => S4a o f a l i) (E4a o f) (len := (a.take 4).length) (step := stepI (a.take 4) (gl4 o)) (fun l i => (l.length : Int) = i) (fun l i N hl h0 h1 => by
    obtain ⟨z, hz, _⟩ := getI_lt (l := a.take 4) h0 h1
    obtain ⟨hz2, hi4, hia⟩ := getI_take hz
    have hw : IntKind.i64.wrap (i + 1) = i + 1 := wrap_i64 (by omega) (by omega)
    have hb : (l.length + 1) * 8 ≤ 140737488355328 := by omega
    have hst : stepI (a.take 4) (gl4 o) l i = l ++ [md o.V.length z] := by unfold stepI; rw [hz]; rfl
    rw [hst]
    refine ⟨?_, by rw [List.length_append]; simp only [List.length_singleton]; omega⟩
    dsimp only
    rw [r4a, decide_eq_true hia, decide_eq_true hi4, hz2, hw, cond_true, cond_true, Option.bind_some, if_neg ho, if_neg ho, if_pos hb]) (fun l i N _ h0 h1 => by
    dsimp only
    rw [r4a]
    by_cases hia : i < (a.length : Int)
    · rw [decide_eq_true hia, decide_eq_false (by omega)]; rfl
    · rw [decide_eq_false hia]; rfl) (a.take 4).length [] 0 (Int.le_refl 0) (by omega) rfl
  rw [ixL_all, fold4, List.nil_append] at h
  exact h
def dl4a (s : TS U) : Option (IRs × List Int × Int × List Int × Int) := match told s 95 [1, 2, 7, 9, 10] 0, s.objs with
  | some [a0, a1, a2, a3, a4], [o0, o1] =>
    match o0 with
    | .cells [q0, q1, q2, q3, q4, q5] false =>
      match q0 with
      | .lst .i64 o_G =>
        match q1 with
        | .lst .i64 o_F =>
          match q2 with
          | .lst .i64 o_V =>
            match q3 with
            | .lst .t69 o_Fs =>
              match q4 with
              | .lst .t65 o_C =>
                match q5 with
                | .v (.int .i64 o_Main) =>
                  match o1 with
                  | .row .i64 l false =>
                    match a0 with
                    | .v (.int .i64 f) =>
                      match a1 with
                      | .lst .i64 a =>
                        match a2 with
                        | .ref 0 0 0 =>
                          match a3 with
                          | .full 1 =>
                            match a4 with
                            | .v (.int .i64 i) =>
                              some ((⟨o_G, o_F, o_V, o_Fs, o_C, o_Main⟩ : IRs), l, f, a, i)
                            | _ => none
                          | _ => none
                        | _ => none
                      | _ => none
                    | _ => none
                  | _ => none
                | _ => none
              | _ => none
            | _ => none
          | _ => none
        | _ => none
      | _ => none
    | _ => none
  | _, _ => none
theorem dl4a_ok {s : TS U} {o : IRs} {l : List Int} {f : Int} {a : List Int} {i : Int} (h : dl4a s = some (o, l, f, a, i)) : s = mkS (U := U) 95 ([1, 2, 7, 9, 10].zip ([.v (.int .i64 f), .lst .i64 a, .ref 0 0 0, .full 1, .v (.int .i64 i)] : List (TV U))) ([o.ob, .row .i64 l false] : List (TO U)) 0 := by
  unfold dl4a at h
  split at h <;> try (cases h; done)
  rename_i ht ho
  have hs := told_ok ht
  rw [ho] at hs
  repeat' split at h
  all_goals first | (cases h; done) | (cases h; exact hs)
def dl4b (s : TS U) : Option (IRs × Int × List Int × Int) := match told s 95 [1, 7, 9, 11] 0, s.objs with
  | some [a0, a1, a2, a3], [o0] =>
    match o0 with
    | .cells [q0, q1, q2, q3, q4, q5] false =>
      match q0 with
      | .lst .i64 o_G =>
        match q1 with
        | .lst .i64 o_F =>
          match q2 with
          | .lst .i64 o_V =>
            match q3 with
            | .lst .t69 o_Fs =>
              match q4 with
              | .lst .t65 o_C =>
                match q5 with
                | .v (.int .i64 o_Main) =>
                  match a0 with
                  | .v (.int .i64 f) =>
                    match a1 with
                    | .ref 0 0 0 =>
                      match a2 with
                      | .lst .i64 l =>
                        match a3 with
                        | .v (.int .i64 k) =>
                          some ((⟨o_G, o_F, o_V, o_Fs, o_C, o_Main⟩ : IRs), f, l, k)
                        | _ => none
                      | _ => none
                    | _ => none
                  | _ => none
                | _ => none
              | _ => none
            | _ => none
          | _ => none
        | _ => none
      | _ => none
    | _ => none
  | _, _ => none
theorem dl4b_ok {s : TS U} {o : IRs} {f : Int} {l : List Int} {k : Int} (h : dl4b s = some (o, f, l, k)) : s = mkS (U := U) 95 ([1, 7, 9, 11].zip ([.v (.int .i64 f), .ref 0 0 0, .lst .i64 l, .v (.int .i64 k)] : List (TV U))) ([o.ob] : List (TO U)) 0 := by
  unfold dl4b at h
  split at h <;> try (cases h; done)
  rename_i ht ho
  have hs := told_ok ht
  rw [ho] at hs
  repeat' split at h
  all_goals first | (cases h; done) | (cases h; exact hs)
def Pre4a (n m : Nat) (i : Int) : Prop := (n : Int) ≠ 0 ∧ m = 0 ∧ i = 0
instance (n m : Nat) (i : Int) : Decidable (Pre4a n m i) := by unfold Pre4a; infer_instance
def Pre4b (o : IRs) (l : List Int) (k : Int) : Prop := PreV o l ∧ k = 0
noncomputable instance (o : IRs) (l : List Int) (k : Int) : Decidable (Pre4b o l k) := Classical.propDecidable _
def E4b (o : IRs) (f : Int) (l : List Int) : Exit × TS U := (.exit 2, mkS 95 [(1, .v (.int .i64 f)), (7, .ref 0 0 0), (9, .lst .i64 l)] [irOb o] 0)
noncomputable def lc4a : LC U := .of dl4a (fun (o, l, f, a, i) => Pre4a o.V.length l.length i) (.exit 0) (fun (o, l, f, a, i) => (E4a o f (l4 o a)).2)
noncomputable def lc4b : LC U := .of dl4b (fun (o, f, l, k) => Pre4b o l k) (.exit 2) (fun (o, f, l, k) => (E4b o f l).2)
noncomputable def lp4 : Lp U := lpL [(0, lc4a), (2, lc4b), (4, lc4c)]
theorem r4b' (N : Nat) (o : IRs) (f : Int) (l : List Int) (k : Int) : fnLoop X Fe an4 lp4 Try.f4 2 (N + 1) (S4b o f l k) = cond (decide (k < (o.Fs.length : Int))) (if Pre4c o l (-1) then fnLoop X Fe an4 lp4 Try.f4 2 N (S4b o f l (IntKind.i64.wrap (k + 1))) else none) (some (E4b o f l)) := by kernel_rfl
theorem rounds4b {o : IRs} {l : List Int} (h : PreV o l) (f : Int) : fnLoop X Fe an4 lp4 Try.f4 2 (o.Fs.length + 1) (S4b o f l 0) = some (E4b o f l) :=
  ixL_rounds (σ := Unit) (fnl := fun n st => fnLoop X Fe an4 lp4 Try.f4 2 n st) (fun _ k => S4b o f l k) (fun _ => E4b o f l) (len := o.Fs.length) (step := fun c _ => c) (fun _ _ => True) (fun c k N _ h0 h1 => by
    have hw : IntKind.i64.wrap (k + 1) = k + 1 := wrap_i64 (by omega) (by have := h.2.2.2.2; omega)
    refine ⟨?_, trivial⟩
    dsimp only
    rw [r4b', decide_eq_true h1, hw, cond_true, if_pos ⟨h, rfl⟩]) (fun c k N _ h0 h1 => by dsimp only; rw [r4b', decide_eq_false h1]; rfl) o.Fs.length () 0 (Int.le_refl 0) (by omega) trivial
theorem lp4_ok : ∀ c, Try.f4.body = some c → LpOk X Fe an4 lp4 (loops c 0) := lpL_ok (by kernel_rfl) fun b L hm st p hs => by
  cases hm with
  | head =>
    obtain ⟨⟨o, l, f, a, i⟩, hx, ⟨h1, h2, rfl⟩, rfl⟩ := LC.of_some hs
    obtain rfl := List.length_eq_zero_iff.1 h2
    obtain rfl := dl4a_ok hx
    exact ⟨_, rounds4a _ o h1 f a⟩
  | tail _ hm => cases hm with
    | head =>
      obtain ⟨⟨o, f, l, k⟩, hx, ⟨h1, rfl⟩, rfl⟩ := LC.of_some hs
      obtain rfl := dl4b_ok hx
      exact ⟨_, rounds4b h1 f⟩
    | tail _ hm => cases hm with
      | head =>
        obtain ⟨⟨o, f, l, k, to⟩, hx, ⟨h1, rfl⟩, rfl⟩ := LC.of_some hs
        obtain rfl := dl4c_ok hx
        exact ⟨_, rounds4c _ h1 f k (o.V.length + 1) (-1) (Int.le_refl _) (by omega)⟩
      | tail _ hm => cases hm
theorem e4 (s : ByteArray) (f : Int) (a : List
  Int) : (evFn X Fe an4 lp4 Try.f4 [] [TV.v (Value.string s), TV.v (Value.int IntKind.i64 f), TV.lst C.i64 a]
  fun (o : List (TO X.U)) (v : TV X.U) => some (o, v)) =
  if True then
  bif !(given s).snd then some ([], TV.v (Value.bool true))
  else
    bif decide ((↑(given s).fst.V.length : Int) = 0) then some ([], TV.v (Value.bool true))
    else
      if Pre4a (given s).fst.V.length 0 0 then
        if Pre4b (given s).fst (l4 (given s).fst a) 0 then
          if PreF (given s).fst (l4 (given s).fst a) (-1) then
            if PreF (given s).fst (l4 (given s).fst a) (-1) then
              some
                ([],
                  TV.v
                    (Value.bool
                      (fitsP (given s).fst f (l4 (given s).fst a) (-1) ==
                        fitsP (given s).fst f (l4 (given s).fst a) (-1))))
            else none
          else none
        else none
      else none
else none := by kernel_rfl
/-! ### The numbers of arguments -/
theorem parI_in {t : TR} {o : IRs} {z : R90} (h : o.V.length + z.Params.length ≤ 100000000) : ∀ p ∈ parI o z, 0 ≤ p ∧ p < (o.V.length + z.Params.length : Int) := by
  unfold parI
  refine ixL_inv (I := fun ps => ∀ p ∈ ps, 0 ≤ p ∧ p < (o.V.length + z.Params.length : Int)) (fun ps i hp h0 h1 => ?_) _ _ _ (Int.le_refl 0) (fun p h => by cases h)
  have hw : IntKind.i64.wrap ((o.V.length : Int) + i) = o.V.length + i := wrap_i64 (by omega) (by omega)
  intro p hm
  unfold st6 at hm
  rw [hw] at hm
  rcases List.mem_append.1 hm with hm | hm
  · exact hp p hm
  · obtain rfl := List.mem_singleton.1 hm
    omega
theorem lwF_R {t : TR} {o : IRs} {v : Int} {z : R90} (h : o.V.length + z.Params.length ≤ 100000000) (ho : RngF o) : RngF (lwF t o v z) := by
  intro x hx p hp
  have hv : (lwF t o v z).V.length = o.V.length + (z.Params.length + z.Vars.length) := by unfold lwF; simp
  rcases List.mem_append.1 hx with hx | hx
  · have := ho x hx p hp
    omega
  · obtain rfl := List.mem_singleton.1 hx
    have := parI_in (t := t) h p hp
    omega
theorem lwL_R {t : TR} (ht : TrOk t) : ∀ (r : List R90) (o : IRs) (v : Int), 0 ≤ v → t.N.drop v.toNat = r → IrB t o r → RngF o → RngF (lwL t r o v)
  | [], o, v, h0, hr, ho, hR => hR
  | z :: r, o, v, h0, hr, ho, hR => by
    have hlen : v < (t.N.length : Int) := by
      have := congrArg List.length hr
      rw [List.length_drop, List.length_cons] at this
      omega
    have hx : t.N[v.toNat]? = some t.N[v.toNat] := List.getElem?_eq_getElem (by omega)
    have hd : t.N.drop v.toNat = t.N[v.toNat] :: t.N.drop (v.toNat + 1) := List.drop_eq_getElem_cons (by omega)
    rw [hd] at hr
    injection hr with hz hr
    have hg : getI t.N v = some z := by unfold getI; rw [if_pos h0, hx, hz]
    have hfw : fnW z ≤ 1000000 := by
      have := fnsW_at t.N v.toNat z (by rw [hx, hz])
      have := ht.2.2
      omega
    have hb := (round4 (R := Unit) (K := fun _ _ => none) ht h0 hlen hg ho hfw).2
    have hq := ho.1
    rw [fnsW] at hq
    have hfe : fnW z = 1 + (z.Params.length + (z.Vars.length + cntL z.Body)) := rfl
    rw [lwL]
    exact lwL_R ht r _ (v + 1) (by omega) (by rw [show (v + 1).toNat = v.toNat + 1 by omega]; exact hr) hb (lwF_R (by omega) hR)
theorem lower_R {t : TR} (ht : TrOk t) : RngF (lower t) := by
  have hb : IrB t ⟨t.G.map R82.Type_, t.F.map R82.Type_, [], [], [], 0⟩ t.N := by
    have := ht.2.2
    exact ⟨by show 0 + _ ≤ _; omega, by show 0 + _ ≤ _; omega, by show 0 + _ ≤ _; omega⟩
  exact lwL_R ht t.N _ 0 (Int.le_refl 0) rfl hb (fun z hz => by cases hz)
theorem given_V {s : ByteArray} (h : (given s).2 = true) : (given s).1.V.length ≤ 60 ∧ RngF (given s).1 ∧ (given s).1.Fs.length ≤ 1000000 := by
  have hR := lower_R (parse_ok (cut3_ok s).2)
  have hB := lower_B (parse_ok (cut3_ok s).2)
  unfold given at h ⊢
  revert h
  cases !decide ((parseP (cut3 s)).2.1 = 0) with
  | true => intro h; cases h
  | false =>
    cases !decide ((chk (parseP (cut3 s)).1).Code = 0) with
    | true => intro h; cases h
    | false =>
      intro h
      have h : okG (lower (parseP (cut3 s)).1) = true := h
      unfold okG at h
      simp only [Bool.and_eq_true, decide_eq_true_eq] at h
      exact ⟨by show (lower (parseP (cut3 s)).1).V.length ≤ 60; omega, hR, hB.2.2⟩
theorem l4_in {o : IRs} (h0 : 0 < (o.V.length : Int)) (h1 : o.V.length ≤ 60) (a : List Int) : InV o (l4 o a) ∧ (l4 o a).length ≤ 4 := by
  refine ⟨fun p hp => ?_, by unfold l4; rw [List.length_map, List.length_take]; omega⟩
  unfold l4 at hp
  obtain ⟨z, _, rfl⟩ := List.mem_map.1 hp
  exact md_in h0 (by omega)
def dLaw4 (objs : List (TO U)) (args : List (TV U)) : Option (ByteArray × Int × List Int) := match objs, args with
  | [], [a0, a1, a2] =>
    match a0 with
    | .v (.string s) =>
      match a1 with
      | .v (.int .i64 f) =>
        match a2 with
        | .lst .i64 a =>
          some (s, f, a)
        | _ => none
      | _ => none
    | _ => none
  | _, _ => none
theorem dLaw4_ok {objs : List (TO U)} {args : List (TV U)} {s : ByteArray} {f : Int} {a : List Int} (h : dLaw4 objs args = some (s, f, a)) : objs = [] ∧ args = [.v (.string s), .v (.int .i64 f), .lst .i64 a] := by
  unfold dLaw4 at h
  repeat' split at h
  all_goals first | (cases h; done) | (cases h; exact ⟨rfl, rfl⟩)
def sLaw4 : Spc U := .of dLaw4 (fun _ => True) (fun _ => []) fun _ => .v (.bool true)
theorem sLaw4_ok : SpecOk Try.prog 4 sLaw4 := by
  refine fn_ok X_ok mixed Fe_ok an4 lp4 Try.func4 (by kernel_rfl) (by kernel_rfl) lp4_ok fun objs args x hx hp => ?_
  obtain ⟨s, f, a⟩ := x
  obtain ⟨rfl, rfl⟩ := dLaw4_ok hx
  dsimp only
  refine (e4 s f a).trans ?_
  rw [if_pos trivial]
  cases hg : (given s).2 with
  | false => rfl
  | true =>
    obtain ⟨g1, g2, g3⟩ := given_V hg
    by_cases hV : ((given s).1.V.length : Int) = 0
    · rw [decide_eq_true hV]; rfl
    · obtain ⟨i1, i2⟩ := l4_in (o := (given s).1) (by omega) g1 a
      have hpv : PreV (given s).1 (l4 (given s).1 a) := ⟨g2, i1, by omega, by omega, by omega⟩
      have hpf : PreF (given s).1 (l4 (given s).1 a) (-1) := hpv.f (by omega)
      rw [decide_eq_false hV]
      simp only [Bool.not_true, cond_false]
      rw [if_pos ⟨hV, rfl, rfl⟩, if_pos ⟨hpv, rfl⟩, if_pos hpf, if_pos hpf, beq_self']
end Go.Proofs.Ytgdnomnealjdlaa.Fl


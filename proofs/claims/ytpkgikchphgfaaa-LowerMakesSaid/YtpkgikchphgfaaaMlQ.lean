/- Texts of this claim, put together: part 17. -/
import Derived.Test.YtpkgikchphgfaaaMlJ
import Derived.Test.YtpkgikchphgfaaaMlK
import Derived.Test.YtpkgikchphgfaaaMlL
import Derived.Test.YtpkgikchphgfaaaMlM
import Derived.Test.YtpkgikchphgfaaaMlN
import Derived.Test.YtpkgikchphgfaaaMlO
import Derived.Test.YtpkgikchphgfaaaMlP
/- The references' instructions: of a program, put together. -/
namespace Go.Proofs.Ytpkgikchphgfaaa.Fl
open Go Go.RowKit Go.Proofs.Ytpkgikchphgfaaa.Eng
set_option linter.unusedVariables false
set_option linter.unusedSimpArgs false
set_option maxRecDepth 20000
noncomputable def run36 (l : List (Nat × LC U)) (b : Nat) : Nat × LC U := (b, LC.run X Ez an36 l Try.f29 b)
noncomputable def in36 : List (Nat × LC U) := [run36 [] 6, run36 [] 8]
noncomputable def all36 : List (Nat × LC U) := [run36 [] 0, run36 [] 2, run36 in36 4, run36 [] 6, run36 [] 8]
def st6 (k : Int) (ps : List Int) (i : Int) : List Int := ps ++ [IntKind.i64.wrap (k + i)]
theorem rounds6 (l : List (Nat × LC U)) (t : TR) (o : IRs) (v : Int) (z : R90) (b : BS) (f : Int) (hz : z.Params.length ≤ 3000000) : fnLoop X Ez an36 (lpL l) Try.f29 6 (z.Params.length + 1) (S36c t o v z b [] f [(10, .v (.int .i64 0))]) = some (.exit 6, S36c t o v z b (ixL z.Params.length (st6 o.V.length) (z.Params.length + 1) [] 0) f []) :=
  ixL_rounds (fnl := fun n st => fnLoop X Ez an36 (lpL l) Try.f29 6 n st) (fun ps i => S36c t o v z b ps f [(10, .v (.int .i64 i))]) (fun ps => (.exit 6, S36c t o v z b ps f [])) (len := z.Params.length) (step := st6 o.V.length) (fun ps i => (ps.length : Int) = i) (fun ps i N hp h0 h1 => by
    have hw : IntKind.i64.wrap (i + 1) = i + 1 := wrap_i64 (by omega) (by omega)
    have hl : (ps.length + 1) * 8 ≤ 140737488355328 := by omega
    refine ⟨?_, by unfold st6; rw [List.length_append]; simp only [List.length_singleton]; omega⟩
    dsimp only
    rw [r6, decide_eq_true h1, hw, cond_true, if_pos hl]
    rfl) (fun ps i N _ h0 h1 => by dsimp only; rw [r6, decide_eq_false h1]; rfl) z.Params.length [] 0 (Int.le_refl 0) (by omega) rfl
def parI (o : IRs) (z : R90) : List Int := ixL z.Params.length (st6 o.V.length) (z.Params.length + 1) [] 0
def IRs.addV (o : IRs) (w : List Int) : IRs := ⟨o.G, o.F, o.V ++ w, o.Fs, o.C, o.Main⟩
def st8 (w : List Int) (d : R82) : List Int := w ++ [d.Type_]
theorem fold8 : ∀ (l : List R82) (w : List Int), l.foldl st8 w = w ++ l.map R82.Type_
  | [], w => by simp
  | d :: l, w => by rw [List.foldl_cons, fold8 l]; simp [st8]
theorem rounds8 (l : List (Nat × LC U)) (t : TR) (o : IRs) (v : Int) (z : R90) (b : BS) (ps : List Int) (f : Int) (hb : b.V.length ≤ 3000000) (ho : o.V.length + b.V.length ≤ 300000000) : fnLoop X Ez an36 (lpL l) Try.f29 8 (b.V.length + 1) (S36c t o v z b ps f [(11, .v (.int .i64 0))]) = some (.exit 8, S36c t (o.addV (b.V.map R82.Type_)) v z b ps f []) := by
  obtain ⟨g, fl, w, fs, c, m⟩ := o
  have h := ixL_rounds (fnl := fun n st => fnLoop X Ez an36 (lpL l) Try.f29 8 n st) (fun w i => S36c t ⟨g, fl, w, fs, c, m⟩ v z b ps f [(11, .v (.int .i64 i))]) (fun w => (.exit 8, S36c t ⟨g, fl, w, fs, c, m⟩ v z b ps f [])) (len := b.V.length) (step := stepI b.V st8) (fun w' i => (w'.length : Int) = w.length + i) (fun w' i N hp h0 h1 => by
    obtain ⟨d, hd, _⟩ := getI_lt h0 h1
    have hw : IntKind.i64.wrap (i + 1) = i + 1 := wrap_i64 (by omega) (by omega)
    have hl : (w'.length + 1) * 8 ≤ 140737488355328 := by dsimp only at ho; omega
    have hst : stepI b.V st8 w' i = w' ++ [d.Type_] := by unfold stepI; rw [hd]; rfl
    rw [hst]
    refine ⟨?_, by rw [List.length_append]; simp only [List.length_singleton]; omega⟩
    dsimp only
    rw [r8, decide_eq_true h1, hd, hw, cond_true, Option.bind_some, if_pos hl]) (fun w' i N _ h0 h1 => by dsimp only; rw [r8, decide_eq_false h1]; rfl) b.V.length w 0 (Int.le_refl 0) (by omega) (by omega)
  rw [ixL_all, fold8] at h
  exact h
/-- A function's instructions. -/
def codI (t : TR) (o : IRs) (v : Int) (z : R90) : List R65 := (lb1 t o v z).C
theorem codI_ne (t : TR) (o : IRs) (v : Int) (z : R90) : ∃ y ys, codI t o v z = y :: ys := by
  unfold codI lb1 BS.put
  cases h : [] ++ (blL z.Body (lb0 t o v z)).C ++ [⟨(blL z.Body (lb0 t o v z)).Fn, z.At, 16, -1, 0, 0, 0, 0, []⟩] with
  | nil => simp at h
  | cons y ys => exact ⟨y, ys, h⟩
/-- With one function more. -/
def lwF (t : TR) (o : IRs) (v : Int) (z : R90) : IRs := ⟨o.G, o.F, o.V ++ ([] ++ z.Params ++ z.Vars).map R82.Type_, o.Fs ++ [⟨z.Name, parI o z, z.Ret, o.C.length, (o.C ++ codI t o v z).length⟩], o.C ++ codI t o v z, cond (z.Name.toList == bMain.toList) v o.Main⟩
/-- Not too much so far. -/
def IrB (t : TR) (o : IRs) (l : List R90) : Prop := o.V.length + fnsW l ≤ 1000000 ∧ o.C.length + 3 * fnsW l ≤ 3000000 ∧ o.Fs.length + fnsW l ≤ 1000000
theorem lb1_V (t : TR) (o : IRs) (v : Int) (z : R90) : (lb1 t o v z).V = [] ++ z.Params ++ z.Vars := by
  have h := (blL_lk z.Body (lb0 t o v z)).trans (BS.Lk.put _ z.At (ins3 16 (-1) 0 0 0 0))
  obtain ⟨C, hC, _⟩ := h
  have : lb1 t o v z = { lb0 t o v z with C := C } := hC
  rw [this]
  rfl
theorem round4 {R : Type} {K : Exit → TS U → Option R} {t : TR} (ht : TrOk t) {o : IRs} {v : Int} {z : R90} (h0 : 0 ≤ v) (h1 : v < t.N.length) (hz : getI t.N v = some z) {r : List R90} (ho : IrB t o (z :: r)) (hw : fnW z ≤ 1000000) :
    evC X Ez an36 (lpL in36) L4 4 (S36 t o 6 v) K = K .normal (S36 t (lwF t o v z) 6 (IntKind.i64.wrap (v + 1))) ∧ IrB t (lwF t o v z) r := by
  obtain ⟨b1, b2, b3⟩ := ho
  rw [fnsW] at b1 b2 b3
  have hfw : fnW z = 1 + (z.Params.length + (z.Vars.length + cntL z.Body)) := rfl
  have hn := fnsW_len t.N
  obtain ⟨t1, t2, t3⟩ := ht
  have hV : ([] ++ z.Params ++ z.Vars).length = z.Params.length + z.Vars.length := by simp
  have hb0 : BSz (lb0 t o v z) := ⟨by show _ ≤ _; unfold lb0; dsimp only; omega, by show _ ≤ _; unfold lb0; dsimp only; omega, by show _ ≤ _; unfold lb0; dsimp only; omega, by show _ ≤ _; unfold lb0; dsimp only; omega⟩
  have k1 := blL_lk z.Body (lb0 t o v z)
  have k1l := k1.len
  have hc0 : (lb0 t o v z).C.length = 0 := rfl
  have k2 := (k1.trans (BS.Lk.put _ z.At (ins3 16 (-1) 0 0 0 0))).len
  have k3 : (codI t o v z).length ≤ 2 * cntL z.Body + 1 := by show (lb1 t o v z).C.length ≤ _; unfold lb1; omega
  have l1 : (0 + z.Params.length) * 32 ≤ 140737488355328 := by omega
  have l2 : (([] ++ z.Params).length + z.Vars.length) * 32 ≤ 140737488355328 := by rw [List.nil_append]; omega
  have l3 : PreBl (lb0 t o v z) (cntL z.Body) := ⟨hb0, by omega⟩
  have l4 : Sn (blL z.Body (lb0 t o v z)).C.length := by show _ ≤ _; omega
  have hbV : (lb1 t o v z).V.length = z.Params.length + z.Vars.length := by rw [lb1_V, hV]
  refine ⟨?_, ?_⟩
  · rw [hL4, evC_seq]
    obtain ⟨g, fl, w, fs, c, m⟩ := o
    rw [q0, decide_eq_true h1, cond_true]
    dsimp only
    rw [evC_seq, evC_block, q1, hz, Option.bind_some, if_pos l1, if_pos l2, if_pos l3, if_pos l4, hC16, evC_seq, evC_seq, q2]
    dsimp only
    rw [evC_block, evC_loop, n6]
    dsimp only
    have e6 : ∀ (K : Exit → TS U → Option R), (lpL in36).F 6 (S36c t ⟨g, fl, w, fs, c, m⟩ v z (lb1 t ⟨g, fl, w, fs, c, m⟩ v z) [] c.length [(10, .v (.int .i64 0))]) K = K (.exit 6) (S36c t ⟨g, fl, w, fs, c, m⟩ v z (lb1 t ⟨g, fl, w, fs, c, m⟩ v z) (parI ⟨g, fl, w, fs, c, m⟩ z) c.length []) := fun K =>
      run_F (X := X) Ez_ok (rounds6 [] t ⟨g, fl, w, fs, c, m⟩ v z _ _ (by omega)) K
    rw [e6]
    dsimp only
    rw [evC_seq, evC_seq, q4]
    dsimp only
    rw [evC_block, evC_loop, n8]
    dsimp only
    have e8 : ∀ (K : Exit → TS U → Option R), (lpL in36).F 8 (S36c t ⟨g, fl, w, fs, c, m⟩ v z (lb1 t ⟨g, fl, w, fs, c, m⟩ v z) (parI ⟨g, fl, w, fs, c, m⟩ z) c.length [(11, .v (.int .i64 0))]) K = K (.exit 8) (S36c t (IRs.addV ⟨g, fl, w, fs, c, m⟩ ((lb1 t ⟨g, fl, w, fs, c, m⟩ v z).V.map R82.Type_)) v z (lb1 t ⟨g, fl, w, fs, c, m⟩ v z) (parI ⟨g, fl, w, fs, c, m⟩ z) c.length []) := fun K =>
      run_F (X := X) Ez_ok (rounds8 [] t ⟨g, fl, w, fs, c, m⟩ v z _ _ _ (by omega) (by dsimp only at b1 ⊢; omega)) K
    rw [e8]
    dsimp only
    have hbq : lb1 t ⟨g, fl, w, fs, c, m⟩ v z = ⟨(lb1 t ⟨g, fl, w, fs, c, m⟩ v z).G, (lb1 t ⟨g, fl, w, fs, c, m⟩ v z).F, (lb1 t ⟨g, fl, w, fs, c, m⟩ v z).N, (lb1 t ⟨g, fl, w, fs, c, m⟩ v z).Fn, (lb1 t ⟨g, fl, w, fs, c, m⟩ v z).V, (lb1 t ⟨g, fl, w, fs, c, m⟩ v z).Base, (lb1 t ⟨g, fl, w, fs, c, m⟩ v z).First, codI t ⟨g, fl, w, fs, c, m⟩ v z⟩ := rfl
    obtain ⟨y, ys, hy⟩ := codI_ne t ⟨g, fl, w, fs, c, m⟩ v z
    rw [hy] at k3
    have hlw : lwF t ⟨g, fl, w, fs, c, m⟩ v z = ⟨g, fl, w ++ ([] ++ z.Params ++ z.Vars).map R82.Type_, fs ++ [⟨z.Name, parI ⟨g, fl, w, fs, c, m⟩ z, z.Ret, c.length, (c ++ y :: ys).length⟩], c ++ y :: ys, cond (z.Name.toList == bMain.toList) v m⟩ := by unfold lwF; rw [hy]
    rw [lb1_V, hbq, hy, hC25, evC_seq]
    unfold IRs.addV
    dsimp only at b1 b2 b3 ⊢
    rw [u5 _ _ _ _ _ _ _ _ _ _ _ _ _ _ _ _ _ _ _ _ _ _ _ (by omega)]
    dsimp only
    rw [evC_seq, q6]
    dsimp only
    rw [evC_seq, q7, if_pos (by omega)]
    dsimp only
    rw [q8, hlw]
    cases z.Name.toList == bMain.toList with
    | true => simp only [cond_true]; rw [q9]
    | false => simp only [cond_false]; rw [q9']
  · refine ⟨?_, ?_, ?_⟩
    · show (o.V ++ ([] ++ z.Params ++ z.Vars).map R82.Type_).length + _ ≤ _
      rw [List.length_append, List.length_map, hV]
      omega
    · show (o.C ++ codI t o v z).length + _ ≤ _
      rw [List.length_append]
      omega
    · show (o.Fs ++ [_]).length + _ ≤ _
      rw [List.length_append]
      simp only [List.length_singleton]
      omega
end Go.Proofs.Ytpkgikchphgfaaa.Fl
/- The references' instructions: of a program, the whole. -/
namespace Go.Proofs.Ytpkgikchphgfaaa.Fl
open Go Go.RowKit Go.Proofs.Ytpkgikchphgfaaa.Eng
set_option linter.unusedVariables false
set_option linter.unusedSimpArgs false
set_option maxRecDepth 20000
noncomputable def D0 : Code := match Try.f29.body with
  | some c => c
  | none => .skip
noncomputable def D5 : Code := sR (sR (sR (sR (sR D0))))
theorem hD0 : D0 = .seq (sL D0) (.seq (sL (sR D0)) (.seq (.seq (sL (sL (sR (sR D0)))) (.block 0 (.loop (loopAt Try.f29 0)))) (.seq (.seq (sL (sL (sR (sR (sR D0))))) (.block 2 (.loop (loopAt Try.f29 2)))) (.seq (.seq (sL (sL (sR (sR (sR (sR D0)))))) (.block 4 (.loop (loopAt Try.f29 4)))) D5)))) := by kernel_rfl
def wkIR : Lw U := .a [.l .i64, .l .i64, .l .i64, .l .t69, .l .t65, .no]
def irV (o : IRs) : TV U := .agg [.lst .i64 o.G, .lst .i64 o.F, .lst .i64 o.V, .lst .t69 o.Fs, .lst .t65 o.C, .v (.int .i64 o.Main)]
noncomputable def K36 : Exit → TS U → Option (List (TO U) × TV U) := fun ex s => match ex with
  | .ret => evFin X an36 Try.f29.results.toList s fun o v => some (o, wkIR.f v)
  | .normal => evFin X an36 Try.f29.results.toList s fun o v => some (o, wkIR.f v)
  | _ => none
theorem w00 (lp : Lp U) (t : TR) : evFn X Ez an36 lp Try.f29 [] [t.tv] (fun o v => some (o, wkIR.f v)) = evC X Ez an36 lp D0 0 (mkS 150 [(0, t.tv)] [] 0) K36 := by kernel_rfl
def sA (t : TR) (l : List (Nat × TV U)) : TS U := mkS 150 ([(0, t.tv), (1, .ref 0 0 0), (2, .ref 1 0 0), (3, .ref 2 0 0)] ++ l ++ [(12, .agg [nl, nl, nl, nl, nl, .v (.int .i64 0)])]) [t.ob, z26, z26] 0
theorem w0 (lp : Lp U) (R : Type) (K : Exit → TS U → Option R) (t : TR) (c : Code) : evC X Ez an36 lp (.seq (sL D0) (.seq (sL (sR D0)) c)) 0 (mkS 150 [(0, t.tv)] [] 0) K = evC X Ez an36 lp c 0 (sA t []) K := by kernel_rfl
theorem w2 (lp : Lp U) (R : Type) (K : Exit → TS U → Option R) (t : TR) : evC X Ez an36 lp (sL (sL (sR (sR D0)))) 0 (sA t []) K = K .normal (sA t [(4, .v (.int .i64 0))]) := by kernel_rfl
theorem n0 (t : TR) : evNorm (X := X) (an36.live 0) (sA t [(4, .v (.int .i64 0))]) = some (S36 t ⟨[], [], [], [], [], 0⟩ 4 0) := by kernel_rfl
theorem w6 (lp : Lp U) (R : Type) (K : Exit → TS U → Option R) (t : TR) (g : List Int) : evC X Ez an36 lp (sL (sL (sR (sR (sR D0))))) 0 (E36 t ⟨g, [], [], [], [], 0⟩) K = K .normal (S36 t ⟨g, [], [], [], [], 0⟩ 5 0) := by cases g <;> kernel_rfl
theorem n2 (t : TR) (g : List Int) : evNorm (X := X) (an36.live 2) (S36 t ⟨g, [], [], [], [], 0⟩ 5 0) = some (S36 t ⟨g, [], [], [], [], 0⟩ 5 0) := by cases g <;> kernel_rfl
theorem w10 (lp : Lp U) (R : Type) (K : Exit → TS U → Option R) (t : TR) (g f : List Int) : evC X Ez an36 lp (sL (sL (sR (sR (sR (sR D0)))))) 0 (E36 t ⟨g, f, [], [], [], 0⟩) K = K .normal (S36 t ⟨g, f, [], [], [], 0⟩ 6 0) := by cases g <;> cases f <;> kernel_rfl
theorem n4 (t : TR) (g fl w : List Int) (fs : List R69) (c : List R65) (m v : Int) : evNorm (X := X) (an36.live 4) (S36 t ⟨g, fl, w, fs, c, m⟩ 6 v) = some (S36 t ⟨g, fl, w, fs, c, m⟩ 6 v) := by
  cases g <;> cases fl <;> cases w <;> cases fs <;> cases c <;> kernel_rfl
theorem n4' (t : TR) (g fl w : List Int) (fs : List R69) (c : List R65) (m v : Int) : evNorm (X := X) (an36.out 4) (S36h t ⟨g, fl, w, fs, c, m⟩ v false) = some (E36' ⟨g, fl, w, fs, c, m⟩) := by
  cases g <;> cases fl <;> cases w <;> cases fs <;> cases c <;> kernel_rfl
theorem w30 (lp : Lp U) (g fl w : List Int) (fs : List R69) (c : List R65) (m : Int) : evC X Ez an36 lp D5 0 (E36' ⟨g, fl, w, fs, c, m⟩) K36 = some ([], irV ⟨g, fl, w, fs, c, m⟩) := by
  cases g <;> cases fl <;> cases w <;> cases fs <;> cases c <;> kernel_rfl
end Go.Proofs.Ytpkgikchphgfaaa.Fl
/- The references' instructions: of a program, proved. -/
namespace Go.Proofs.Ytpkgikchphgfaaa.Fl
open Go Go.RowKit Go.Proofs.Ytpkgikchphgfaaa.Eng
set_option linter.unusedVariables false
set_option linter.unusedSimpArgs false
set_option maxRecDepth 20000
theorem rounds36a (l : List (Nat × LC U)) (t : TR) (ht : t.G.length ≤ 1000000) : fnLoop X Ez an36 (lpL l) Try.f29 0 (t.G.length + 1) (S36 t ⟨[], [], [], [], [], 0⟩ 4 0) = some (.exit 0, E36 t ⟨t.G.map R82.Type_, [], [], [], [], 0⟩) := by
  have h := ixL_rounds (fnl := fun n st => fnLoop X Ez an36 (lpL l) Try.f29 0 n st) (fun g v => S36 t ⟨g, [], [], [], [], 0⟩ 4 v) (fun g => (.exit 0, E36 t ⟨g, [], [], [], [], 0⟩)) (len := t.G.length) (step := stepI t.G st8) (fun g v => (g.length : Int) = v) (fun g v N hp h0 h1 => by
    obtain ⟨d, hd, _⟩ := getI_lt h0 h1
    have hw : IntKind.i64.wrap (v + 1) = v + 1 := wrap_i64 (by omega) (by omega)
    have hl : (g.length + 1) * 8 ≤ 140737488355328 := by omega
    have hst : stepI t.G st8 g v = g ++ [d.Type_] := by unfold stepI; rw [hd]; rfl
    rw [hst]
    refine ⟨?_, by rw [List.length_append]; simp only [List.length_singleton]; omega⟩
    dsimp only
    rw [r36a, decide_eq_true h1, hd, hw, cond_true, Option.bind_some, if_pos hl]) (fun g v N _ h0 h1 => by dsimp only; rw [r36a, decide_eq_false h1]; rfl) t.G.length [] 0 (Int.le_refl 0) (by omega) rfl
  rw [ixL_all, fold8, List.nil_append] at h
  exact h
theorem rounds36b (l : List (Nat × LC U)) (t : TR) (g : List Int) (ht : t.F.length ≤ 1000000) : fnLoop X Ez an36 (lpL l) Try.f29 2 (t.F.length + 1) (S36 t ⟨g, [], [], [], [], 0⟩ 5 0) = some (.exit 2, E36 t ⟨g, t.F.map R82.Type_, [], [], [], 0⟩) := by
  have h := ixL_rounds (fnl := fun n st => fnLoop X Ez an36 (lpL l) Try.f29 2 n st) (fun f v => S36 t ⟨g, f, [], [], [], 0⟩ 5 v) (fun f => (.exit 2, E36 t ⟨g, f, [], [], [], 0⟩)) (len := t.F.length) (step := stepI t.F st8) (fun f v => (f.length : Int) = v) (fun f v N hp h0 h1 => by
    obtain ⟨d, hd, _⟩ := getI_lt h0 h1
    have hw : IntKind.i64.wrap (v + 1) = v + 1 := wrap_i64 (by omega) (by omega)
    have hl : (f.length + 1) * 8 ≤ 140737488355328 := by omega
    have hst : stepI t.F st8 f v = f ++ [d.Type_] := by unfold stepI; rw [hd]; rfl
    rw [hst]
    refine ⟨?_, by rw [List.length_append]; simp only [List.length_singleton]; omega⟩
    dsimp only
    rw [r36b, decide_eq_true h1, hd, hw, cond_true, Option.bind_some, if_pos hl]) (fun f v N _ h0 h1 => by dsimp only; rw [r36b, decide_eq_false h1]; rfl) t.F.length [] 0 (Int.le_refl 0) (by omega) rfl
  rw [ixL_all, fold8, List.nil_append] at h
  exact h
/-- With all functions. -/
def lwL (t : TR) : List R90 → IRs → Int → IRs
  | [], o, _ => o
  | z :: r, o, v => lwL t r (lwF t o v z) (v + 1)
theorem rounds36c {t : TR} (ht : TrOk t) : ∀ (r : List R90) (o : IRs) (v : Int), 0 ≤ v → t.N.drop v.toNat = r → IrB t o r → fnLoop X Ez an36 (lpL in36) Try.f29 4 (r.length + 1) (S36 t o 6 v) = some (.exit 4, E36' (lwL t r o v))
  | [], o, v, h0, hr, ho => by
    have hlen : ¬ v < (t.N.length : Int) := by
      have := congrArg List.length hr
      rw [List.length_drop, List.length_nil] at this
      omega
    obtain ⟨g, fl, w, fs, c, m⟩ := o
    show fnLoop X Ez an36 (lpL in36) Try.f29 4 1 _ = _
    rw [fnLoop_succ]
    show evC X Ez an36 (lpL in36) L4 4 _ _ = _
    rw [hL4, evC_seq, q0, decide_eq_false hlen, cond_false]
    dsimp only
    rw [n4']
    rfl
  | z :: r, o, v, h0, hr, ho => by
    have hlen : v < (t.N.length : Int) := by
      have := congrArg List.length hr
      rw [List.length_drop, List.length_cons] at this
      omega
    have hx : t.N[v.toNat]? = some t.N[v.toNat] := List.getElem?_eq_getElem (by omega)
    have hd : t.N.drop v.toNat = t.N[v.toNat] :: t.N.drop (v.toNat + 1) := List.drop_eq_getElem_cons (by omega)
    rw [hd] at hr
    injection hr with hz hr
    have hg : getI t.N v = some z := by unfold getI; rw [if_pos h0, hx, hz]
    have hfw : fnW z ≤ 1000000 := by
      have := fnsW_at t.N v.toNat z (by rw [hx, hz])
      have := ht.2.2
      omega
    have hw : IntKind.i64.wrap (v + 1) = v + 1 := wrap_i64 (by omega) (by have := fnsW_len t.N; have := ht.2.2; omega)
    rw [List.length_cons, fnLoop_succ]
    show evC X Ez an36 (lpL in36) L4 4 _ _ = _
    generalize hK : (fun (ex : Exit) (s' : TS X.U) => _ : Exit → TS X.U → Option (Exit × TS X.U)) = K1
    obtain ⟨he, hb⟩ := round4 (K := K1) ht h0 hlen hg ho hfw
    rw [he, ← hK, hw]
    dsimp only
    have hn := fun (o : IRs) => n4 t o.G o.F o.V o.Fs o.C o.Main (v + 1)
    rw [hn (lwF t o v z)]
    dsimp only
    rw [lwL]
    exact rounds36c ht r _ (v + 1) (by omega) (by rw [show (v + 1).toNat = v.toNat + 1 by omega]; exact hr) hb
/-- A program as instructions. -/
def lower (t : TR) : IRs := lwL t t.N ⟨t.G.map R82.Type_, t.F.map R82.Type_, [], [], [], 0⟩ 0
theorem e36 {t : TR} (ht : TrOk t) : evFn X Ez an36 (lpL all36) Try.f29 [] [t.tv] (fun o v => some (o, wkIR.f v)) = some ([], irV (lower t)) := by
  have e0 : ∀ (K : Exit → TS U → Option (List (TO U) × TV U)), (lpL all36).F 0 (S36 t ⟨[], [], [], [], [], 0⟩ 4 0) K = K (.exit 0) (E36 t ⟨t.G.map R82.Type_, [], [], [], [], 0⟩) := fun K => run_F (X := X) Ez_ok (rounds36a [] t ht.1) K
  have e2 : ∀ (g : List Int) (K : Exit → TS U → Option (List (TO U) × TV U)), (lpL all36).F 2 (S36 t ⟨g, [], [], [], [], 0⟩ 5 0) K = K (.exit 2) (E36 t ⟨g, t.F.map R82.Type_, [], [], [], 0⟩) := fun g K => run_F (X := X) Ez_ok (rounds36b [] t g ht.2.1) K
  have hb : IrB t ⟨t.G.map R82.Type_, t.F.map R82.Type_, [], [], [], 0⟩ t.N := by
    have := ht.2.2
    exact ⟨by show 0 + _ ≤ _; omega, by show 0 + _ ≤ _; omega, by show 0 + _ ≤ _; omega⟩
  have e4 : ∀ (K : Exit → TS U → Option (List (TO U) × TV U)), (lpL all36).F 4 (S36 t ⟨t.G.map R82.Type_, t.F.map R82.Type_, [], [], [], 0⟩ 6 0) K = K (.exit 4) (E36' (lower t)) := fun K => run_F (X := X) Ez_ok (rounds36c ht t.N _ 0 (Int.le_refl 0) rfl hb) K
  rw [w00, hD0, w0, evC_seq, evC_seq, w2]
  dsimp only
  rw [evC_block, evC_loop, n0]
  dsimp only
  rw [e0]
  dsimp only
  rw [evC_seq, evC_seq, w6]
  dsimp only
  rw [evC_block, evC_loop, n2]
  dsimp only
  rw [e2]
  dsimp only
  rw [evC_seq, evC_seq, w10]
  dsimp only
  rw [evC_block, evC_loop, n4]
  dsimp only
  rw [e4]
  dsimp only
  exact w30 _ (lower t).G (lower t).F (lower t).V (lower t).Fs (lower t).C (lower t).Main
theorem lp36_ok : ∀ c, Try.f29.body = some c → LpOk X Ez an36 (lpL all36) (loops c 0) := lpL_ok (by kernel_rfl) fun b L hm st p hs => by
  cases hm with
  | head => exact run_ok (ag_of (bs := []) (by kernel_rfl) fun i hi => by cases hi) hs
  | tail _ hm => cases hm with
    | head => exact run_ok (ag_of (bs := []) (by kernel_rfl) fun i hi => by cases hi) hs
    | tail _ hm => cases hm with
      | head => exact run_ok (ag_of (bs := [6, 8]) (by kernel_rfl) fun i hi R s K => by
          cases hi with
          | head => rfl
          | tail _ hi => cases hi with
            | head => rfl
            | tail _ hi => cases hi) hs
      | tail _ hm => cases hm with
        | head => exact run_ok (ag_of (bs := []) (by kernel_rfl) fun i hi => by cases hi) hs
        | tail _ hm => cases hm with
          | head => exact run_ok (ag_of (bs := []) (by kernel_rfl) fun i hi => by cases hi) hs
          | tail _ hm => cases hm
noncomputable def sLower : Spc U := .of dT (fun t => TrOk t) (fun _ => []) fun t => irV (lower t)
theorem sLower_ok : SpecOk Try.prog 29 sLower := by
  refine fn_okw wkIR X_ok mixed Ez_ok an36 (lpL all36) Try.func29 (by kernel_rfl) (by kernel_rfl) lp36_ok fun objs args t hx hp => ?_
  obtain ⟨rfl, rfl⟩ := dT_ok hx
  exact e36 hp
end Go.Proofs.Ytpkgikchphgfaaa.Fl
/- A program that is given. -/
namespace Go.Proofs.Ytpkgikchphgfaaa.Fl
open Go Go.RowKit Go.Proofs.Ytpkgikchphgfaaa.Eng
set_option linter.unusedVariables false
set_option linter.unusedSimpArgs false
set_option maxRecDepth 20000
noncomputable def Fa : FuncId → Option (Spc U)
  | 21 => some sParse
  | 27 => some sCheck
  | 29 => some sLower
  | _ => none
def an10 : Ann := ⟨fun | 0 => 452 | _ => 0, fun | 0 => 204 | _ => 0, fun _ => [], false⟩
def irOb (o : IRs) : TO U := .cells [.lst .i64 o.G, .lst .i64 o.F, .lst .i64 o.V, .lst .t69 o.Fs, .lst .t65 o.C, .v (.int .i64 o.Main)] false
def E10 (o : IRs) (c : Int × Int) : Exit × TS U := (.exit 0, mkS 95 [(2, .ref 0 0 0), (6, .v (.int .i64 c.1)), (7, .v (.int .i64 c.2))] [irOb o] 0)
def cnt10 (c : Int × Int) (z : R65) : Int × Int := (cond (decide (z.Op = 6)) (c.1 + 1) c.1, cond (decide (8 ≤ z.Op) && decide (z.Op ≤ 11)) (c.2 + 1) c.2)
def cnts (o : IRs) : Int × Int := o.C.foldl cnt10 (0, 0)
def IRs.ob (o : IRs) : TO U := irOb o
def d10 (s : TS U) : Option (IRs × Int × Int × Int) := match told s 95 [2, 6, 7, 8] 0, s.objs with
  | some [a0, a1, a2, a3], [o0] =>
    match o0 with
    | .cells [q0, q1, q2, q3, q4, q5] false =>
      match q0 with
      | .lst .i64 o_G =>
        match q1 with
        | .lst .i64 o_F =>
          match q2 with
          | .lst .i64 o_V =>
            match q3 with
            | .lst .t69 o_Fs =>
              match q4 with
              | .lst .t65 o_C =>
                match q5 with
                | .v (.int .i64 o_Main) =>
                  match a0 with
                  | .ref 0 0 0 =>
                    match a1 with
                    | .v (.int .i64 a) =>
                      match a2 with
                      | .v (.int .i64 b) =>
                        match a3 with
                        | .v (.int .i64 v) =>
                          some ((⟨o_G, o_F, o_V, o_Fs, o_C, o_Main⟩ : IRs), a, b, v)
                        | _ => none
                      | _ => none
                    | _ => none
                  | _ => none
                | _ => none
              | _ => none
            | _ => none
          | _ => none
        | _ => none
      | _ => none
    | _ => none
  | _, _ => none
def Pre10 (n : Nat) (a b v : Int) : Prop := n ≤ 3000000 ∧ a = 0 ∧ b = 0 ∧ v = 0
instance (n : Nat) (a b v : Int) : Decidable (Pre10 n a b v) := by unfold Pre10; infer_instance
def lc10 : LC U := .of d10 (fun (o, a, b, v) => Pre10 o.C.length a b v) (.exit 0) (fun (o, a, b, v) => (E10 o (cnts o)).2)
def lp10 : Lp U := lpL [(0, lc10)]
def wkG : Lw U := .a [wkIR, .no]
theorem e10 (s : ByteArray) : (evFn X Fa an10 lp10 Try.f9 [] [TV.v (Value.string s)] fun (o : List (TO X.U)) (v : TV X.U) => some (o, wkG.f v)) = (cutB s none (some (if 3000 < (↑s.size : Int) then 3000 else (↑s.size : Int)))).bind fun (c : ByteArray) => if c.size ≤ 100000 then bif !decide ((parseP c).snd.fst = 0) then some ([], TV.tup [TV.agg [TV.lst C.i64 [], TV.lst C.i64 [], TV.lst C.i64 [], TV.lst C.t69 [], TV.lst C.t65 [], TV.v (Value.int IntKind.i64 0)], TV.v (Value.bool false)]) else if TrOk (parseP c).fst then bif !decide ((chk (parseP c).fst).Code = 0) then some ([], TV.tup [TV.agg [TV.lst C.i64 [], TV.lst C.i64 [], TV.lst C.i64 [], TV.lst C.t69 [], TV.lst C.t65 [], TV.v (Value.int IntKind.i64 0)], TV.v (Value.bool false)]) else if TrOk (parseP c).fst then if Pre10 (lower (parseP c).fst).C.length 0 0 0 then bif decide ((↑(lower (parseP c).fst).C.length : Int) ≤ 160) then bif decide ((cnts (lower (parseP c).fst)).fst ≤ 12) then bif decide ((cnts (lower (parseP c).fst)).snd ≤ 50) then bif decide ((↑(lower (parseP c).fst).V.length : Int) ≤ 60) then bif decide ((↑(lower (parseP c).fst).F.length : Int) ≤ 6) then some ([], TV.tup [irV (lower (parseP c).fst), TV.v (Value.bool (decide ((↑(lower (parseP c).fst).G.length : Int) ≤ 12)))]) else some ([], TV.tup [irV (lower (parseP c).fst), TV.v (Value.bool false)]) else some ([], TV.tup [irV (lower (parseP c).fst), TV.v (Value.bool false)]) else some ([], TV.tup [irV (lower (parseP c).fst), TV.v (Value.bool false)]) else some ([], TV.tup [irV (lower (parseP c).fst), TV.v (Value.bool false)]) else some ([], TV.tup [irV (lower (parseP c).fst), TV.v (Value.bool false)]) else none else none else none else none := by kernel_rfl
theorem lwL_B {t : TR} (ht : TrOk t) : ∀ (r : List R90) (o : IRs) (v : Int), 0 ≤ v → t.N.drop v.toNat = r → IrB t o r → IrB t (lwL t r o v) []
  | [], o, v, h0, hr, ho => ho
  | z :: r, o, v, h0, hr, ho => by
    have hlen : v < (t.N.length : Int) := by
      have := congrArg List.length hr
      rw [List.length_drop, List.length_cons] at this
      omega
    have hx : t.N[v.toNat]? = some t.N[v.toNat] := List.getElem?_eq_getElem (by omega)
    have hd : t.N.drop v.toNat = t.N[v.toNat] :: t.N.drop (v.toNat + 1) := List.drop_eq_getElem_cons (by omega)
    rw [hd] at hr
    injection hr with hz hr
    have hg : getI t.N v = some z := by unfold getI; rw [if_pos h0, hx, hz]
    have hfw : fnW z ≤ 1000000 := by
      have := fnsW_at t.N v.toNat z (by rw [hx, hz])
      have := ht.2.2
      omega
    have hb := (round4 (R := Unit) (K := fun _ _ => none) ht h0 hlen hg ho hfw).2
    rw [lwL]
    exact lwL_B ht r _ (v + 1) (by omega) (by rw [show (v + 1).toNat = v.toNat + 1 by omega]; exact hr) hb
theorem lower_B {t : TR} (ht : TrOk t) : (lower t).V.length ≤ 1000000 ∧ (lower t).C.length ≤ 3000000 ∧ (lower t).Fs.length ≤ 1000000 := by
  have hb : IrB t ⟨t.G.map R82.Type_, t.F.map R82.Type_, [], [], [], 0⟩ t.N := by
    have := ht.2.2
    exact ⟨by show 0 + _ ≤ _; omega, by show 0 + _ ≤ _; omega, by show 0 + _ ≤ _; omega⟩
  obtain ⟨a, b, c⟩ := lwL_B ht t.N _ 0 (Int.le_refl 0) rfl hb
  rw [fnsW] at a b c
  exact ⟨a, b, c⟩
theorem parse_ok {s : ByteArray} (h : s.size ≤ 100000) : TrOk (parseP s).1 := by
  have h0 := ps0_ok h
  have h1 := (progL_ok ((ps0 s).left + 1) (ps0 s) [] [] [] h0).2
  have h2 := h0.left_le
  have h3 := h0.len
  have e : progL ((ps0 s).left + 1) (ps0 s) [] [] [] = progP (ps0 s) := rfl
  rw [e] at h1
  unfold prW at h1
  simp only [List.length_nil, fnsW] at h1
  have hz : TrOk ⟨[], [], []⟩ := ⟨Nat.zero_le _, Nat.zero_le _, Nat.zero_le _⟩
  unfold parseP
  cases lexF s with
  | true => exact hz
  | false =>
    cases !decide ((progP (ps0 s)).q.Code = 0) with
    | true => exact hz
    | false => exact ⟨by show (progP (ps0 s)).g.length ≤ _; omega, by show (progP (ps0 s)).f.length ≤ _; omega, by show fnsW (progP (ps0 s)).n ≤ _; omega⟩
end Go.Proofs.Ytpkgikchphgfaaa.Fl
/- A program that is given, proved; what comes behind an instruction. -/
namespace Go.Proofs.Ytpkgikchphgfaaa.Fl
open Go Go.RowKit Go.Proofs.Ytpkgikchphgfaaa.Eng
set_option linter.unusedVariables false
set_option linter.unusedSimpArgs false
set_option maxRecDepth 20000
def cut3 (s : ByteArray) : ByteArray := (cutB s none (some (if 3000 < (s.size : Int) then 3000 else (s.size : Int)))).getD ⟨#[]⟩
theorem cut3_ok (s : ByteArray) : cutB s none (some (if 3000 < (s.size : Int) then 3000 else (s.size : Int))) = some (cut3 s) ∧ (cut3 s).size ≤ 100000 := by
  have h : ∀ m : Int, 0 ≤ m → m ≤ s.size → m ≤ 3000 → cutB s none (some m) = some (s.extract 0 m.toNat) ∧ (s.extract 0 m.toNat).size ≤ 100000 := fun m h0 h1 h2 => by
    refine ⟨if_pos ⟨h0, h1⟩, ?_⟩
    rw [ByteArray.size_extract]
    omega
  unfold cut3
  split
  · rename_i hm
    obtain ⟨a, b⟩ := h 3000 (by decide) (by omega) (by decide)
    rw [a]
    exact ⟨rfl, b⟩
  · obtain ⟨a, b⟩ := h (s.size : Int) (by omega) (Int.le_refl _) (by omega)
    rw [a]
    exact ⟨rfl, b⟩
def ir0 : IRs := ⟨[], [], [], [], [], 0⟩
def okG (o : IRs) : Bool := decide ((o.C.length : Int) ≤ 160) && (decide ((cnts o).1 ≤ 12) && (decide ((cnts o).2 ≤ 50) && (decide ((o.V.length : Int) ≤ 60) && (decide ((o.F.length : Int) ≤ 6) && decide ((o.G.length : Int) ≤ 12)))))
/-- A program that is given; whether it is one. -/
def given (s : ByteArray) : IRs × Bool := cond (!decide ((parseP (cut3 s)).2.1 = 0)) (ir0, false) (cond (!decide ((chk (parseP (cut3 s)).1).Code = 0)) (ir0, false) (lower (parseP (cut3 s)).1, okG (lower (parseP (cut3 s)).1)))
def sGiven : Spc U := .of dstr (fun _ => True) (fun _ => []) fun s => .tup [irV (given s).1, .v (.bool (given s).2)]
def wkL : Lw U := .l .i64
end Go.Proofs.Ytpkgikchphgfaaa.Fl
/- What a function comes to, told by cases. -/
namespace Go.Proofs.Ytpkgikchphgfaaa.Eng
open Go Go.RowKit
set_option linter.unusedVariables false
def Spc.ofG {U : Univ} {A : Type} (d : List (TO U) → List (TV U) → Option A) (pre : A → Prop) [DecidablePred pre] (G : {R : Type} → A → (List (TO U) → TV U → Option R) → Option R) (o : A → List (TO U)) (v : A → TV U) (hG : ∀ {R : Type} (x : A) (k : List (TO U) → TV U → Option R), G x k = k (o x) (v x)) : Spc U := ⟨fun objs args k => match d objs args with
  | some x => if pre x then G x k else none
  | none => none⟩
theorem SpecOk.ofG {P : Program} {U : Univ} {fid : FuncId} {S0 : Spc U} (h0 : SpecOk P fid S0) {A : Type} {d : List (TO U) → List (TV U) → Option A} {pre : A → Prop} [DecidablePred pre] {G : {R : Type} → A → (List (TO U) → TV U → Option R) → Option R} {o : A → List (TO U)} {v : A → TV U} (hG : ∀ {R : Type} (x : A) (k : List (TO U) → TV U → Option R), G x k = k (o x) (v x))
    (h : ∀ objs args x, d objs args = some x → pre x → S0.F objs args (fun o v => some (o, v)) = some (o x, v x)) : SpecOk P fid (Spc.ofG d pre G o v hG) := by
  refine SpecOk.of_ev h0 (fun objs args => ?_) fun objs args o' v' h' => ?_
  · intro R k r h'
    unfold Spc.ofG at h' ⊢
    dsimp only at h' ⊢
    cases hd : d objs args with
    | none => rw [hd] at h'; cases h'
    | some x =>
      rw [hd] at h'
      dsimp only at h' ⊢
      split at h' <;> try (cases h'; done)
      rename_i hp
      rw [hG] at h'
      exact ⟨_, _, h', fun k' => by rw [if_pos hp, hG]⟩
  · unfold Spc.ofG at h'
    dsimp only at h'
    cases hd : d objs args with
    | none => rw [hd] at h'; cases h'
    | some x =>
      rw [hd] at h'
      dsimp only at h'
      split at h' <;> try (cases h'; done)
      rename_i hp
      rw [hG] at h'
      cases h'
      exact h _ _ _ hd hp
end Go.Proofs.Ytpkgikchphgfaaa.Eng
/- What comes behind an instruction; lists that are the same. -/
namespace Go.Proofs.Ytpkgikchphgfaaa.Fl
open Go Go.RowKit Go.Proofs.Ytpkgikchphgfaaa.Eng
set_option linter.unusedVariables false
set_option linter.unusedSimpArgs false
set_option maxRecDepth 20000
def IRs.tv (o : IRs) : TV U := irV o
def dIi (objs : List (TO U)) (args : List (TV U)) : Option (IRs × Int) := match objs, args with
  | [], [a0, a1] =>
    match a0 with
    | .agg [q0, q1, q2, q3, q4, q5] =>
      match q0 with
      | .lst .i64 o_G =>
        match q1 with
        | .lst .i64 o_F =>
          match q2 with
          | .lst .i64 o_V =>
            match q3 with
            | .lst .t69 o_Fs =>
              match q4 with
              | .lst .t65 o_C =>
                match q5 with
                | .v (.int .i64 o_Main) =>
                  match a1 with
                  | .v (.int .i64 n) =>
                    some ((⟨o_G, o_F, o_V, o_Fs, o_C, o_Main⟩ : IRs), n)
                  | _ => none
                | _ => none
              | _ => none
            | _ => none
          | _ => none
        | _ => none
      | _ => none
    | _ => none
  | _, _ => none
/-- What comes behind an instruction. -/
def nx (o : IRs) (n : Int) : List Int := cond (decide (n < 0)) [] (cond (decide ((o.C.length : Int) ≤ n)) [] (match getI o.C n with
  | some z => cond (decide (z.Op = 16)) [] (cond (decide (z.Op = 17)) [z.B] (cond (decide (z.Op = 18)) (cond (decide (z.B = z.C)) [z.B] [z.B, z.C]) [IntKind.i64.wrap (n + 1)]))
  | none => []))
def sNx : Spc U := .of dIi (fun _ => True) (fun _ => []) fun (o, n) => .lst .i64 (nx o n)
/-! ### One's own -/
def an12 : Ann := ⟨fun | 0 => 35 | _ => 0, fun | 0 => 16 | _ => 0, fun _ => [], false⟩
/-! ### The same? -/
theorem eq_rounds {T B : Type} {fnl : Nat → T → Option B} {S : Int → T} {rt ex : B} {a b : List Int} (ha : a.length ≤ 3000000) (hab : a.length = b.length)
    (hin : ∀ (N : Nat) (v : Int) (x y : Int), 0 ≤ v → v < (a.length : Int) → getI a v = some x → getI b v = some y → fnl (N + 1) (S v) = cond (!decide (x = y)) (some rt) (fnl N (S (IntKind.i64.wrap (v + 1)))))
    (hout : ∀ (N : Nat) (v : Int), ¬ v < (a.length : Int) → fnl (N + 1) (S v) = some ex) : ∀ (N : Nat) (v : Int), 0 ≤ v → (a.length : Int) ≤ v + N → fnl (N + 1) (S v) = some (cond (decide (a.drop v.toNat = b.drop v.toNat)) ex rt) := by
  intro N
  induction N with
  | zero =>
    intro v h0 h1
    rw [hout 0 v (by omega), List.drop_eq_nil_of_le (by omega), List.drop_eq_nil_of_le (by omega)]
    rfl
  | succ N ih =>
    intro v h0 h1
    by_cases hv : v < (a.length : Int)
    · obtain ⟨x, hx, hx2⟩ := getI_lt (l := a) h0 hv
      obtain ⟨y, hy, hy2⟩ := getI_lt (l := b) h0 (by omega)
      have hw : IntKind.i64.wrap (v + 1) = v + 1 := wrap_i64 (by omega) (by omega)
      have ea : a.drop v.toNat = x :: a.drop (v.toNat + 1) := by
        rw [List.drop_eq_getElem_cons (by omega)]
        rw [List.getElem?_eq_getElem (by omega)] at hx2
        rw [Option.some.inj hx2]
      have eb : b.drop v.toNat = y :: b.drop (v.toNat + 1) := by
        rw [List.drop_eq_getElem_cons (by omega)]
        rw [List.getElem?_eq_getElem (by omega)] at hy2
        rw [Option.some.inj hy2]
      rw [hin (N + 1) v x y h0 hv hx hy, hw, ih (v + 1) (by omega) (by omega), ea, eb, show (v + 1).toNat = v.toNat + 1 by omega]
      by_cases hxy : x = y
      · subst hxy
        simp
      · simp [hxy]
    · rw [hout (N + 1) v hv, List.drop_eq_nil_of_le (by omega), List.drop_eq_nil_of_le (by omega)]
      rfl
def S12 (a b : List Int) (v : Int) : TS U := mkS 26 [(0, .lst .i64 a), (1, .lst .i64 b), (5, .v (.int .i64 v))] [] 0
theorem r12 (lp : Lp U) (N : Nat) (a b : List Int) (v : Int) : fnLoop X (fun _ => none) an12 lp Try.f13 0 (N + 1) (S12 a b v) = cond (decide (v < (a.length : Int))) ((getI a v).bind fun x => (getI b v).bind fun y => cond (!decide (x = y)) (some (.ret, mkS 26 [(4, .v (.bool false))] [] 0)) (fnLoop X (fun _ => none) an12 lp Try.f13 0 N (S12 a b (IntKind.i64.wrap (v + 1))))) (some (.exit 0, mkS 26 [] [] 0)) := by kernel_rfl
theorem rounds12 (lp : Lp U) {a b : List Int} (ha : a.length ≤ 3000000) (hab : a.length = b.length) : fnLoop X (fun _ => none) an12 lp Try.f13 0 (a.length + 1) (S12 a b 0) = some (cond (decide (a = b)) (.exit 0, mkS 26 [] [] 0) (.ret, mkS 26 [(4, .v (.bool false))] [] 0)) :=
  eq_rounds (fnl := fun n st => fnLoop X (fun _ => none) an12 lp Try.f13 0 n st) (S := S12 a b) ha hab (fun N v x y h0 h1 hx hy => by dsimp only; rw [r12, decide_eq_true h1, hx, hy]; rfl) (fun N v h => by dsimp only; rw [r12, decide_eq_false h]; rfl) a.length 0 (Int.le_refl 0) (by omega)
def dLL (objs : List (TO U)) (args : List (TV U)) : Option (List Int × List Int) := match objs, args with
  | [], [a0, a1] =>
    match a0 with
    | .lst .i64 a =>
      match a1 with
      | .lst .i64 b =>
        some (a, b)
      | _ => none
    | _ => none
  | _, _ => none
theorem dLL_ok {objs : List (TO U)} {args : List (TV U)} {a : List Int} {b : List Int} (h : dLL objs args = some (a, b)) : objs = [] ∧ args = [.lst .i64 a, .lst .i64 b] := by
  unfold dLL at h
  repeat' split at h
  all_goals first | (cases h; done) | (cases h; exact ⟨rfl, rfl⟩)
def dLO (objs : List (TO U)) (args : List (TV U)) : Option (List Int × List Int) := match objs, args with
  | [o0], [a0, a1] =>
    match o0 with
    | .row .i64 b false =>
      match a0 with
      | .lst .i64 a =>
        match a1 with
        | .full 0 =>
          some (b, a)
        | _ => none
      | _ => none
    | _ => none
  | _, _ => none
def dl12 (s : TS U) : Option (List Int × List Int × Int) := match told s 26 [0, 1, 5] 0, s.objs with
  | some [a0, a1, a2], [] =>
    match a0 with
    | .lst .i64 a =>
      match a1 with
      | .lst .i64 b =>
        match a2 with
        | .v (.int .i64 v) =>
          some (a, b, v)
        | _ => none
      | _ => none
    | _ => none
  | _, _ => none
theorem dl12_ok {s : TS U} {a : List Int} {b : List Int} {v : Int} (h : dl12 s = some (a, b, v)) : s = mkS (U := U) 26 ([0, 1, 5].zip ([.lst .i64 a, .lst .i64 b, .v (.int .i64 v)] : List (TV U))) ([] : List (TO U)) 0 := by
  unfold dl12 at h
  split at h <;> try (cases h; done)
  rename_i ht ho
  have hs := told_ok ht
  rw [ho] at hs
  repeat' split at h
  all_goals first | (cases h; done) | (cases h; exact hs)
def Pre12 (n m : Nat) (v : Int) : Prop := n ≤ 3000000 ∧ n = m ∧ v = 0
instance (n m : Nat) (v : Int) : Decidable (Pre12 n m v) := by unfold Pre12; infer_instance
def eqI (a b : List Int) : Bool := decide (a = b)
def lc12 : LC U := .of2 dl12 (fun (a, b, v) => Pre12 a.length b.length v) (fun (a, b, v) => eqI a b) (.exit 0) (fun _ => mkS 26 [] [] 0) .ret (fun _ => mkS 26 [(4, .v (.bool false))] [] 0)
theorem lp12_ok : ∀ c, Try.f13.body = some c → LpOk X (fun _ => none) an12 (lpL [(0, lc12)]) (loops c 0) := lpL_ok (by kernel_rfl) fun b L hm st p hs => by
  cases hm with
  | tail _ h => cases h
  | head =>
    obtain ⟨⟨a, b, v⟩, hx, ⟨h1, h2, rfl⟩, rfl⟩ := LC.of2_some hs
    obtain rfl := dl12_ok hx
    exact ⟨_, rounds12 _ h1 h2⟩
theorem e12 (a : List Int) (b : List Int) : (evFn X (fun (x : FuncId) => none) an12 (lpL [(0, lc12)]) Try.f13 [] [TV.lst C.i64 a, TV.lst C.i64 b] fun (o : List (TO X.U)) (v : TV X.U) => some (o, v)) = bif !decide ((↑a.length : Int) = (↑b.length : Int)) then some ([], TV.v (Value.bool false)) else if Pre12 a.length b.length 0 then bif eqI a b then some ([], TV.v (Value.bool true)) else some ([], TV.v (Value.bool false)) else none := by kernel_rfl
def sInts : Spc U := .of dLL (fun (a, b) => Sn a.length) (fun _ => []) fun (a, b) => .v (.bool (eqI a b))
def sIntsO : Spc U := .of dLO (fun (b, a) => Sn a.length) (fun (b, a) => [.row .i64 b false]) fun (b, a) => .v (.bool (eqI a b))
theorem eqI_ne {a b : List Int} (h : ¬ (a.length : Int) = (b.length : Int)) : eqI a b = false := decide_eq_false fun e => h (by rw [e])
theorem sInts_ok : SpecOk Try.prog 13 sInts := by
  refine fn_ok X_ok mixed E0_ok an12 (lpL [(0, lc12)]) Try.func13 (by kernel_rfl) (by kernel_rfl) lp12_ok fun objs args x hx hp => ?_
  obtain ⟨a, b⟩ := x
  obtain ⟨rfl, rfl⟩ := dLL_ok hx
  dsimp only at hp ⊢
  refine (e12 a b).trans ?_
  by_cases h : (a.length : Int) = (b.length : Int)
  · rw [decide_eq_true h]
    simp only [Bool.not_true, cond_false]
    rw [if_pos ⟨hp, by omega, rfl⟩]
    cases eqI a b <;> rfl
  · rw [decide_eq_false h, eqI_ne h]; rfl
end Go.Proofs.Ytpkgikchphgfaaa.Fl
/- What one comes to. -/
namespace Go.Proofs.Ytpkgikchphgfaaa.Fl
open Go Go.RowKit Go.Proofs.Ytpkgikchphgfaaa.Eng
set_option linter.unusedVariables false
set_option linter.unusedSimpArgs false
set_option maxRecDepth 20000
/-- What is marked from a list of things to look at on. -/
def rcL (o : IRs) : Nat → List Bool → List Int → List Bool
  | 0, out, _ => out
  | N + 1, out, w => match w[w.length - 1]? with
    | none => out
    | some y => cond (decide (y < 0)) (rcL o N out (w.take (w.length - 1))) (cond (decide ((out.length : Int) ≤ y)) (rcL o N out (w.take (w.length - 1))) (match out[y.toNat]? with
      | some true => rcL o N out (w.take (w.length - 1))
      | some false => rcL o N (out.set y.toNat true) (w.take (w.length - 1) ++ nx o y)
      | none => out))
def Pre37 (n m : Nat) : Prop := n + 3 * m ≤ 100000000
instance (n m : Nat) : Decidable (Pre37 n m) := by unfold Pre37; infer_instance
def rcP (o : IRs) (out : List Bool) (w : List Int) : List Bool := rcL o (w.length + 3 * out.length + 1) out w
def reachP (o : IRs) (n : Int) : List Bool := rcP o (List.replicate (o.C.length : Int).toNat false) (nx o n)
end Go.Proofs.Ytpkgikchphgfaaa.Fl
/- Again; awake. -/
namespace Go.Proofs.Ytpkgikchphgfaaa.Fl
open Go Go.RowKit Go.Proofs.Ytpkgikchphgfaaa.Eng
set_option linter.unusedVariables false
set_option linter.unusedSimpArgs false
set_option maxRecDepth 20000
def agP (o : IRs) (n : Int) : Bool := cond (decide (0 ≤ n)) (cond (decide (n < (o.C.length : Int))) ((getI (reachP o n) n).getD false) false) false
def sAgain : Spc U := .of dIi (fun (o, n) => Sn o.C.length) (fun _ => []) fun (o, n) => .v (.bool (agP o n))
def Fd : FuncId → Option (Spc U)
  | 9 => some sGiven
  | 13 => some sIntsO
  | 37 => some sNx
  | 36 => some sAgain
  | _ => none
theorem e11 : evFn X Fd an0 lp0 Try.f10 [] [] (fun o v => some (o, v)) = some ([], .v (.bool true)) := by kernel_rfl
def sAwake : Spc U := .of d0 (fun _ => True) (fun _ => []) fun _ => .v (.bool true)
end Go.Proofs.Ytpkgikchphgfaaa.Fl
/- Programs as bytes: numbers. -/
namespace Go.Proofs.Ytpkgikchphgfaaa.Ic
open Go Go.RowKit Go.Proofs.Ytpkgikchphgfaaa.Eng Go.Proofs.Ytpkgikchphgfaaa.Fl
set_option linter.unusedVariables false
set_option linter.unusedSimpArgs false
set_option maxRecDepth 20000
def an88 : Ann := ⟨fun | 0 => 9 | _ => 0, fun | 0 => 13 | _ => 0, fun _ => [], false⟩
def an87 : Ann := ⟨fun | 0 => 7176 | _ => 0, fun | 0 => 12 | _ => 0, fun _ => [], false⟩
def hiB (n : Int) : Int := IntKind.u8.wrap ((BitVec.ofInt IntKind.u8.bits (IntKind.u8.wrap n) ||| BitVec.ofInt IntKind.u8.bits 128).toNat : Nat)
def sh7 (n : Int) : Int := n.fdiv (2 ^ min (Int.toNat 7) IntKind.u64.bits)
def loB (n : Int) : Int := IntKind.u8.wrap n
theorem sh7_nat (n : Nat) : sh7 (n : Int) = ((n / 128 : Nat) : Int) := by
  unfold sh7
  have : (2 ^ min (Int.toNat 7) IntKind.u64.bits : Int) = 128 := by decide
  rw [this]
  have := Int.fdiv_eq_ediv_of_nonneg (n : Int) (show (0 : Int) ≤ 128 by decide)
  rw [this]
  rfl
theorem wrap_u8 (n : Nat) : IntKind.u8.wrap (n : Int) = ((n % 256 : Nat) : Int) := by
  show (n : Int) % (2 ^ 8) = _
  omega
theorem loB_nat {n : Nat} (h : n < 256) : loB (n : Int) = n := by
  unfold loB
  rw [wrap_u8]
  omega
theorem hiB_nat (n : Nat) : hiB (n : Int) = ((128 + n % 128 : Nat) : Int) := by
  unfold hiB
  rw [wrap_u8 n]
  have key : ∀ k : Fin 256, (BitVec.ofInt IntKind.u8.bits ((k.val : Nat) : Int) ||| BitVec.ofInt IntKind.u8.bits 128).toNat = 128 + k.val % 128 := by decide +kernel
  have := key ⟨n % 256, Nat.mod_lt _ (by decide)⟩
  dsimp only at this
  rw [this, wrap_u8]
  omega
/-- All but the last byte of a number; the last one. -/
def hd (n : Nat) : List Int := if n < 128 then [] else ((128 + n % 128 : Nat) : Int) :: hd (n / 128)
termination_by n
def tl (n : Nat) : Nat := if n < 128 then n else tl (n / 128)
termination_by n
theorem tl_lt (n : Nat) : tl n < 128 := by
  induction n using Nat.strongRecOn with
  | ind n ih =>
    unfold tl
    split
    · assumption
    · exact ih _ (by omega)
theorem hd_len : ∀ (k n : Nat), n < 128 ^ (k + 1) → (hd n).length ≤ k := by
  intro k
  induction k with
  | zero => intro n h; unfold hd; rw [if_pos (by simpa using h)]; exact Nat.le_refl _
  | succ k ih =>
    intro n h
    unfold hd
    split
    · exact Nat.zero_le _
    · rw [List.length_cons]
      have := ih (n / 128) (by rw [Nat.div_lt_iff_lt_mul (by decide), ← Nat.pow_succ]; exact h)
      omega
/-- A number of 64 bits. -/
def U64 (n : Int) : Prop := 0 ≤ n ∧ n < 18446744073709551616
instance (n : Int) : Decidable (U64 n) := by unfold U64; infer_instance
theorem U64.hd {n : Int} (h : U64 n) : (hd n.toNat).length ≤ 9 := hd_len 9 _ (by have := h.1; have := h.2; have e : (128 : Nat) ^ (9 + 1) = 1180591620717411303424 := by decide
                                                                                 rw [e]; omega)
theorem u64_wrap (x : Int) : U64 (IntKind.u64.wrap x) := by
  show 0 ≤ x % (2 ^ 64) ∧ x % (2 ^ 64) < _
  omega
def rw8 : List Int → List (TO U)
  | [] => []
  | x :: l => [.row .u8 (x :: l) false]
def S88 (g : List Int) (n : Int) : TS U := mkS 20 [(0, .v (.int .u64 n)), (3, nvl g 0)] (rw8 g) 0
theorem r88 (lp : Lp U) (N : Nat) (g : List Int) (n : Int) : fnLoop X (fun _ => none) an88 lp Try.f88 0 N.succ (S88 g n) = cond (decide (127 < n)) (if (g.length + 1) * 1 ≤ 140737488355328 then fnLoop X (fun _ => none) an88 lp Try.f88 0 N (S88 (g ++ [hiB n]) (sh7 n)) else none) (some (.exit 0, S88 g n)) := by cases g <;> kernel_rfl
theorem rounds88 (lp : Lp U) (n : Nat) : ∀ (g : List Int), g.length + (hd n).length ≤ 1000 → fnLoop X (fun _ => none) an88 lp Try.f88 0 ((hd n).length + 1) (S88 g n) = some (.exit 0, S88 (g ++ hd n) (tl n)) := by
  induction n using Nat.strongRecOn with
  | ind n ih =>
    intro g hg
    rw [r88]
    by_cases h : n < 128
    · have e1 : hd n = [] := by unfold hd; rw [if_pos h]
      have e2 : tl n = n := by unfold tl; rw [if_pos h]
      rw [e1, e2, decide_eq_false (by omega), List.append_nil]
      rfl
    · have e1 : hd n = ((128 + n % 128 : Nat) : Int) :: hd (n / 128) := by conv => lhs; unfold hd; rw [if_neg h]
      have e2 : tl n = tl (n / 128) := by conv => lhs; unfold tl; rw [if_neg h]
      rw [e1] at hg ⊢
      rw [List.length_cons] at hg
      rw [decide_eq_true (by omega), cond_true, if_pos (by omega), hiB_nat, sh7_nat, e2]
      have := ih (n / 128) (by omega) (g ++ [((128 + n % 128 : Nat) : Int)]) (by rw [List.length_append]; show g.length + 1 + _ ≤ _; omega)
      rw [List.append_assoc] at this
      exact this
/-- A number's bytes. -/
def numB (n : Int) : ByteArray := strOfNums (hd n.toNat ++ [(tl n.toNat : Int)])
def dl88 (s : TS U) : Option (Int) := match told s 20 [0, 3] 0, s.objs with
  | some [a0, a1], [] =>
    match a0 with
    | .v (.int .u64 n) =>
      match a1 with
      | .v (.slice none 0 0) =>
        some n
      | _ => none
    | _ => none
  | _, _ => none
theorem dl88_ok {s : TS U} {n : Int} (h : dl88 s = some n) : s = mkS (U := U) 20 ([0, 3].zip ([.v (.int .u64 n), .v (.slice none 0 0)] : List (TV U))) ([] : List (TO U)) 0 := by
  unfold dl88 at h
  split at h <;> try (cases h; done)
  rename_i ht ho
  have hs := told_ok ht
  rw [ho] at hs
  repeat' split at h
  all_goals first | (cases h; done) | (cases h; exact hs)
def lc88 : LC U := .ofG dl88 (fun n => U64 n) (fun n K => lsp (hd n.toNat) fun g => K (.exit 0) (S88 g (tl n.toNat))) (fun _ => .exit 0) (fun n => S88 (hd n.toNat) (tl n.toNat)) fun n K => lsp_eq _ _
def lp88 : Lp U := lpL [(0, lc88)]
theorem lp88_ok : ∀ c, Try.f88.body = some c → LpOk X (fun _ => none) an88 lp88 (loops c 0) := lpL_ok (by kernel_rfl) fun b L hm st p hs => by
  cases hm with
  | tail _ h => cases h
  | head =>
    obtain ⟨n, hx, h1, rfl⟩ := LC.ofG_some (fun x K => lsp_eq _ _) hs
    obtain rfl := dl88_ok hx
    have h2 := h1.hd
    have h0 := h1.1
    have := rounds88 (lpL [(0, lc88)]) n.toNat [] (by show 0 + _ ≤ _; omega)
    rw [show ((n.toNat : Nat) : Int) = n by omega] at this
    exact ⟨_, this⟩
theorem e88 (n : Int) : (evFn X (fun (x : FuncId) => none) an88 lp88 Try.f88 [] [TV.v (Value.int IntKind.u64 n)] fun (o : List (TO X.U)) (v : TV X.U) => some (o, v)) = if U64 n then bif (hd n.toNat).isEmpty then if 1 * 1 ≤ 140737488355328 then some ([], TV.v (Value.string (strOfNums [IntKind.u8.wrap (↑(tl n.toNat) : Int)]))) else none else (unc (hd n.toNat)).bind fun (x : Int × List Int) => if ((x.fst :: x.snd).length + 1) * 1 ≤ 140737488355328 then some ([], TV.v (Value.string (strOfNums (x.fst :: x.snd ++ [IntKind.u8.wrap (↑(tl n.toNat) : Int)])))) else none else none := by kernel_rfl
def du64 (objs : List (TO U)) (args : List (TV U)) : Option (Int) := match objs, args with
  | [], [a0] =>
    match a0 with
    | .v (.int .u64 n) =>
      some n
    | _ => none
  | _, _ => none
theorem du64_ok {objs : List (TO U)} {args : List (TV U)} {n : Int} (h : du64 objs args = some n) : objs = [] ∧ args = [.v (.int .u64 n)] := by
  unfold du64 at h
  repeat' split at h
  all_goals first | (cases h; done) | (cases h; exact ⟨rfl, rfl⟩)
def sNum : Spc U := .of du64 (fun n => U64 n) (fun _ => []) fun n => .v (.string (numB n))
theorem sNum_ok : SpecOk Try.prog 88 sNum := by
  refine fn_ok X_ok mixed E0_ok an88 lp88 Try.func88 (by kernel_rfl) (by kernel_rfl) lp88_ok fun objs args n hx hp => ?_
  obtain ⟨rfl, rfl⟩ := du64_ok hx
  dsimp only
  refine (e88 n).trans ?_
  rw [if_pos hp]
  have h2 := hp.hd
  have h3 := tl_lt n.toNat
  have e : IntKind.u8.wrap ((tl n.toNat : Nat) : Int) = (tl n.toNat : Nat) := loB_nat (by omega)
  unfold numB
  generalize hd n.toNat = g at h2
  cases g with
  | nil => rw [e]; rfl
  | cons x l => rw [e]; exact if_pos (show ((x :: l).length + 1) * 1 ≤ 140737488355328 by omega)
end Go.Proofs.Ytpkgikchphgfaaa.Ic
/- Functions that are run. -/
namespace Go.Proofs.Ytpkgikchphgfaaa.Eng
open Go Go.RowKit
set_option linter.unusedVariables false
abbrev LpPath {U : Univ} (lp : Lp U) : Prop := ∀ (b : Nat) (s : TS U) (R : Type) (K : Exit → TS U → Option R) (r : R), lp.F b s K = some r → ∃ ex s', K ex s' = some r ∧ ∀ {R' : Type} (K' : Exit → TS U → Option R'), lp.F b s K' = K' ex s'
def rt {U : Univ} (e : Exit) (s : TS U) : Option (Exit × TS U) := some (e, s)
section
variable {P : Program} {X : Cx} {E : FuncId → Option (Spc X.U)}
def LpSub {U : Univ} (lp lp' : Lp U) : Prop := ∀ (b : Nat) (s : TS U) (p : Exit × TS U), lp.F b s rt = some p → lp'.F b s rt = some p
theorem evC_sub (hE : ∀ f S, E f = some S → SpecOk P f S) {an : Ann} {lp lp' : Lp X.U} (hP : LpPath lp) (hP' : LpPath lp') (hs : LpSub lp lp') : ∀ {c : Code} {b : Nat} {s : TS X.U} {p : Exit × TS X.U}, evC X E an lp c b s rt = some p → evC X E an lp' c b s rt = some p := by
  have key : ∀ {c : Code} {b : Nat} {s : TS X.U}, (∀ p, evC X E an lp c b s rt = some p → evC X E an lp' c b s rt = some p) → ∀ {R : Type} {K : Exit → TS X.U → Option R} {r : R}, evC X E an lp c b s K = some r → ∃ ex s', K ex s' = some r ∧ ∀ {R' : Type} (K' : Exit → TS X.U → Option R'), evC X E an lp' c b s K' = K' ex s' := by
    intro c b s h R K r hk
    obtain ⟨ex, s', h1, h2⟩ := evC_path hE hP hk
    obtain ⟨ex2, s2, h3, h4⟩ := evC_path hE hP' (h (ex, s') (h2 rt))
    cases h3
    exact ⟨ex, s', h1, h4⟩
  intro c
  induction c with
  | seq x y ihx ihy =>
    intro b s p h
    unfold evC at h
    obtain ⟨ex, s', h1, h2⟩ := key (fun p => ihx) h
    unfold evC
    rw [h2]
    cases ex <;> first | exact ihy h1 | exact h1
  | cond c x y ihx ihy =>
    intro b s p h
    unfold evC at h ⊢
    split at h <;> try (cases h; done)
    rename_i q hc
    cases q with
    | true => exact ihx h
    | false => exact ihy h
  | block id x ih =>
    intro b s p h
    unfold evC at h
    obtain ⟨ex, s', h1, h2⟩ := key (fun p => ih) h
    unfold evC
    rw [h2]
    exact h1
  | loop x ih =>
    intro b s p h
    unfold evC at h ⊢
    cases hn : evNorm (an.live b) s with
    | none => rw [hn] at h; cases h
    | some s1 =>
      rw [hn] at h
      exact hs _ _ _ h
  | _ => intro b s p h; exact h
theorem loopK_sub (hE : ∀ f S, E f = some S → SpecOk P f S) {an : Ann} {lp lp' : Lp X.U} (hP : LpPath lp) (hP' : LpPath lp') (hs : LpSub lp lp') {b : Nat} {c : Code} : ∀ (n : Nat) (s : TS X.U) (p : Exit × TS X.U), loopK X E an lp b c n s rt = some p → loopK X E an lp' b c n s rt = some p := by
  intro n
  induction n with
  | zero => intro s p h; cases h
  | succ n ih =>
    intro s p h
    unfold loopK at h ⊢
    obtain ⟨ex, s', h1, h2⟩ := evC_path hE hP h
    obtain ⟨ex2, s2, h3, h4⟩ := evC_path hE hP' (evC_sub hE hP hP' hs (h2 rt))
    cases h3
    rw [h4]
    cases ex with
    | normal =>
      dsimp only at h1 ⊢
      cases hn : evNorm (an.live b) s' with
      | none => rw [hn] at h1; cases h1
      | some s1 => rw [hn] at h1; exact ih _ _ h1
    | _ => exact h1
/-- A function's loops, run: so many rounds, so deep within each other. -/
def runLp (X : Cx) (E : FuncId → Option (Spc X.U)) (an : Ann) (fn : Func) (N : Nat) : Nat → Lp X.U
  | 0 => lp0
  | k + 1 => ⟨fun b s K => loopK X E an (runLp X E an fn N k) b (loopAt fn b) N s K⟩
theorem runLp_path (hE : ∀ f S, E f = some S → SpecOk P f S) {an : Ann} {fn : Func} {N : Nat} : ∀ k, LpPath (runLp X E an fn N k)
  | 0 => fun b s R K r h => by cases h
  | k + 1 => fun b s R K r h => loopK_path hE (runLp_path hE k) N s K h
theorem runLp_sub (hE : ∀ f S, E f = some S → SpecOk P f S) {an : Ann} {fn : Func} {N : Nat} : ∀ k, LpSub (runLp X E an fn N k) (runLp X E an fn N (k + 1))
  | 0 => fun b s p h => by cases h
  | k + 1 => fun b s p h => loopK_sub hE (runLp_path hE k) (runLp_path hE (k + 1)) (runLp_sub hE k) N s p h
theorem runLp_ok (hE : ∀ f S, E f = some S → SpecOk P f S) {an : Ann} {fn : Func} {N k : Nat} {c : Code} (hc : fn.body = some c) (hnd : nodupN ((loops c 0).map (·.1)) = true) : LpOk X E an (runLp X E an fn N k) (loops c 0) := by
  refine LpOk.of hc hnd (fun b s p hm hs => ?_) (runLp_path hE k)
  cases k with
  | zero => cases hs
  | succ k =>
    refine ⟨N, ?_⟩
    have h1 : loopK X E an (runLp X E an fn N k) b (loopAt fn b) N s rt = some p := hs
    have h2 := loopK_sub hE (runLp_path hE k) (runLp_path hE (k + 1)) (runLp_sub hE k) N s p h1
    unfold fnLoop
    rw [← loopK_R (lp := runLp X E an fn N (k + 1)) (fun q _ s K => rfl)]
    exact h2
/-- A function that may be run. -/
structure Runs (P : Program) (f : FuncId) (fn : Func) : Prop where
  at_ : P.funcs[f]? = some fn
  name : (fn.name == "runtime.NumGoroutine") = false
  code : (match fn.body with | some c => codeOk fn.ntmps c | none => false) = true
  nodup : (match fn.body with | some c => nodupN ((loops c 0).map (·.1)) | none => false) = true
/-- What is told of functions, and else they are run. -/
def runE (X : Cx) (E0 : FuncId → Option (Spc X.U)) (fs : FuncId → Option (Func × Ann)) (N k : Nat) : Nat → FuncId → Option (Spc X.U)
  | 0, f => E0 f
  | d + 1, f => match fs f with
    | some (fn, an) => some (specFn X (runE X E0 fs N k d) an (runLp X (runE X E0 fs N k d) an fn N k) fn)
    | none => E0 f
theorem runE_ok (hX : CxOk P X) (hm : P.follows .mixedOrders = true) {E0 : FuncId → Option (Spc X.U)} (h0 : ∀ f S, E0 f = some S → SpecOk P f S) {fs : FuncId → Option (Func × Ann)} (hf : ∀ f fn an, fs f = some (fn, an) → Runs P f fn) {N k : Nat} : ∀ d f S, runE X E0 fs N k d f = some S → SpecOk P f S
  | 0, f, S, h => h0 f S h
  | d + 1, f, S, h => by
    unfold runE at h
    split at h
    · rename_i fn an hfs
      cases h
      have hr := hf f fn an hfs
      refine specFn_ok hX hm (runE_ok hX hm h0 hf d) an _ hr.at_ hr.name hr.code fun c hc => runLp_ok (runE_ok hX hm h0 hf d) hc ?_
      have := hr.nodup
      rw [hc] at this
      exact this
    · exact h0 f S h
end
end Go.Proofs.Ytpkgikchphgfaaa.Eng
/- Numbers and texts as bytes: what they are, is told by the bytes. -/
namespace Go.Proofs.Ytpkgikchphgfaaa.Ic
open Go Go.RowKit Go.Proofs.Ytpkgikchphgfaaa.Eng
set_option linter.unusedVariables false
set_option linter.unusedSimpArgs false
/-- The bytes of a text. -/
def tl8 (s : ByteArray) : List UInt8 := s.data.toList
theorem tl8_append (a b : ByteArray) : tl8 (a ++ b) = tl8 a ++ tl8 b := by
  unfold tl8
  rw [ByteArray.data_append, Array.toList_append]
theorem tl8_inj {a b : ByteArray} (h : tl8 a = tl8 b) : a = b := by
  cases a; cases b
  congr
  exact Array.toList_inj.1 h
theorem tl8_len (a : ByteArray) : (tl8 a).length = a.size := Array.length_toList
def bL (n : Nat) : List UInt8 := if n < 128 then [UInt8.ofNat n] else UInt8.ofNat (128 + n % 128) :: bL (n / 128)
termination_by n
/-- A number of 64 bits with a sign, plus one, as one without. -/
def uw (x : Int) : Nat := (IntKind.u64.wrap (IntKind.i64.wrap (x + 1))).toNat
def R64 (x : Int) : Prop := -9223372036854775808 ≤ x ∧ x < 9223372036854775808
theorem wi64 (z : Int) : IntKind.i64.wrap z = if z % 2 ^ 64 ≥ 2 ^ 63 then z % 2 ^ 64 - 2 ^ 64 else z % 2 ^ 64 := by
  simp [IntKind.wrap, IntKind.bits, IntKind.signed]
theorem R64.of_wrap (x : Int) : R64 (IntKind.i64.wrap x) := by
  unfold R64
  rw [wi64]
  split <;> omega
def rL (l : List Int) : List UInt8 := bL (IntKind.u64.wrap (l.length : Int)).toNat ++ l.flatMap fun x => bL (uw x)
/-- A text's bytes. -/
def xL (s : ByteArray) : List UInt8 := bL (IntKind.u64.wrap (s.size : Int)).toNat ++ tl8 s
/-- A number with a sign, as one without. -/
def zig (n : Int) : Int := IntKind.u64.wrap ((BitVec.ofInt IntKind.u64.bits (IntKind.u64.wrap (IntKind.u64.wrap n * 2 ^ min (Int.toNat 1) IntKind.u64.bits)) ^^^ BitVec.ofInt IntKind.u64.bits (IntKind.u64.wrap (n.fdiv (2 ^ min (Int.toNat 63) IntKind.i64.bits)))).toNat : Nat)
end Go.Proofs.Ytpkgikchphgfaaa.Ic
/- Programs as bytes: rows of numbers, texts. -/
namespace Go.Proofs.Ytpkgikchphgfaaa.Ic
open Go Go.RowKit Go.Proofs.Ytpkgikchphgfaaa.Eng Go.Proofs.Ytpkgikchphgfaaa.Fl
set_option linter.unusedVariables false
set_option linter.unusedSimpArgs false
set_option maxRecDepth 20000
def Ia : FuncId → Option (Spc U)
  | 88 => some sNum
  | _ => none
theorem Ia_ok : ∀ f S, Ia f = some S → SpecOk Try.prog f S := fun f S h => by
  unfold Ia at h
  split at h
  · cases h; exact sNum_ok
  · cases h
def g87_S0 (l : List
  Int) (v0 : ByteArray) (v3 : Int) : TS U := mkS 24
  [(3, TV.v (Value.string v0)), (10, TV.lst C.i64 l), (11, TV.v (Value.int IntKind.i64 (↑l.length : Int))),
    (12, TV.v (Value.int IntKind.i64 v3))]
  [] 0
theorem g87_e0 (lp : Lp U) (l : List Int) (N : Nat) (v0 : ByteArray) (v3 : Int) : fnLoop X Ia an87 lp Try.f87 0 N.succ (g87_S0 l v0 v3) = bif decide (v3 < (↑l.length : Int)) then (getI l v3).bind fun (z : X.U.T C.i64) => if U64 (IntKind.u64.wrap (IntKind.i64.wrap (z + 1))) then if v0.size + (numB (IntKind.u64.wrap (IntKind.i64.wrap (z + 1)))).size ≤ 9223372036854775807 then fnLoop X Ia an87 lp Try.f87 0 N (g87_S0 l (v0 ++ numB (IntKind.u64.wrap (IntKind.i64.wrap (z + 1)))) (IntKind.i64.wrap (v3 + 1))) else none else none else some (Exit.exit 0, mkS 24 [(3, TV.v (Value.string v0))] [] 0) := by kernel_rfl
theorem e89 (s : ByteArray) : (evFn X Ia an0 lp0 Try.f89 [] [TV.v (Value.string s)] fun (o : List (TO X.U)) (v : TV X.U) => some (o, v)) = if U64 (IntKind.u64.wrap (↑s.size : Int)) then if (numB (IntKind.u64.wrap (↑s.size : Int))).size + s.size ≤ 9223372036854775807 then some ([], TV.v (Value.string (numB (IntKind.u64.wrap (↑s.size : Int)) ++ s))) else none else none := by kernel_rfl
theorem e90 (n : Int) : (evFn X Ia an0 lp0 Try.f90 [] [TV.v (Value.int IntKind.i64 n)] fun (o : List (TO X.U)) (v : TV X.U) => some (o, v)) = some ([], TV.v (Value.int IntKind.u64 (IntKind.u64.wrap (↑(BitVec.ofInt IntKind.u64.bits (IntKind.u64.wrap (IntKind.u64.wrap n * 2 ^ min (Int.toNat 1) IntKind.u64.bits)) ^^^ BitVec.ofInt IntKind.u64.bits (IntKind.u64.wrap (n.fdiv (2 ^ min (Int.toNat 63) IntKind.i64.bits)))).toNat : Int)))) := by kernel_rfl
theorem numB_size {n : Int} (h : U64 n) : (numB n).size ≤ 10 := by
  have h2 := h.hd
  have : (numB n).size = (hd n.toNat ++ [(tl n.toNat : Int)]).length := by
    rw [← tl8_len]
    show (((hd n.toNat ++ [(tl n.toNat : Int)]).map _).toArray).toList.length = _
    rw [List.length_map]
  rw [this, List.length_append]
  exact Nat.succ_le_succ h2
theorem fold_rounds {α β T B : Type} {fnl : Nat → T → Option B} (S : β → Int → T) (Z : β → B) (l : List α) (I : β → Int → Prop) (step : β → α → β)
    (hin : ∀ (N : Nat) (g : β) (v : Int) (z : α), I g v → 0 ≤ v → v < (l.length : Int) → getI l v = some z → fnl (N + 1) (S g v) = fnl N (S (step g z) (v + 1)) ∧ I (step g z) (v + 1))
    (hout : ∀ (N : Nat) (g : β) (v : Int), I g v → ¬ v < (l.length : Int) → fnl (N + 1) (S g v) = some (Z g)) :
    ∀ (N : Nat) (g : β) (v : Int), I g v → 0 ≤ v → (l.length : Int) ≤ v + N → fnl (N + 1) (S g v) = some (Z ((l.drop v.toNat).foldl step g)) := by
  intro N
  induction N with
  | zero =>
    intro g v hI h0 h1
    rw [hout 0 g v hI (by omega), List.drop_eq_nil_of_le (by omega)]
    rfl
  | succ N ih =>
    intro g v hI h0 h1
    by_cases hv : v < (l.length : Int)
    · obtain ⟨x, hx, hx2⟩ := getI_lt (l := l) h0 hv
      obtain ⟨h2, h3⟩ := hin (N + 1) g v x hI h0 hv hx
      have ea : l.drop v.toNat = x :: l.drop (v.toNat + 1) := by
        rw [List.drop_eq_getElem_cons (by omega)]
        rw [List.getElem?_eq_getElem (by omega)] at hx2
        rw [Option.some.inj hx2]
      rw [h2, ih (step g x) (v + 1) h3 (by omega) (by omega), ea, show (v + 1).toNat = v.toNat + 1 by omega]
      rfl
    · rw [hout (N + 1) g v hI hv, List.drop_eq_nil_of_le (by omega)]
      rfl
def Sm (n : Nat) : Prop := n ≤ 4000000
instance (n : Nat) : Decidable (Sm n) := by unfold Sm; infer_instance
def rowS (b : ByteArray) (z : Int) : ByteArray := b ++ numB (IntKind.u64.wrap (IntKind.i64.wrap (z + 1)))
/-- A row's bytes. -/
def rowB (l : List Int) : ByteArray := l.foldl rowS (numB (IntKind.u64.wrap (l.length : Int)))
theorem app_size (a b : ByteArray) : (a ++ b).size = a.size + b.size := by
  rw [← tl8_len, tl8_append, List.length_append, tl8_len, tl8_len]
theorem rowF_size : ∀ (l : List Int) (b : ByteArray), (l.foldl rowS b).size ≤ b.size + 10 * l.length
  | [], b => Nat.le_refl _
  | x :: l, b => by
    have := rowF_size l (rowS b x)
    have h2 : (rowS b x).size ≤ b.size + 10 := by
      unfold rowS
      rw [app_size]
      have := numB_size (u64_wrap (IntKind.i64.wrap (x + 1)))
      omega
    rw [List.foldl_cons, List.length_cons]
    omega
theorem rowB_size {l : List Int} (h : Sm l.length) : (rowB l).size ≤ 50000000 := by
  have := rowF_size l (numB (IntKind.u64.wrap (l.length : Int)))
  have h2 := numB_size (u64_wrap (l.length : Int))
  unfold Sm at h
  unfold rowB
  omega
theorem rounds87 (lp : Lp U) {l : List Int} (h : Sm l.length) : fnLoop X Ia an87 lp Try.f87 0 (l.length + 1) (g87_S0 l (numB (IntKind.u64.wrap (l.length : Int))) 0) = some (.exit 0, mkS 24 [(3, .v (.string (rowB l)))] [] 0) := by
  unfold Sm at h
  refine fold_rounds (fnl := fnLoop X Ia an87 lp Try.f87 0) (fun b v => g87_S0 l b v) (fun b => ((.exit 0, mkS 24 [(3, .v (.string b))] [] 0) : Exit × TS U)) l (fun b v => (b.size : Int) ≤ 10 + 10 * v) rowS (fun N b v z hI h0 h1 hz => ?_) (fun N b v hI h1 => ?_) l.length _ 0 (by
      have := numB_size (u64_wrap (l.length : Int))
      omega) (Int.le_refl _) (by omega)
  · have hs := numB_size (u64_wrap (IntKind.i64.wrap (z + 1)))
    refine ⟨?_, ?_⟩
    · rw [g87_e0, decide_eq_true h1, hz, wrap_i64 (c := v + 1) (by omega) (by omega)]
      simp only [cond_true, Option.bind_some]
      rw [if_pos (u64_wrap _), if_pos (by omega)]
      rfl
    · unfold rowS
      rw [app_size]
      omega
  · rw [g87_e0, decide_eq_false h1]
    rfl
def Pre87 (l : List Int) (b : ByteArray) (n v : Int) : Prop := Sm l.length ∧ n = l.length ∧ v = 0 ∧ b = numB (IntKind.u64.wrap (l.length : Int))
instance (l : List Int) (b : ByteArray) (n v : Int) : Decidable (Pre87 l b n v) := by unfold Pre87; infer_instance
def dl87 (s : TS U) : Option (ByteArray × List Int × Int × Int) := match told s 24 [3, 10, 11, 12] 0, s.objs with
  | some [a0, a1, a2, a3], [] =>
    match a0 with
    | .v (.string b) =>
      match a1 with
      | .lst .i64 l =>
        match a2 with
        | .v (.int .i64 n) =>
          match a3 with
          | .v (.int .i64 v) =>
            some (b, l, n, v)
          | _ => none
        | _ => none
      | _ => none
    | _ => none
  | _, _ => none
theorem dl87_ok {s : TS U} {b : ByteArray} {l : List Int} {n : Int} {v : Int} (h : dl87 s = some (b, l, n, v)) : s = mkS (U := U) 24 ([3, 10, 11, 12].zip ([.v (.string b), .lst .i64 l, .v (.int .i64 n), .v (.int .i64 v)] : List (TV U))) ([] : List (TO U)) 0 := by
  unfold dl87 at h
  split at h <;> try (cases h; done)
  rename_i ht ho
  have hs := told_ok ht
  rw [ho] at hs
  repeat' split at h
  all_goals first | (cases h; done) | (cases h; exact hs)
def lc87 : LC U := .of dl87 (fun (b, l, n, v) => Pre87 l b n v) (.exit 0) (fun (b, l, n, v) => mkS 24 [(3, .v (.string (rowB l)))] [] 0)
def lp87 : Lp U := lpL [(0, lc87)]
theorem lp87_ok : ∀ c, Try.f87.body = some c → LpOk X Ia an87 lp87 (loops c 0) := lpL_ok (by kernel_rfl) fun b L hm st p hs => by
  cases hm with
  | tail _ h => cases h
  | head =>
    obtain ⟨⟨b, l, n, v⟩, hx, ⟨h1, rfl, rfl, rfl⟩, rfl⟩ := LC.of_some hs
    obtain rfl := dl87_ok hx
    exact ⟨_, rounds87 _ h1⟩
theorem e87 (l : List Int) : (evFn X Ia an87 lp87 Try.f87 [] [TV.lst C.i64 l] fun (o : List (TO X.U)) (v : TV X.U) => some (o, v)) = if U64 (IntKind.u64.wrap (↑l.length : Int)) then if Pre87 l (numB (IntKind.u64.wrap (↑l.length : Int))) (↑l.length : Int) 0 then some ([], TV.v (Value.string (rowB l))) else none else none := by kernel_rfl
def dLi (objs : List (TO U)) (args : List (TV U)) : Option (List Int) := match objs, args with
  | [], [a0] =>
    match a0 with
    | .lst .i64 l =>
      some l
    | _ => none
  | _, _ => none
theorem dLi_ok {objs : List (TO U)} {args : List (TV U)} {l : List Int} (h : dLi objs args = some l) : objs = [] ∧ args = [.lst .i64 l] := by
  unfold dLi at h
  repeat' split at h
  all_goals first | (cases h; done) | (cases h; exact ⟨rfl, rfl⟩)
def sRow : Spc U := .of dLi (fun l => Sm l.length) (fun _ => []) fun l => .v (.string (rowB l))
theorem sRow_ok : SpecOk Try.prog 87 sRow := by
  refine fn_ok X_ok mixed Ia_ok an87 lp87 Try.func87 (by kernel_rfl) (by kernel_rfl) lp87_ok fun objs args l hx hp => ?_
  obtain ⟨rfl, rfl⟩ := dLi_ok hx
  dsimp only
  refine (e87 l).trans ?_
  have h : Pre87 l (numB (IntKind.u64.wrap (l.length : Int))) l.length 0 := ⟨hp, rfl, rfl, rfl⟩
  first | rw [if_pos (u64_wrap _), if_pos h] | (simp only [if_pos (u64_wrap _), if_pos h])
/-! ### A row of one's own -/
def g87o_S0 (l : List
  Int) (v0 : ByteArray) (v2 : Int) : TS U := mkS 24
  [(3, TV.v (Value.string v0)), (10, TV.full 0), (11, TV.v (Value.int IntKind.i64 (↑l.length : Int))),
    (12, TV.v (Value.int IntKind.i64 v2))]
  [TO.row C.i64 l false] 1
theorem g87o_e0 (lp : Lp U) (l : List Int) (N : Nat) (v0 : ByteArray) (v2 : Int) : fnLoop X Ia an87 lp Try.f87 0 N.succ (g87o_S0 l v0 v2) = bif decide (v2 < (↑l.length : Int)) then if 0 ≤ v2 ∧ v2 < (↑l.length : Int) then l[v2.toNat]?.bind fun (y : X.U.T C.i64) => if U64 (IntKind.u64.wrap (IntKind.i64.wrap (y + 1))) then if v0.size + (numB (IntKind.u64.wrap (IntKind.i64.wrap (y + 1)))).size ≤ 9223372036854775807 then fnLoop X Ia an87 lp Try.f87 0 N (g87o_S0 l (v0 ++ numB (IntKind.u64.wrap (IntKind.i64.wrap (y + 1)))) (IntKind.i64.wrap (v2 + 1))) else none else none else none else some (Exit.exit 0, mkS 24 [(3, TV.v (Value.string v0))] [TO.row C.i64 l false] 1) := by kernel_rfl
def Z87o (l : List Int) (b : ByteArray) : TS U := mkS 24 [(3, .v (.string b))] [.row .i64 l false] 1
theorem rounds87o (lp : Lp U) {l : List Int} (h : Sm l.length) : fnLoop X Ia an87 lp Try.f87 0 (l.length + 1) (g87o_S0 l (numB (IntKind.u64.wrap (l.length : Int))) 0) = some (.exit 0, Z87o l (rowB l)) := by
  unfold Sm at h
  refine fold_rounds (fnl := fnLoop X Ia an87 lp Try.f87 0) (fun b v => g87o_S0 l b v) (fun b => ((.exit 0, Z87o l b) : Exit × TS U)) l (fun b v => (b.size : Int) ≤ 10 + 10 * v) rowS (fun N b v z hI h0 h1 hz => ?_) (fun N b v hI h1 => ?_) l.length _ 0 (by
      have := numB_size (u64_wrap (l.length : Int))
      omega) (Int.le_refl _) (by omega)
  · have hs := numB_size (u64_wrap (IntKind.i64.wrap (z + 1)))
    obtain ⟨_, hz2⟩ := getI_some hz
    refine ⟨?_, ?_⟩
    · rw [g87o_e0, decide_eq_true h1, cond_true, if_pos ⟨h0, h1⟩, hz2, wrap_i64 (c := v + 1) (by omega) (by omega)]
      simp only [Option.bind_some]
      rw [if_pos (u64_wrap _), if_pos (by omega)]
      rfl
    · unfold rowS
      rw [app_size]
      omega
  · rw [g87o_e0, decide_eq_false h1]
    rfl
def dl87o (s : TS U) : Option (List Int × ByteArray × Int × Int) := match told s 24 [3, 10, 11, 12] 1, s.objs with
  | some [a0, a1, a2, a3], [o0] =>
    match o0 with
    | .row .i64 l false =>
      match a0 with
      | .v (.string b) =>
        match a1 with
        | .full 0 =>
          match a2 with
          | .v (.int .i64 n) =>
            match a3 with
            | .v (.int .i64 v) =>
              some (l, b, n, v)
            | _ => none
          | _ => none
        | _ => none
      | _ => none
    | _ => none
  | _, _ => none
theorem dl87o_ok {s : TS U} {l : List Int} {b : ByteArray} {n : Int} {v : Int} (h : dl87o s = some (l, b, n, v)) : s = mkS (U := U) 24 ([3, 10, 11, 12].zip ([.v (.string b), .full 0, .v (.int .i64 n), .v (.int .i64 v)] : List (TV U))) ([.row .i64 l false] : List (TO U)) 1 := by
  unfold dl87o at h
  split at h <;> try (cases h; done)
  rename_i ht ho
  have hs := told_ok ht
  rw [ho] at hs
  repeat' split at h
  all_goals first | (cases h; done) | (cases h; exact hs)
def lc87o : LC U := .of dl87o (fun (l, b, n, v) => Pre87 l b n v) (.exit 0) (fun (l, b, n, v) => Z87o l (rowB l))
def lp87o : Lp U := lpL [(0, lc87o)]
theorem lp87o_ok : ∀ c, Try.f87.body = some c → LpOk X Ia an87 lp87o (loops c 0) := lpL_ok (by kernel_rfl) fun b L hm st p hs => by
  cases hm with
  | tail _ h => cases h
  | head =>
    obtain ⟨⟨l, b, n, v⟩, hx, ⟨h1, rfl, rfl, rfl⟩, rfl⟩ := LC.of_some hs
    obtain rfl := dl87o_ok hx
    exact ⟨_, rounds87o _ h1⟩
theorem e87o (l : List Int) : (evFn X Ia an87 lp87o Try.f87 [TO.row C.i64 l false] [TV.full 0] fun (o : List (TO X.U)) (v : TV X.U) => some (o, v)) = if U64 (IntKind.u64.wrap (↑l.length : Int)) then if Pre87 l (numB (IntKind.u64.wrap (↑l.length : Int))) (↑l.length : Int) 0 then some ([TO.row C.i64 l false], TV.v (Value.string (rowB l))) else none else none := by kernel_rfl
def dLio (objs : List (TO U)) (args : List (TV U)) : Option (List Int) := match objs, args with
  | [o0], [a0] =>
    match o0 with
    | .row .i64 l false =>
      match a0 with
      | .full 0 =>
        some l
      | _ => none
    | _ => none
  | _, _ => none
theorem dLio_ok {objs : List (TO U)} {args : List (TV U)} {l : List Int} (h : dLio objs args = some l) : objs = [.row .i64 l false] ∧ args = [.full 0] := by
  unfold dLio at h
  repeat' split at h
  all_goals first | (cases h; done) | (cases h; exact ⟨rfl, rfl⟩)
def sRowO : Spc U := .of dLio (fun l => Sm l.length) (fun l => [.row .i64 l false]) fun l => .v (.string (rowB l))
theorem sRowO_ok : SpecOk Try.prog 87 sRowO := by
  refine fn_ok X_ok mixed Ia_ok an87 lp87o Try.func87 (by kernel_rfl) (by kernel_rfl) lp87o_ok fun objs args l hx hp => ?_
  obtain ⟨rfl, rfl⟩ := dLio_ok hx
  dsimp only
  refine (e87o l).trans ?_
  have h : Pre87 l (numB (IntKind.u64.wrap (l.length : Int))) l.length 0 := ⟨hp, rfl, rfl, rfl⟩
  rw [if_pos (u64_wrap _), if_pos h]
/-- One contract, or another one. -/
def alt {U : Univ} (c : List (TV U) → Bool) (S T : Spc U) : Spc U := ⟨fun objs args k => cond (c args) (S.F objs args k) (T.F objs args k)⟩
theorem alt_ok {U : Univ} {P : Program} {f : FuncId} {c : List (TV U) → Bool} {S T : Spc U} (h : SpecOk P f S) (h2 : SpecOk P f T) : SpecOk P f (alt c S T) := by
  refine ⟨h.fn, fun objs args => ?_, fun objs args objs' res hs => ?_⟩
  · intro R k r hk
    unfold alt at hk ⊢
    dsimp only at hk ⊢
    cases hc : c args with
    | true => rw [hc] at hk; exact h.path objs args _ _ hk
    | false => rw [hc] at hk; exact h2.path objs args _ _ hk
  · unfold alt at hs
    dsimp only at hs
    cases hc : c args with
    | true => rw [hc] at hs; exact h.ok objs args _ _ hs
    | false => rw [hc] at hs; exact h2.ok objs args _ _ hs
def ownR : List (TV U) → Bool
  | [.full _] => true
  | _ => false
def sRow2 : Spc U := alt ownR sRowO sRow
theorem sRow2_ok : SpecOk Try.prog 87 sRow2 := alt_ok sRowO_ok sRow_ok
def textB (s : ByteArray) : ByteArray := numB (IntKind.u64.wrap (s.size : Int)) ++ s
def dSt (objs : List (TO U)) (args : List (TV U)) : Option (ByteArray) := match objs, args with
  | [], [a0] =>
    match a0 with
    | .v (.string s) =>
      some s
    | _ => none
  | _, _ => none
theorem dSt_ok {objs : List (TO U)} {args : List (TV U)} {s : ByteArray} (h : dSt objs args = some s) : objs = [] ∧ args = [.v (.string s)] := by
  unfold dSt at h
  repeat' split at h
  all_goals first | (cases h; done) | (cases h; exact ⟨rfl, rfl⟩)
def sText : Spc U := .of dSt (fun s => s.size ≤ 100000000) (fun _ => []) fun s => .v (.string (textB s))
theorem sText_ok : SpecOk Try.prog 89 sText := by
  refine fn_ok X_ok mixed Ia_ok an0 lp0 Try.func89 (by kernel_rfl) (by kernel_rfl) (lp0_ok (by kernel_rfl)) fun objs args s hx hp => ?_
  obtain ⟨rfl, rfl⟩ := dSt_ok hx
  dsimp only at hp ⊢
  refine (e89 s).trans ?_
  have := numB_size (u64_wrap (s.size : Int))
  rw [if_pos (u64_wrap _), if_pos (by omega)]
  rfl
def dIn (objs : List (TO U)) (args : List (TV U)) : Option (Int) := match objs, args with
  | [], [a0] =>
    match a0 with
    | .v (.int .i64 n) =>
      some n
    | _ => none
  | _, _ => none
theorem dIn_ok {objs : List (TO U)} {args : List (TV U)} {n : Int} (h : dIn objs args = some n) : objs = [] ∧ args = [.v (.int .i64 n)] := by
  unfold dIn at h
  repeat' split at h
  all_goals first | (cases h; done) | (cases h; exact ⟨rfl, rfl⟩)
def sSign : Spc U := .of dIn (fun _ => True) (fun _ => []) fun n => .v (.int .u64 (zig n))
theorem sSign_ok : SpecOk Try.prog 90 sSign := by
  refine fn_ok X_ok mixed Ia_ok an0 lp0 Try.func90 (by kernel_rfl) (by kernel_rfl) (lp0_ok (by kernel_rfl)) fun objs args n hx hp => ?_
  obtain ⟨rfl, rfl⟩ := dIn_ok hx
  exact e90 n
theorem textB_size {s : ByteArray} (h : s.size ≤ 100000000) : (textB s).size ≤ 100000010 := by
  have := numB_size (u64_wrap (s.size : Int))
  unfold textB
  rw [app_size]
  omega
end Go.Proofs.Ytpkgikchphgfaaa.Ic
/- Programs as bytes: a whole one. -/
namespace Go.Proofs.Ytpkgikchphgfaaa.Ic
open Go Go.RowKit Go.Proofs.Ytpkgikchphgfaaa.Eng Go.Proofs.Ytpkgikchphgfaaa.Fl
set_option linter.unusedVariables false
set_option linter.unusedSimpArgs false
set_option maxRecDepth 20000
def an40 : Ann := ⟨fun | 0 => 15032385546 | 2 => 8264141345021879123976 | _ => 0, fun | 0 => 14 | 2 => 12 | _ => 0, fun _ => [], false⟩
/-- (That a number's sign is told in whatever way: else the kernel looks into it.) -/
def sSignG (zg : Int → Int) : Spc U := .of dIn (fun _ => True) (fun _ => []) fun n => .v (.int .u64 (zg n))
def IbG (zg : Int → Int) : FuncId → Option (Spc U)
  | 87 => some sRow2
  | 88 => some sNum
  | 89 => some sText
  | 90 => some (sSignG zg)
  | _ => none
def Ib : FuncId → Option (Spc U) := IbG zig
theorem Ib_ok : ∀ f S, Ib f = some S → SpecOk Try.prog f S := fun f S h => by
  unfold Ib IbG at h
  split at h
  · cases h; exact sRow2_ok
  · cases h; exact sNum_ok
  · cases h; exact sText_ok
  · cases h; exact sSign_ok
  · cases h
def headB (o : IRs) : ByteArray := rowB o.G ++ rowB o.F ++ rowB o.V ++ numB (IntKind.u64.wrap o.Main) ++ numB (IntKind.u64.wrap (o.Fs.length : Int))
def fnB (z : R69) : ByteArray := textB z.Name ++ rowB z.Params ++ numB (IntKind.u64.wrap z.Ret) ++ numB (IntKind.u64.wrap z.First) ++ numB (IntKind.u64.wrap z.Last)
def fnS (b : ByteArray) (z : R69) : ByteArray := b ++ fnB z
def fnsB (o : IRs) : ByteArray := o.Fs.foldl fnS (headB o)
def FnOk (z : R69) : Prop := z.Name.size ≤ 100000000 ∧ Sm z.Params.length
instance (z : R69) : Decidable (FnOk z) := by unfold FnOk; infer_instance
def PutOk (o : IRs) : Prop := (Sm o.G.length ∧ Sm o.F.length ∧ Sm o.V.length) ∧ (Sm o.Fs.length ∧ Sm o.C.length) ∧ (∀ z ∈ o.Fs, FnOk z) ∧ ∀ z ∈ o.C, Sm z.Args.length
instance (o : IRs) : Decidable (PutOk o) := by unfold PutOk; infer_instance
theorem headB_size {o : IRs} (h : PutOk o) : (headB o).size ≤ 200000000 := by
  have h1 := rowB_size h.1.1
  have h2 := rowB_size h.1.2.1
  have h3 := rowB_size h.1.2.2
  have h4 := numB_size (u64_wrap o.Main)
  have h5 := numB_size (u64_wrap (o.Fs.length : Int))
  unfold headB
  simp only [app_size]
  omega
theorem fnB_size {z : R69} (h : FnOk z) : (fnB z).size ≤ 200000000 := by
  have h1 := textB_size h.1
  have h2 := rowB_size h.2
  have h3 := numB_size (u64_wrap z.Ret)
  have h4 := numB_size (u64_wrap z.First)
  have h5 := numB_size (u64_wrap z.Last)
  unfold fnB
  simp only [app_size]
  omega
def g40_S0 (o : IRs) (v0 : ByteArray) (v3 : Int) : TS U := mkS 105
  [(1, TV.ref 0 0 0), (3, TV.v (Value.string v0)), (31, TV.lst C.t69 o.Fs),
    (32, TV.v (Value.int IntKind.i64 (↑o.Fs.length : Int))), (33, TV.v (Value.int IntKind.i64 v3))]
  [TO.cells
      [TV.lst C.i64 o.G, TV.lst C.i64 o.F, TV.lst C.i64 o.V, TV.lst C.t69 o.Fs, TV.lst C.t65 o.C,
        TV.v (Value.int IntKind.i64 o.Main)]
      false]
  0
theorem g40_e0 (lp : Lp U) (o : IRs) (N : Nat) (v0 : ByteArray) (v3 : Int) : fnLoop X Ib an40 lp Try.f40 0 N.succ (g40_S0 o v0 v3) = bif decide (v3 < (↑o.Fs.length : Int)) then (getI o.Fs v3).bind fun (z : X.U.T C.t69) => if z.Name.size ≤ 100000000 then if Sm z.Params.length then if (textB z.Name).size + (rowB z.Params).size ≤ 9223372036854775807 then if U64 (IntKind.u64.wrap z.Ret) then if (textB z.Name ++ rowB z.Params).size + (numB (IntKind.u64.wrap z.Ret)).size ≤ 9223372036854775807 then if U64 (IntKind.u64.wrap z.First) then if (textB z.Name ++ rowB z.Params ++ numB (IntKind.u64.wrap z.Ret)).size + (numB (IntKind.u64.wrap z.First)).size ≤ 9223372036854775807 then if U64 (IntKind.u64.wrap z.Last) then if (textB z.Name ++ rowB z.Params ++ numB (IntKind.u64.wrap z.Ret) ++ numB (IntKind.u64.wrap z.First)).size + (numB (IntKind.u64.wrap z.Last)).size ≤ 9223372036854775807 then if v0.size + (textB z.Name ++ rowB z.Params ++ numB (IntKind.u64.wrap z.Ret) ++ numB (IntKind.u64.wrap z.First) ++ numB (IntKind.u64.wrap z.Last)).size ≤ 9223372036854775807 then fnLoop X Ib an40 lp Try.f40 0 N (g40_S0 o (v0 ++ (textB z.Name ++ rowB z.Params ++ numB (IntKind.u64.wrap z.Ret) ++ numB (IntKind.u64.wrap z.First) ++ numB (IntKind.u64.wrap z.Last))) (IntKind.i64.wrap (v3 + 1))) else none else none else none else none else none else none else none else none else none else none else some (Exit.exit 0, mkS 105 [(1, TV.ref 0 0 0), (3, TV.v (Value.string v0))] [TO.cells [TV.lst C.i64 o.G, TV.lst C.i64 o.F, TV.lst C.i64 o.V, TV.lst C.t69 o.Fs, TV.lst C.t65 o.C, TV.v (Value.int IntKind.i64 o.Main)] false] 0) := by kernel_rfl
theorem getI_mem {α : Type} {l : List α} {v : Int} {x : α} (h : getI l v = some x) : x ∈ l := List.mem_of_getElem? (getI_some h).2
def Z40a (o : IRs) (b : ByteArray) : TS U := mkS 105 [(1, .ref 0 0 0), (3, .v (.string b))] [.cells [.lst .i64 o.G, .lst .i64 o.F, .lst .i64 o.V, .lst .t69 o.Fs, .lst .t65 o.C, .v (.int .i64 o.Main)] false] 0
theorem rounds40a (lp : Lp U) {o : IRs} (h : PutOk o) : fnLoop X Ib an40 lp Try.f40 0 (o.Fs.length + 1) (g40_S0 o (headB o) 0) = some (.exit 0, Z40a o (fnsB o)) := by
  have hl := h.2.1.1
  unfold Sm at hl
  have hh := headB_size h
  refine fold_rounds (fnl := fnLoop X Ib an40 lp Try.f40 0) (fun b v => g40_S0 o b v) (fun b => ((.exit 0, Z40a o b) : Exit × TS U)) o.Fs (fun b v => (b.size : Int) ≤ 200000000 + 200000000 * v) fnS (fun N b v z hI h0 h1 hz => ?_) (fun N b v hI h1 => ?_) o.Fs.length _ 0 (by omega) (Int.le_refl _) (by omega)
  · have hk := h.2.2.1 z (getI_mem hz)
    have hs := fnB_size hk
    have s1 := textB_size hk.1
    have s2 := rowB_size hk.2
    have s3 := numB_size (u64_wrap z.Ret)
    have s4 := numB_size (u64_wrap z.First)
    have s5 := numB_size (u64_wrap z.Last)
    refine ⟨?_, ?_⟩
    · rw [g40_e0, decide_eq_true h1, hz, wrap_i64 (c := v + 1) (by omega) (by omega)]
      simp only [cond_true, Option.bind_some]
      rw [if_pos hk.1, if_pos hk.2, if_pos (by omega), if_pos (u64_wrap _), if_pos (by simp only [app_size]; omega), if_pos (u64_wrap _), if_pos (by simp only [app_size]; omega), if_pos (u64_wrap _), if_pos (by simp only [app_size]; omega)]
      exact if_pos (show b.size + (fnB z).size ≤ _ by omega)
    · unfold fnS
      rw [app_size]
      omega
  · rw [g40_e0, decide_eq_false h1]
    rfl
def Pre40 (o : IRs) (b : ByteArray) (n v : Int) : Prop := PutOk o ∧ n = o.Fs.length ∧ v = 0 ∧ b = headB o
instance (o : IRs) (b : ByteArray) (n v : Int) : Decidable (Pre40 o b n v) := by unfold Pre40; infer_instance
def dl40a (s : TS U) : Option (IRs × ByteArray × List R69 × Int × Int) := match told s 105 [1, 3, 31, 32, 33] 0, s.objs with
  | some [a0, a1, a2, a3, a4], [o0] =>
    match o0 with
    | .cells [q0, q1, q2, q3, q4, q5] false =>
      match q0 with
      | .lst .i64 o_G =>
        match q1 with
        | .lst .i64 o_F =>
          match q2 with
          | .lst .i64 o_V =>
            match q3 with
            | .lst .t69 o_Fs =>
              match q4 with
              | .lst .t65 o_C =>
                match q5 with
                | .v (.int .i64 o_Main) =>
                  match a0 with
                  | .ref 0 0 0 =>
                    match a1 with
                    | .v (.string b) =>
                      match a2 with
                      | .lst .t69 l =>
                        match a3 with
                        | .v (.int .i64 n) =>
                          match a4 with
                          | .v (.int .i64 v) =>
                            some ((⟨o_G, o_F, o_V, o_Fs, o_C, o_Main⟩ : IRs), b, l, n, v)
                          | _ => none
                        | _ => none
                      | _ => none
                    | _ => none
                  | _ => none
                | _ => none
              | _ => none
            | _ => none
          | _ => none
        | _ => none
      | _ => none
    | _ => none
  | _, _ => none
theorem dl40a_ok {s : TS U} {o : IRs} {b : ByteArray} {l : List R69} {n : Int} {v : Int} (h : dl40a s = some (o, b, l, n, v)) : s = mkS (U := U) 105 ([1, 3, 31, 32, 33].zip ([.ref 0 0 0, .v (.string b), .lst .t69 l, .v (.int .i64 n), .v (.int .i64 v)] : List (TV U))) ([o.ob] : List (TO U)) 0 := by
  unfold dl40a at h
  split at h <;> try (cases h; done)
  rename_i ht ho
  have hs := told_ok ht
  rw [ho] at hs
  repeat' split at h
  all_goals first | (cases h; done) | (cases h; exact hs)
def Pre40l (o : IRs) (b : ByteArray) (l : List R69) (n v : Int) : Prop := Pre40 o b n v ∧ l = o.Fs
deriving instance DecidableEq for R69, R65
instance (o : IRs) (b : ByteArray) (l : List R69) (n v : Int) : Decidable (Pre40l o b l n v) := by unfold Pre40l; infer_instance
def lc40a : LC U := .of dl40a (fun (o, b, l, n, v) => Pre40l o b l n v) (.exit 0) (fun (o, b, l, n, v) => Z40a o (fnsB o))
def insBG (zg : Int → Int) (z : R65) : ByteArray := rowB [z.Fn, z.At, z.Op, z.A, z.B, z.C, z.Do] ++ numB (zg z.N) ++ rowB z.Args
def insSG (zg : Int → Int) (b : ByteArray) (z : R65) : ByteArray := b ++ insBG zg z
def codeBG (zg : Int → Int) (b : ByteArray) (l : List R65) : ByteArray := l.foldl (insSG zg) b
def codeB : ByteArray → List R65 → ByteArray := codeBG zig
theorem zig_u (n : Int) : U64 (zig n) := u64_wrap _
theorem insB_size {zg : Int → Int} (zu : ∀ n, U64 (zg n)) {z : R65} (h : Sm z.Args.length) : (insBG zg z).size ≤ 200000000 := by
  have h1 := rowB_size (l := [z.Fn, z.At, z.Op, z.A, z.B, z.C, z.Do]) (by unfold Sm; show 7 ≤ _; decide)
  have h2 := rowB_size h
  have h3 := numB_size (zu z.N)
  unfold insBG
  simp only [app_size]
  omega
def S40b (l : List R65) (b : ByteArray) (v : Int) : TS U := mkS 105 [(3, .v (.string b)), (70, .lst .t65 l), (71, .v (.int .i64 (l.length : Int))), (72, .v (.int .i64 v))] [] 0
def Z40b (b : ByteArray) : TS U := mkS 105 [(3, .v (.string b))] [] 0
theorem r40b (zg : Int → Int) (lp : Lp U) (l : List R65) (N : Nat) (v0 : ByteArray) (v3 : Int) : fnLoop X (IbG zg) an40 lp Try.f40 2 N.succ (S40b l v0 v3) = bif decide (v3 < (l.length : Int)) then (getI l v3).bind fun (z : X.U.T C.t65) => if Sm 7 then if True then if U64 (zg z.N) then if (rowB [z.Fn, z.At, z.Op, z.A, z.B, z.C, z.Do]).size + (numB (zg z.N)).size ≤ 9223372036854775807 then if Sm z.Args.length then if (rowB [z.Fn, z.At, z.Op, z.A, z.B, z.C, z.Do] ++ numB (zg z.N)).size + (rowB z.Args).size ≤ 9223372036854775807 then if v0.size + (rowB [z.Fn, z.At, z.Op, z.A, z.B, z.C, z.Do] ++ numB (zg z.N) ++ rowB z.Args).size ≤ 9223372036854775807 then fnLoop X (IbG zg) an40 lp Try.f40 2 N (S40b l (v0 ++ (rowB [z.Fn, z.At, z.Op, z.A, z.B, z.C, z.Do] ++ numB (zg z.N) ++ rowB z.Args)) (IntKind.i64.wrap (v3 + 1))) else none else none else none else none else none else none else none else some (Exit.exit 2, Z40b v0) := by kernel_rfl
def Pre40b (l : List R65) (b : ByteArray) (n v : Int) : Prop := (Sm l.length ∧ ∀ z ∈ l, Sm z.Args.length) ∧ b.size ≤ 1000000000000000000 ∧ n = l.length ∧ v = 0
instance (l : List R65) (b : ByteArray) (n v : Int) : Decidable (Pre40b l b n v) := by unfold Pre40b; infer_instance
theorem rounds40b {zg : Int → Int} (zu : ∀ n, U64 (zg n)) (lp : Lp U) {l : List R65} {b0 : ByteArray} {n v : Int} (h : Pre40b l b0 n v) : fnLoop X (IbG zg) an40 lp Try.f40 2 (l.length + 1) (S40b l b0 0) = some (.exit 2, Z40b (codeBG zg b0 l)) := by
  have hl := h.1.1
  have hb := h.2.1
  unfold Sm at hl
  refine fold_rounds (fnl := fnLoop X (IbG zg) an40 lp Try.f40 2) (fun b v => S40b l b v) (fun b => ((.exit 2, Z40b b) : Exit × TS U)) l (fun b v => (b.size : Int) ≤ 1000000000000000000 + 200000000 * v) (insSG zg) (fun N b v z hI h0 h1 hz => ?_) (fun N b v hI h1 => ?_) l.length _ 0 (by omega) (Int.le_refl _) (by omega)
  · have hk := h.1.2 z (getI_mem hz)
    have hs := insB_size zu hk
    have s1 := rowB_size (l := [z.Fn, z.At, z.Op, z.A, z.B, z.C, z.Do]) (by unfold Sm; show 7 ≤ _; decide)
    have s2 := rowB_size hk
    have s3 := numB_size (zu z.N)
    refine ⟨?_, ?_⟩
    · rw [r40b, decide_eq_true h1, hz, wrap_i64 (c := v + 1) (by omega) (by omega)]
      simp only [cond_true, Option.bind_some]
      rw [if_pos (show Sm 7 from by unfold Sm; decide), if_pos trivial, if_pos (zu _), if_pos (by omega), if_pos hk, if_pos (by simp only [app_size]; omega)]
      exact if_pos (show b.size + (insBG zg z).size ≤ _ by omega)
    · unfold insSG
      rw [app_size]
      omega
  · rw [r40b, decide_eq_false h1]
    rfl
def dl40b (s : TS U) : Option (ByteArray × List R65 × Int × Int) := match told s 105 [3, 70, 71, 72] 0, s.objs with
  | some [a0, a1, a2, a3], [] =>
    match a0 with
    | .v (.string b) =>
      match a1 with
      | .lst .t65 l =>
        match a2 with
        | .v (.int .i64 n) =>
          match a3 with
          | .v (.int .i64 v) =>
            some (b, l, n, v)
          | _ => none
        | _ => none
      | _ => none
    | _ => none
  | _, _ => none
theorem dl40b_ok {s : TS U} {b : ByteArray} {l : List R65} {n : Int} {v : Int} (h : dl40b s = some (b, l, n, v)) : s = mkS (U := U) 105 ([3, 70, 71, 72].zip ([.v (.string b), .lst .t65 l, .v (.int .i64 n), .v (.int .i64 v)] : List (TV U))) ([] : List (TO U)) 0 := by
  unfold dl40b at h
  split at h <;> try (cases h; done)
  rename_i ht ho
  have hs := told_ok ht
  rw [ho] at hs
  repeat' split at h
  all_goals first | (cases h; done) | (cases h; exact hs)
def lc40b : LC U := .of dl40b (fun (b, l, n, v) => Pre40b l b n v) (.exit 2) (fun (b, l, n, v) => Z40b (codeB b l))
def lp40 : Lp U := lpL [(0, lc40a), (2, lc40b)]
theorem lp40_ok : ∀ c, Try.f40.body = some c → LpOk X Ib an40 lp40 (loops c 0) := lpL_ok (by kernel_rfl) fun b L hm st p hs => by
  cases hm with
  | head =>
    obtain ⟨⟨o, b, l, n, v⟩, hx, ⟨⟨h1, rfl, rfl, rfl⟩, rfl⟩, rfl⟩ := LC.of_some hs
    obtain rfl := dl40a_ok hx
    exact ⟨_, rounds40a _ h1⟩
  | tail _ hm => cases hm with
    | head =>
      obtain ⟨⟨b, l, n, v⟩, hx, h, rfl⟩ := LC.of_some hs
      obtain rfl := dl40b_ok hx
      obtain ⟨h1, h2, rfl, rfl⟩ := h
      exact ⟨_, rounds40b zig_u (lpL [(0, lc40a), (2, lc40b)]) (n := l.length) (v := 0) ⟨h1, h2, rfl, rfl⟩⟩
    | tail _ h => cases h
def putB (o : IRs) : ByteArray := codeB (fnsB o ++ numB (IntKind.u64.wrap (o.C.length : Int))) o.C
theorem e40 (o : IRs) : (evFn X Ib an40 lp40 Try.f40 [] [irV o] fun (o : List (TO X.U)) (v : TV X.U) => some (o, v)) = if Sm o.G.length then if Sm o.F.length then if (rowB o.G).size + (rowB o.F).size ≤ 9223372036854775807 then if Sm o.V.length then if (rowB o.G ++ rowB o.F).size + (rowB o.V).size ≤ 9223372036854775807 then if U64 (IntKind.u64.wrap o.Main) then if (rowB o.G ++ rowB o.F ++ rowB o.V).size + (numB (IntKind.u64.wrap o.Main)).size ≤ 9223372036854775807 then if U64 (IntKind.u64.wrap (↑o.Fs.length : Int)) then if (rowB o.G ++ rowB o.F ++ rowB o.V ++ numB (IntKind.u64.wrap o.Main)).size + (numB (IntKind.u64.wrap (↑o.Fs.length : Int))).size ≤ 9223372036854775807 then if Pre40l o (rowB o.G ++ rowB o.F ++ rowB o.V ++ numB (IntKind.u64.wrap o.Main) ++ numB (IntKind.u64.wrap (↑o.Fs.length : Int))) o.Fs (↑o.Fs.length : Int) 0 then if U64 (IntKind.u64.wrap (↑o.C.length : Int)) then if (fnsB o).size + (numB (IntKind.u64.wrap (↑o.C.length : Int))).size ≤ 9223372036854775807 then if Pre40b o.C (fnsB o ++ numB (IntKind.u64.wrap (↑o.C.length : Int))) (↑o.C.length : Int) 0 then some ([], TV.v (Value.string (codeB (fnsB o ++ numB (IntKind.u64.wrap (↑o.C.length : Int))) o.C))) else none else none else none else none else none else none else none else none else none else none else none else none else none := by kernel_rfl
def dIr (objs : List (TO U)) (args : List (TV U)) : Option (IRs) := match objs, args with
  | [], [a0] =>
    match a0 with
    | .agg [q0, q1, q2, q3, q4, q5] =>
      match q0 with
      | .lst .i64 o_G =>
        match q1 with
        | .lst .i64 o_F =>
          match q2 with
          | .lst .i64 o_V =>
            match q3 with
            | .lst .t69 o_Fs =>
              match q4 with
              | .lst .t65 o_C =>
                match q5 with
                | .v (.int .i64 o_Main) =>
                  some (⟨o_G, o_F, o_V, o_Fs, o_C, o_Main⟩ : IRs)
                | _ => none
              | _ => none
            | _ => none
          | _ => none
        | _ => none
      | _ => none
    | _ => none
  | _, _ => none
theorem dIr_ok {objs : List (TO U)} {args : List (TV U)} {o : IRs} (h : dIr objs args = some o) : objs = [] ∧ args = [o.tv] := by
  unfold dIr at h
  repeat' split at h
  all_goals first | (cases h; done) | (cases h; exact ⟨rfl, rfl⟩)
theorem fnsB_size {o : IRs} (h : PutOk o) : (fnsB o).size ≤ 900000000000000 := by
  have key : ∀ (l : List R69) (b : ByteArray), (∀ z ∈ l, FnOk z) → (l.foldl fnS b).size ≤ b.size + 200000000 * l.length := by
    intro l
    induction l with
    | nil => intro b _; exact Nat.le_refl _
    | cons x l ih =>
      intro b hb
      have h1 := ih (fnS b x) fun z hz => hb z (.tail _ hz)
      have h2 := fnB_size (hb x (.head _))
      have h3 : (fnS b x).size = b.size + (fnB x).size := app_size _ _
      rw [List.foldl_cons, List.length_cons]
      omega
  have h1 := key o.Fs (headB o) h.2.2.1
  have h2 := headB_size h
  have h3 := h.2.1.1
  unfold Sm at h3
  unfold fnsB
  omega
def sPut : Spc U := .of dIr PutOk (fun _ => []) fun o => .v (.string (putB o))
theorem sPut_ok : SpecOk Try.prog 40 sPut := by
  refine fn_ok X_ok mixed Ib_ok an40 lp40 Try.func40 (by kernel_rfl) (by kernel_rfl) lp40_ok fun objs args o hx hp => ?_
  obtain ⟨rfl, rfl⟩ := dIr_ok hx
  dsimp only
  refine (e40 o).trans ?_
  have h1 := rowB_size hp.1.1
  have h2 := rowB_size hp.1.2.1
  have h3 := rowB_size hp.1.2.2
  have h4 := numB_size (u64_wrap o.Main)
  have h5 := numB_size (u64_wrap (o.Fs.length : Int))
  have h6 := numB_size (u64_wrap (o.C.length : Int))
  have h7 := fnsB_size hp
  rw [if_pos hp.1.1, if_pos hp.1.2.1, if_pos (by omega), if_pos hp.1.2.2, if_pos (by simp only [app_size]; omega), if_pos (u64_wrap _), if_pos (by simp only [app_size]; omega), if_pos (u64_wrap _), if_pos (by simp only [app_size]; omega),
    if_pos (show Pre40l o (rowB o.G ++ rowB o.F ++ rowB o.V ++ numB (IntKind.u64.wrap o.Main) ++ numB (IntKind.u64.wrap (o.Fs.length : Int))) o.Fs o.Fs.length 0 from ⟨⟨hp, rfl, rfl, rfl⟩, rfl⟩), if_pos (u64_wrap _), if_pos (by omega)]
  exact if_pos ⟨⟨hp.2.1.2, hp.2.2.2⟩, by simp only [app_size]; omega, rfl, rfl⟩
end Go.Proofs.Ytpkgikchphgfaaa.Ic

/- Texts of this claim, put together: part 18. -/
import Derived.Test.YtpkgikchphgfaaaMcK
import Derived.Test.YtpkgikchphgfaaaMcL
import Derived.Test.YtpkgikchphgfaaaMcM
import Derived.Test.YtpkgikchphgfaaaMcN
import Derived.Test.YtpkgikchphgfaaaMcO
import Derived.Test.YtpkgikchphgfaaaMcP
import Derived.Test.YtpkgikchphgfaaaMcQ
/- The references' instructions: of a program, put together. -/
namespace Go.Proofs.Ytpkgikchphgfaaa.Fl
open Go Go.RowKit Go.Proofs.Ytpkgikchphgfaaa.Eng
set_option linter.unusedVariables false
set_option linter.unusedSimpArgs false
set_option maxRecDepth 20000
noncomputable def run36 (l : List (Nat × LC U)) (b : Nat) : Nat × LC U := (b, LC.run X Ez an36 l Try.f29 b)
noncomputable def in36 : List (Nat × LC U) := [run36 [] 6, run36 [] 8]
noncomputable def all36 : List (Nat × LC U) := [run36 [] 0, run36 [] 2, run36 in36 4, run36 [] 6, run36 [] 8]
def st6 (k : Int) (ps : List Int) (i : Int) : List Int := ps ++ [IntKind.i64.wrap (k + i)]
theorem rounds6 (l : List (Nat × LC U)) (t : TR) (o : IRs) (v : Int) (z : R90) (b : BS) (f : Int) (hz : z.Params.length ≤ 3000000) : fnLoop X Ez an36 (lpL l) Try.f29 6 (z.Params.length + 1) (S36c t o v z b [] f [(10, .v (.int .i64 0))]) = some (.exit 6, S36c t o v z b (ixL z.Params.length (st6 o.V.length) (z.Params.length + 1) [] 0) f []) :=
  ixL_rounds (fnl := fun n st => fnLoop X Ez an36 (lpL l) Try.f29 6 n st) (fun ps i => S36c t o v z b ps f [(10, .v (.int .i64 i))]) (fun ps => (.exit 6, S36c t o v z b ps f [])) (len := z.Params.length) (step := st6 o.V.length) (fun ps i => (ps.length : Int) = i) (fun ps i N hp h0 h1 => by
    have hw : IntKind.i64.wrap (i + 1) = i + 1 := wrap_i64 (by omega) (by omega)
    have hl : (ps.length + 1) * 8 ≤ 140737488355328 := by omega
    refine ⟨?_, by unfold st6; rw [List.length_append]; simp only [List.length_singleton]; omega⟩
    dsimp only
    rw [r6, decide_eq_true h1, hw, cond_true, if_pos hl]
    rfl) (fun ps i N _ h0 h1 => by dsimp only; rw [r6, decide_eq_false h1]; rfl) z.Params.length [] 0 (Int.le_refl 0) (by omega) rfl
def parI (o : IRs) (z : R90) : List Int := ixL z.Params.length (st6 o.V.length) (z.Params.length + 1) [] 0
def IRs.addV (o : IRs) (w : List Int) : IRs := ⟨o.G, o.F, o.V ++ w, o.Fs, o.C, o.Main⟩
def st8 (w : List Int) (d : R82) : List Int := w ++ [d.Type_]
theorem fold8 : ∀ (l : List R82) (w : List Int), l.foldl st8 w = w ++ l.map R82.Type_
  | [], w => by simp
  | d :: l, w => by rw [List.foldl_cons, fold8 l]; simp [st8]
theorem rounds8 (l : List (Nat × LC U)) (t : TR) (o : IRs) (v : Int) (z : R90) (b : BS) (ps : List Int) (f : Int) (hb : b.V.length ≤ 3000000) (ho : o.V.length + b.V.length ≤ 300000000) : fnLoop X Ez an36 (lpL l) Try.f29 8 (b.V.length + 1) (S36c t o v z b ps f [(11, .v (.int .i64 0))]) = some (.exit 8, S36c t (o.addV (b.V.map R82.Type_)) v z b ps f []) := by
  obtain ⟨g, fl, w, fs, c, m⟩ := o
  have h := ixL_rounds (fnl := fun n st => fnLoop X Ez an36 (lpL l) Try.f29 8 n st) (fun w i => S36c t ⟨g, fl, w, fs, c, m⟩ v z b ps f [(11, .v (.int .i64 i))]) (fun w => (.exit 8, S36c t ⟨g, fl, w, fs, c, m⟩ v z b ps f [])) (len := b.V.length) (step := stepI b.V st8) (fun w' i => (w'.length : Int) = w.length + i) (fun w' i N hp h0 h1 => by
    obtain ⟨d, hd, _⟩ := getI_lt h0 h1
    have hw : IntKind.i64.wrap (i + 1) = i + 1 := wrap_i64 (by omega) (by omega)
    have hl : (w'.length + 1) * 8 ≤ 140737488355328 := by dsimp only at ho; omega
    have hst : stepI b.V st8 w' i = w' ++ [d.Type_] := by unfold stepI; rw [hd]; rfl
    rw [hst]
    refine ⟨?_, by rw [List.length_append]; simp only [List.length_singleton]; omega⟩
    dsimp only
    rw [r8, decide_eq_true h1, hd, hw, cond_true, Option.bind_some, if_pos hl]) (fun w' i N _ h0 h1 => by dsimp only; rw [r8, decide_eq_false h1]; rfl) b.V.length w 0 (Int.le_refl 0) (by omega) (by omega)
  rw [ixL_all, fold8] at h
  exact h
/-- A function's instructions. -/
def codI (t : TR) (o : IRs) (v : Int) (z : R90) : List R65 := (lb1 t o v z).C
theorem codI_ne (t : TR) (o : IRs) (v : Int) (z : R90) : ∃ y ys, codI t o v z = y :: ys := by
  unfold codI lb1 BS.put
  cases h : [] ++ (blL z.Body (lb0 t o v z)).C ++ [⟨(blL z.Body (lb0 t o v z)).Fn, z.At, 16, -1, 0, 0, 0, 0, []⟩] with
  | nil => simp at h
  | cons y ys => exact ⟨y, ys, h⟩
/-- With one function more. -/
def lwF (t : TR) (o : IRs) (v : Int) (z : R90) : IRs := ⟨o.G, o.F, o.V ++ ([] ++ z.Params ++ z.Vars).map R82.Type_, o.Fs ++ [⟨z.Name, parI o z, z.Ret, o.C.length, (o.C ++ codI t o v z).length⟩], o.C ++ codI t o v z, cond (z.Name.toList == bMain.toList) v o.Main⟩
/-- Not too much so far. -/
def IrB (t : TR) (o : IRs) (l : List R90) : Prop := o.V.length + fnsW l ≤ 1000000 ∧ o.C.length + 3 * fnsW l ≤ 3000000 ∧ o.Fs.length + fnsW l ≤ 1000000
theorem lb1_V (t : TR) (o : IRs) (v : Int) (z : R90) : (lb1 t o v z).V = [] ++ z.Params ++ z.Vars := by
  have h := (blL_lk z.Body (lb0 t o v z)).trans (BS.Lk.put _ z.At (ins3 16 (-1) 0 0 0 0))
  obtain ⟨C, hC, _⟩ := h
  have : lb1 t o v z = { lb0 t o v z with C := C } := hC
  rw [this]
  rfl
theorem round4 {R : Type} {K : Exit → TS U → Option R} {t : TR} (ht : TrOk t) {o : IRs} {v : Int} {z : R90} (h0 : 0 ≤ v) (h1 : v < t.N.length) (hz : getI t.N v = some z) {r : List R90} (ho : IrB t o (z :: r)) (hw : fnW z ≤ 1000000) :
    evC X Ez an36 (lpL in36) L4 4 (S36 t o 6 v) K = K .normal (S36 t (lwF t o v z) 6 (IntKind.i64.wrap (v + 1))) ∧ IrB t (lwF t o v z) r := by
  obtain ⟨b1, b2, b3⟩ := ho
  rw [fnsW] at b1 b2 b3
  have hfw : fnW z = 1 + (z.Params.length + (z.Vars.length + cntL z.Body)) := rfl
  have hn := fnsW_len t.N
  obtain ⟨t1, t2, t3⟩ := ht
  have hV : ([] ++ z.Params ++ z.Vars).length = z.Params.length + z.Vars.length := by simp
  have hb0 : BSz (lb0 t o v z) := ⟨by show _ ≤ _; unfold lb0; dsimp only; omega, by show _ ≤ _; unfold lb0; dsimp only; omega, by show _ ≤ _; unfold lb0; dsimp only; omega, by show _ ≤ _; unfold lb0; dsimp only; omega⟩
  have k1 := blL_lk z.Body (lb0 t o v z)
  have k1l := k1.len
  have hc0 : (lb0 t o v z).C.length = 0 := rfl
  have k2 := (k1.trans (BS.Lk.put _ z.At (ins3 16 (-1) 0 0 0 0))).len
  have k3 : (codI t o v z).length ≤ 2 * cntL z.Body + 1 := by show (lb1 t o v z).C.length ≤ _; unfold lb1; omega
  have l1 : (0 + z.Params.length) * 32 ≤ 140737488355328 := by omega
  have l2 : (([] ++ z.Params).length + z.Vars.length) * 32 ≤ 140737488355328 := by rw [List.nil_append]; omega
  have l3 : PreBl (lb0 t o v z) (cntL z.Body) := ⟨hb0, by omega⟩
  have l4 : Sn (blL z.Body (lb0 t o v z)).C.length := by show _ ≤ _; omega
  have hbV : (lb1 t o v z).V.length = z.Params.length + z.Vars.length := by rw [lb1_V, hV]
  refine ⟨?_, ?_⟩
  · rw [hL4, evC_seq]
    obtain ⟨g, fl, w, fs, c, m⟩ := o
    rw [q0, decide_eq_true h1, cond_true]
    dsimp only
    rw [evC_seq, evC_block, q1, hz, Option.bind_some, if_pos l1, if_pos l2, if_pos l3, if_pos l4, hC16, evC_seq, evC_seq, q2]
    dsimp only
    rw [evC_block, evC_loop, n6]
    dsimp only
    have e6 : ∀ (K : Exit → TS U → Option R), (lpL in36).F 6 (S36c t ⟨g, fl, w, fs, c, m⟩ v z (lb1 t ⟨g, fl, w, fs, c, m⟩ v z) [] c.length [(10, .v (.int .i64 0))]) K = K (.exit 6) (S36c t ⟨g, fl, w, fs, c, m⟩ v z (lb1 t ⟨g, fl, w, fs, c, m⟩ v z) (parI ⟨g, fl, w, fs, c, m⟩ z) c.length []) := fun K =>
      run_F (X := X) Ez_ok (rounds6 [] t ⟨g, fl, w, fs, c, m⟩ v z _ _ (by omega)) K
    rw [e6]
    dsimp only
    rw [evC_seq, evC_seq, q4]
    dsimp only
    rw [evC_block, evC_loop, n8]
    dsimp only
    have e8 : ∀ (K : Exit → TS U → Option R), (lpL in36).F 8 (S36c t ⟨g, fl, w, fs, c, m⟩ v z (lb1 t ⟨g, fl, w, fs, c, m⟩ v z) (parI ⟨g, fl, w, fs, c, m⟩ z) c.length [(11, .v (.int .i64 0))]) K = K (.exit 8) (S36c t (IRs.addV ⟨g, fl, w, fs, c, m⟩ ((lb1 t ⟨g, fl, w, fs, c, m⟩ v z).V.map R82.Type_)) v z (lb1 t ⟨g, fl, w, fs, c, m⟩ v z) (parI ⟨g, fl, w, fs, c, m⟩ z) c.length []) := fun K =>
      run_F (X := X) Ez_ok (rounds8 [] t ⟨g, fl, w, fs, c, m⟩ v z _ _ _ (by omega) (by dsimp only at b1 ⊢; omega)) K
    rw [e8]
    dsimp only
    have hbq : lb1 t ⟨g, fl, w, fs, c, m⟩ v z = ⟨(lb1 t ⟨g, fl, w, fs, c, m⟩ v z).G, (lb1 t ⟨g, fl, w, fs, c, m⟩ v z).F, (lb1 t ⟨g, fl, w, fs, c, m⟩ v z).N, (lb1 t ⟨g, fl, w, fs, c, m⟩ v z).Fn, (lb1 t ⟨g, fl, w, fs, c, m⟩ v z).V, (lb1 t ⟨g, fl, w, fs, c, m⟩ v z).Base, (lb1 t ⟨g, fl, w, fs, c, m⟩ v z).First, codI t ⟨g, fl, w, fs, c, m⟩ v z⟩ := rfl
    obtain ⟨y, ys, hy⟩ := codI_ne t ⟨g, fl, w, fs, c, m⟩ v z
    rw [hy] at k3
    have hlw : lwF t ⟨g, fl, w, fs, c, m⟩ v z = ⟨g, fl, w ++ ([] ++ z.Params ++ z.Vars).map R82.Type_, fs ++ [⟨z.Name, parI ⟨g, fl, w, fs, c, m⟩ z, z.Ret, c.length, (c ++ y :: ys).length⟩], c ++ y :: ys, cond (z.Name.toList == bMain.toList) v m⟩ := by unfold lwF; rw [hy]
    rw [lb1_V, hbq, hy, hC25, evC_seq]
    unfold IRs.addV
    dsimp only at b1 b2 b3 ⊢
    rw [u5 _ _ _ _ _ _ _ _ _ _ _ _ _ _ _ _ _ _ _ _ _ _ _ (by omega)]
    dsimp only
    rw [evC_seq, q6]
    dsimp only
    rw [evC_seq, q7, if_pos (by omega)]
    dsimp only
    rw [q8, hlw]
    cases z.Name.toList == bMain.toList with
    | true => simp only [cond_true]; rw [q9]
    | false => simp only [cond_false]; rw [q9']
  · refine ⟨?_, ?_, ?_⟩
    · show (o.V ++ ([] ++ z.Params ++ z.Vars).map R82.Type_).length + _ ≤ _
      rw [List.length_append, List.length_map, hV]
      omega
    · show (o.C ++ codI t o v z).length + _ ≤ _
      rw [List.length_append]
      omega
    · show (o.Fs ++ [_]).length + _ ≤ _
      rw [List.length_append]
      simp only [List.length_singleton]
      omega
end Go.Proofs.Ytpkgikchphgfaaa.Fl

/- The references' instructions: of a program, the whole. -/
namespace Go.Proofs.Ytpkgikchphgfaaa.Fl
open Go Go.RowKit Go.Proofs.Ytpkgikchphgfaaa.Eng
set_option linter.unusedVariables false
set_option linter.unusedSimpArgs false
set_option maxRecDepth 20000
noncomputable def D0 : Code := match Try.f29.body with
  | some c => c
  | none => .skip
noncomputable def D5 : Code := sR (sR (sR (sR (sR D0))))
theorem hD0 : D0 = .seq (sL D0) (.seq (sL (sR D0)) (.seq (.seq (sL (sL (sR (sR D0)))) (.block 0 (.loop (loopAt Try.f29 0)))) (.seq (.seq (sL (sL (sR (sR (sR D0))))) (.block 2 (.loop (loopAt Try.f29 2)))) (.seq (.seq (sL (sL (sR (sR (sR (sR D0)))))) (.block 4 (.loop (loopAt Try.f29 4)))) D5)))) := by kernel_rfl
def wkIR : Lw U := .a [.l .i64, .l .i64, .l .i64, .l .t69, .l .t65, .no]
def irV (o : IRs) : TV U := .agg [.lst .i64 o.G, .lst .i64 o.F, .lst .i64 o.V, .lst .t69 o.Fs, .lst .t65 o.C, .v (.int .i64 o.Main)]
noncomputable def K36 : Exit → TS U → Option (List (TO U) × TV U) := fun ex s => match ex with
  | .ret => evFin X an36 Try.f29.results.toList s fun o v => some (o, wkIR.f v)
  | .normal => evFin X an36 Try.f29.results.toList s fun o v => some (o, wkIR.f v)
  | _ => none
theorem w00 (lp : Lp U) (t : TR) : evFn X Ez an36 lp Try.f29 [] [t.tv] (fun o v => some (o, wkIR.f v)) = evC X Ez an36 lp D0 0 (mkS 150 [(0, t.tv)] [] 0) K36 := by kernel_rfl
def sA (t : TR) (l : List (Nat × TV U)) : TS U := mkS 150 ([(0, t.tv), (1, .ref 0 0 0), (2, .ref 1 0 0), (3, .ref 2 0 0)] ++ l ++ [(12, .agg [nl, nl, nl, nl, nl, .v (.int .i64 0)])]) [t.ob, z26, z26] 0
theorem w0 (lp : Lp U) (R : Type) (K : Exit → TS U → Option R) (t : TR) (c : Code) : evC X Ez an36 lp (.seq (sL D0) (.seq (sL (sR D0)) c)) 0 (mkS 150 [(0, t.tv)] [] 0) K = evC X Ez an36 lp c 0 (sA t []) K := by kernel_rfl
theorem w2 (lp : Lp U) (R : Type) (K : Exit → TS U → Option R) (t : TR) : evC X Ez an36 lp (sL (sL (sR (sR D0)))) 0 (sA t []) K = K .normal (sA t [(4, .v (.int .i64 0))]) := by kernel_rfl
theorem n0 (t : TR) : evNorm (X := X) (an36.live 0) (sA t [(4, .v (.int .i64 0))]) = some (S36 t ⟨[], [], [], [], [], 0⟩ 4 0) := by kernel_rfl
theorem w6 (lp : Lp U) (R : Type) (K : Exit → TS U → Option R) (t : TR) (g : List Int) : evC X Ez an36 lp (sL (sL (sR (sR (sR D0))))) 0 (E36 t ⟨g, [], [], [], [], 0⟩) K = K .normal (S36 t ⟨g, [], [], [], [], 0⟩ 5 0) := by cases g <;> kernel_rfl
theorem n2 (t : TR) (g : List Int) : evNorm (X := X) (an36.live 2) (S36 t ⟨g, [], [], [], [], 0⟩ 5 0) = some (S36 t ⟨g, [], [], [], [], 0⟩ 5 0) := by cases g <;> kernel_rfl
theorem w10 (lp : Lp U) (R : Type) (K : Exit → TS U → Option R) (t : TR) (g f : List Int) : evC X Ez an36 lp (sL (sL (sR (sR (sR (sR D0)))))) 0 (E36 t ⟨g, f, [], [], [], 0⟩) K = K .normal (S36 t ⟨g, f, [], [], [], 0⟩ 6 0) := by cases g <;> cases f <;> kernel_rfl
theorem n4 (t : TR) (g fl w : List Int) (fs : List R69) (c : List R65) (m v : Int) : evNorm (X := X) (an36.live 4) (S36 t ⟨g, fl, w, fs, c, m⟩ 6 v) = some (S36 t ⟨g, fl, w, fs, c, m⟩ 6 v) := by
  cases g <;> cases fl <;> cases w <;> cases fs <;> cases c <;> kernel_rfl
theorem n4' (t : TR) (g fl w : List Int) (fs : List R69) (c : List R65) (m v : Int) : evNorm (X := X) (an36.out 4) (S36h t ⟨g, fl, w, fs, c, m⟩ v false) = some (E36' ⟨g, fl, w, fs, c, m⟩) := by
  cases g <;> cases fl <;> cases w <;> cases fs <;> cases c <;> kernel_rfl
theorem w30 (lp : Lp U) (g fl w : List Int) (fs : List R69) (c : List R65) (m : Int) : evC X Ez an36 lp D5 0 (E36' ⟨g, fl, w, fs, c, m⟩) K36 = some ([], irV ⟨g, fl, w, fs, c, m⟩) := by
  cases g <;> cases fl <;> cases w <;> cases fs <;> cases c <;> kernel_rfl
end Go.Proofs.Ytpkgikchphgfaaa.Fl

/- The references' instructions: of a program, proved. -/
namespace Go.Proofs.Ytpkgikchphgfaaa.Fl
open Go Go.RowKit Go.Proofs.Ytpkgikchphgfaaa.Eng
set_option linter.unusedVariables false
set_option linter.unusedSimpArgs false
set_option maxRecDepth 20000
theorem rounds36a (l : List (Nat × LC U)) (t : TR) (ht : t.G.length ≤ 1000000) : fnLoop X Ez an36 (lpL l) Try.f29 0 (t.G.length + 1) (S36 t ⟨[], [], [], [], [], 0⟩ 4 0) = some (.exit 0, E36 t ⟨t.G.map R82.Type_, [], [], [], [], 0⟩) := by
  have h := ixL_rounds (fnl := fun n st => fnLoop X Ez an36 (lpL l) Try.f29 0 n st) (fun g v => S36 t ⟨g, [], [], [], [], 0⟩ 4 v) (fun g => (.exit 0, E36 t ⟨g, [], [], [], [], 0⟩)) (len := t.G.length) (step := stepI t.G st8) (fun g v => (g.length : Int) = v) (fun g v N hp h0 h1 => by
    obtain ⟨d, hd, _⟩ := getI_lt h0 h1
    have hw : IntKind.i64.wrap (v + 1) = v + 1 := wrap_i64 (by omega) (by omega)
    have hl : (g.length + 1) * 8 ≤ 140737488355328 := by omega
    have hst : stepI t.G st8 g v = g ++ [d.Type_] := by unfold stepI; rw [hd]; rfl
    rw [hst]
    refine ⟨?_, by rw [List.length_append]; simp only [List.length_singleton]; omega⟩
    dsimp only
    rw [r36a, decide_eq_true h1, hd, hw, cond_true, Option.bind_some, if_pos hl]) (fun g v N _ h0 h1 => by dsimp only; rw [r36a, decide_eq_false h1]; rfl) t.G.length [] 0 (Int.le_refl 0) (by omega) rfl
  rw [ixL_all, fold8, List.nil_append] at h
  exact h
theorem rounds36b (l : List (Nat × LC U)) (t : TR) (g : List Int) (ht : t.F.length ≤ 1000000) : fnLoop X Ez an36 (lpL l) Try.f29 2 (t.F.length + 1) (S36 t ⟨g, [], [], [], [], 0⟩ 5 0) = some (.exit 2, E36 t ⟨g, t.F.map R82.Type_, [], [], [], 0⟩) := by
  have h := ixL_rounds (fnl := fun n st => fnLoop X Ez an36 (lpL l) Try.f29 2 n st) (fun f v => S36 t ⟨g, f, [], [], [], 0⟩ 5 v) (fun f => (.exit 2, E36 t ⟨g, f, [], [], [], 0⟩)) (len := t.F.length) (step := stepI t.F st8) (fun f v => (f.length : Int) = v) (fun f v N hp h0 h1 => by
    obtain ⟨d, hd, _⟩ := getI_lt h0 h1
    have hw : IntKind.i64.wrap (v + 1) = v + 1 := wrap_i64 (by omega) (by omega)
    have hl : (f.length + 1) * 8 ≤ 140737488355328 := by omega
    have hst : stepI t.F st8 f v = f ++ [d.Type_] := by unfold stepI; rw [hd]; rfl
    rw [hst]
    refine ⟨?_, by rw [List.length_append]; simp only [List.length_singleton]; omega⟩
    dsimp only
    rw [r36b, decide_eq_true h1, hd, hw, cond_true, Option.bind_some, if_pos hl]) (fun f v N _ h0 h1 => by dsimp only; rw [r36b, decide_eq_false h1]; rfl) t.F.length [] 0 (Int.le_refl 0) (by omega) rfl
  rw [ixL_all, fold8, List.nil_append] at h
  exact h
/-- With all functions. -/
def lwL (t : TR) : List R90 → IRs → Int → IRs
  | [], o, _ => o
  | z :: r, o, v => lwL t r (lwF t o v z) (v + 1)
theorem rounds36c {t : TR} (ht : TrOk t) : ∀ (r : List R90) (o : IRs) (v : Int), 0 ≤ v → t.N.drop v.toNat = r → IrB t o r → fnLoop X Ez an36 (lpL in36) Try.f29 4 (r.length + 1) (S36 t o 6 v) = some (.exit 4, E36' (lwL t r o v))
  | [], o, v, h0, hr, ho => by
    have hlen : ¬ v < (t.N.length : Int) := by
      have := congrArg List.length hr
      rw [List.length_drop, List.length_nil] at this
      omega
    obtain ⟨g, fl, w, fs, c, m⟩ := o
    show fnLoop X Ez an36 (lpL in36) Try.f29 4 1 _ = _
    rw [fnLoop_succ]
    show evC X Ez an36 (lpL in36) L4 4 _ _ = _
    rw [hL4, evC_seq, q0, decide_eq_false hlen, cond_false]
    dsimp only
    rw [n4']
    rfl
  | z :: r, o, v, h0, hr, ho => by
    have hlen : v < (t.N.length : Int) := by
      have := congrArg List.length hr
      rw [List.length_drop, List.length_cons] at this
      omega
    have hx : t.N[v.toNat]? = some t.N[v.toNat] := List.getElem?_eq_getElem (by omega)
    have hd : t.N.drop v.toNat = t.N[v.toNat] :: t.N.drop (v.toNat + 1) := List.drop_eq_getElem_cons (by omega)
    rw [hd] at hr
    injection hr with hz hr
    have hg : getI t.N v = some z := by unfold getI; rw [if_pos h0, hx, hz]
    have hfw : fnW z ≤ 1000000 := by
      have := fnsW_at t.N v.toNat z (by rw [hx, hz])
      have := ht.2.2
      omega
    have hw : IntKind.i64.wrap (v + 1) = v + 1 := wrap_i64 (by omega) (by have := fnsW_len t.N; have := ht.2.2; omega)
    rw [List.length_cons, fnLoop_succ]
    show evC X Ez an36 (lpL in36) L4 4 _ _ = _
    generalize hK : (fun (ex : Exit) (s' : TS X.U) => _ : Exit → TS X.U → Option (Exit × TS X.U)) = K1
    obtain ⟨he, hb⟩ := round4 (K := K1) ht h0 hlen hg ho hfw
    rw [he, ← hK, hw]
    dsimp only
    have hn := fun (o : IRs) => n4 t o.G o.F o.V o.Fs o.C o.Main (v + 1)
    rw [hn (lwF t o v z)]
    dsimp only
    rw [lwL]
    exact rounds36c ht r _ (v + 1) (by omega) (by rw [show (v + 1).toNat = v.toNat + 1 by omega]; exact hr) hb
/-- A program as instructions. -/
def lower (t : TR) : IRs := lwL t t.N ⟨t.G.map R82.Type_, t.F.map R82.Type_, [], [], [], 0⟩ 0
theorem e36 {t : TR} (ht : TrOk t) : evFn X Ez an36 (lpL all36) Try.f29 [] [t.tv] (fun o v => some (o, wkIR.f v)) = some ([], irV (lower t)) := by
  have e0 : ∀ (K : Exit → TS U → Option (List (TO U) × TV U)), (lpL all36).F 0 (S36 t ⟨[], [], [], [], [], 0⟩ 4 0) K = K (.exit 0) (E36 t ⟨t.G.map R82.Type_, [], [], [], [], 0⟩) := fun K => run_F (X := X) Ez_ok (rounds36a [] t ht.1) K
  have e2 : ∀ (g : List Int) (K : Exit → TS U → Option (List (TO U) × TV U)), (lpL all36).F 2 (S36 t ⟨g, [], [], [], [], 0⟩ 5 0) K = K (.exit 2) (E36 t ⟨g, t.F.map R82.Type_, [], [], [], 0⟩) := fun g K => run_F (X := X) Ez_ok (rounds36b [] t g ht.2.1) K
  have hb : IrB t ⟨t.G.map R82.Type_, t.F.map R82.Type_, [], [], [], 0⟩ t.N := by
    have := ht.2.2
    exact ⟨by show 0 + _ ≤ _; omega, by show 0 + _ ≤ _; omega, by show 0 + _ ≤ _; omega⟩
  have e4 : ∀ (K : Exit → TS U → Option (List (TO U) × TV U)), (lpL all36).F 4 (S36 t ⟨t.G.map R82.Type_, t.F.map R82.Type_, [], [], [], 0⟩ 6 0) K = K (.exit 4) (E36' (lower t)) := fun K => run_F (X := X) Ez_ok (rounds36c ht t.N _ 0 (Int.le_refl 0) rfl hb) K
  rw [w00, hD0, w0, evC_seq, evC_seq, w2]
  dsimp only
  rw [evC_block, evC_loop, n0]
  dsimp only
  rw [e0]
  dsimp only
  rw [evC_seq, evC_seq, w6]
  dsimp only
  rw [evC_block, evC_loop, n2]
  dsimp only
  rw [e2]
  dsimp only
  rw [evC_seq, evC_seq, w10]
  dsimp only
  rw [evC_block, evC_loop, n4]
  dsimp only
  rw [e4]
  dsimp only
  exact w30 _ (lower t).G (lower t).F (lower t).V (lower t).Fs (lower t).C (lower t).Main
theorem lp36_ok : ∀ c, Try.f29.body = some c → LpOk X Ez an36 (lpL all36) (loops c 0) := lpL_ok (by kernel_rfl) fun b L hm st p hs => by
  cases hm with
  | head => exact run_ok (ag_of (bs := []) (by kernel_rfl) fun i hi => by cases hi) hs
  | tail _ hm => cases hm with
    | head => exact run_ok (ag_of (bs := []) (by kernel_rfl) fun i hi => by cases hi) hs
    | tail _ hm => cases hm with
      | head => exact run_ok (ag_of (bs := [6, 8]) (by kernel_rfl) fun i hi R s K => by
          cases hi with
          | head => rfl
          | tail _ hi => cases hi with
            | head => rfl
            | tail _ hi => cases hi) hs
      | tail _ hm => cases hm with
        | head => exact run_ok (ag_of (bs := []) (by kernel_rfl) fun i hi => by cases hi) hs
        | tail _ hm => cases hm with
          | head => exact run_ok (ag_of (bs := []) (by kernel_rfl) fun i hi => by cases hi) hs
          | tail _ hm => cases hm
noncomputable def sLower : Spc U := .of dT (fun t => TrOk t) (fun _ => []) fun t => irV (lower t)
theorem sLower_ok : SpecOk Try.prog 29 sLower := by
  refine fn_okw wkIR X_ok mixed Ez_ok an36 (lpL all36) Try.func29 (by kernel_rfl) (by kernel_rfl) lp36_ok fun objs args t hx hp => ?_
  obtain ⟨rfl, rfl⟩ := dT_ok hx
  exact e36 hp
end Go.Proofs.Ytpkgikchphgfaaa.Fl

/- A program that is given. -/
namespace Go.Proofs.Ytpkgikchphgfaaa.Fl
open Go Go.RowKit Go.Proofs.Ytpkgikchphgfaaa.Eng
set_option linter.unusedVariables false
set_option linter.unusedSimpArgs false
set_option maxRecDepth 20000
noncomputable def Fa : FuncId → Option (Spc U)
  | 21 => some sParse
  | 27 => some sCheck
  | 29 => some sLower
  | _ => none
theorem Fa_ok : ∀ f S, Fa f = some S → SpecOk Try.prog f S := fun f S h => by
  unfold Fa at h
  split at h
  · cases h; exact sParse_ok
  · cases h; exact sCheck_ok
  · cases h; exact sLower_ok
  · cases h
def an10 : Ann := ⟨fun | 0 => 452 | _ => 0, fun | 0 => 204 | _ => 0, fun _ => [], false⟩
def irOb (o : IRs) : TO U := .cells [.lst .i64 o.G, .lst .i64 o.F, .lst .i64 o.V, .lst .t69 o.Fs, .lst .t65 o.C, .v (.int .i64 o.Main)] false
def S10 (o : IRs) (c : Int × Int) (v : Int) : TS U := mkS 95 [(2, .ref 0 0 0), (6, .v (.int .i64 c.1)), (7, .v (.int .i64 c.2)), (8, .v (.int .i64 v))] [irOb o] 0
def E10 (o : IRs) (c : Int × Int) : Exit × TS U := (.exit 0, mkS 95 [(2, .ref 0 0 0), (6, .v (.int .i64 c.1)), (7, .v (.int .i64 c.2))] [irOb o] 0)
theorem r10 (lp : Lp U) (N : Nat) (o : IRs) (c : Int × Int) (v : Int) : fnLoop X Fa an10 lp Try.f9 0 (N + 1) (S10 o c v) = cond (decide (v < (o.C.length : Int))) ((getI o.C v).bind fun z => cond (decide (z.Op = 6))
      ((getI o.C v).bind fun z => cond (decide (8 ≤ z.Op)) ((getI o.C v).bind fun z => cond (decide (z.Op ≤ 11)) (fnLoop X Fa an10 lp Try.f9 0 N (S10 o (IntKind.i64.wrap (c.1 + 1), IntKind.i64.wrap (c.2 + 1)) (IntKind.i64.wrap (v + 1)))) (fnLoop X Fa an10 lp Try.f9 0 N (S10 o (IntKind.i64.wrap (c.1 + 1), c.2) (IntKind.i64.wrap (v + 1))))) (fnLoop X Fa an10 lp Try.f9 0 N (S10 o (IntKind.i64.wrap (c.1 + 1), c.2) (IntKind.i64.wrap (v + 1)))))
      ((getI o.C v).bind fun z => cond (decide (8 ≤ z.Op)) ((getI o.C v).bind fun z => cond (decide (z.Op ≤ 11)) (fnLoop X Fa an10 lp Try.f9 0 N (S10 o (c.1, IntKind.i64.wrap (c.2 + 1)) (IntKind.i64.wrap (v + 1)))) (fnLoop X Fa an10 lp Try.f9 0 N (S10 o c (IntKind.i64.wrap (v + 1))))) (fnLoop X Fa an10 lp Try.f9 0 N (S10 o c (IntKind.i64.wrap (v + 1)))))) (some (E10 o c)) := by kernel_rfl
def cnt10 (c : Int × Int) (z : R65) : Int × Int := (cond (decide (z.Op = 6)) (c.1 + 1) c.1, cond (decide (8 ≤ z.Op) && decide (z.Op ≤ 11)) (c.2 + 1) c.2)
def cnts (o : IRs) : Int × Int := o.C.foldl cnt10 (0, 0)
theorem cnt10_in (c : Int × Int) (z : R65) : (cnt10 c z).1 ≤ c.1 + 1 ∧ c.1 ≤ (cnt10 c z).1 ∧ (cnt10 c z).2 ≤ c.2 + 1 ∧ c.2 ≤ (cnt10 c z).2 := by
  unfold cnt10
  cases decide (z.Op = 6) <;> cases (decide (8 ≤ z.Op) && decide (z.Op ≤ 11)) <;> dsimp only [cond_true, cond_false] <;> omega
theorem rounds10 (lp : Lp U) (o : IRs) (ho : o.C.length ≤ 3000000) : fnLoop X Fa an10 lp Try.f9 0 (o.C.length + 1) (S10 o (0, 0) 0) = some (E10 o (cnts o)) := by
  have h := ixL_rounds (fnl := fun n st => fnLoop X Fa an10 lp Try.f9 0 n st) (fun c v => S10 o c v) (E10 o) (len := o.C.length) (step := stepI o.C cnt10) (fun c v => 0 ≤ c.1 ∧ c.1 ≤ v ∧ 0 ≤ c.2 ∧ c.2 ≤ v) (fun c v N hc h0 h1 => by
    obtain ⟨z, hz, _⟩ := getI_lt h0 h1
    have hw : IntKind.i64.wrap (v + 1) = v + 1 := wrap_i64 (by omega) (by omega)
    have hw1 : IntKind.i64.wrap (c.1 + 1) = c.1 + 1 := wrap_i64 (by omega) (by omega)
    have hw2 : IntKind.i64.wrap (c.2 + 1) = c.2 + 1 := wrap_i64 (by omega) (by omega)
    have hst : stepI o.C cnt10 c v = cnt10 c z := by unfold stepI; rw [hz]
    have hin := cnt10_in c z
    rw [hst]
    refine ⟨?_, by omega, by omega, by omega, by omega⟩
    dsimp only
    rw [r10, decide_eq_true h1, hz]
    simp only [cond_true, Option.bind_some, hw, hw1, hw2]
    unfold cnt10
    cases decide (z.Op = 6) <;> cases decide (8 ≤ z.Op) <;> cases decide (z.Op ≤ 11) <;> rfl) (fun c v N _ h0 h1 => by dsimp only; rw [r10, decide_eq_false h1]; rfl) o.C.length (0, 0) 0 (Int.le_refl 0) (by omega) ⟨Int.le_refl 0, Int.le_refl 0, Int.le_refl 0, Int.le_refl 0⟩
  rw [ixL_all] at h
  exact h
def IRs.ob (o : IRs) : TO U := irOb o
def d10 (s : TS U) : Option (IRs × Int × Int × Int) := match told s 95 [2, 6, 7, 8] 0, s.objs with
  | some [a0, a1, a2, a3], [o0] =>
    match o0 with
    | .cells [q0, q1, q2, q3, q4, q5] false =>
      match q0 with
      | .lst .i64 o_G =>
        match q1 with
        | .lst .i64 o_F =>
          match q2 with
          | .lst .i64 o_V =>
            match q3 with
            | .lst .t69 o_Fs =>
              match q4 with
              | .lst .t65 o_C =>
                match q5 with
                | .v (.int .i64 o_Main) =>
                  match a0 with
                  | .ref 0 0 0 =>
                    match a1 with
                    | .v (.int .i64 a) =>
                      match a2 with
                      | .v (.int .i64 b) =>
                        match a3 with
                        | .v (.int .i64 v) =>
                          some ((⟨o_G, o_F, o_V, o_Fs, o_C, o_Main⟩ : IRs), a, b, v)
                        | _ => none
                      | _ => none
                    | _ => none
                  | _ => none
                | _ => none
              | _ => none
            | _ => none
          | _ => none
        | _ => none
      | _ => none
    | _ => none
  | _, _ => none
theorem d10_ok {s : TS U} {o : IRs} {a : Int} {b : Int} {v : Int} (h : d10 s = some (o, a, b, v)) : s = mkS (U := U) 95 ([2, 6, 7, 8].zip ([.ref 0 0 0, .v (.int .i64 a), .v (.int .i64 b), .v (.int .i64 v)] : List (TV U))) ([o.ob] : List (TO U)) 0 := by
  unfold d10 at h
  split at h <;> try (cases h; done)
  rename_i ht ho
  have hs := told_ok ht
  rw [ho] at hs
  repeat' split at h
  all_goals first | (cases h; done) | (cases h; exact hs)
def Pre10 (n : Nat) (a b v : Int) : Prop := n ≤ 3000000 ∧ a = 0 ∧ b = 0 ∧ v = 0
instance (n : Nat) (a b v : Int) : Decidable (Pre10 n a b v) := by unfold Pre10; infer_instance
def lc10 : LC U := .of d10 (fun (o, a, b, v) => Pre10 o.C.length a b v) (.exit 0) (fun (o, a, b, v) => (E10 o (cnts o)).2)
def lp10 : Lp U := lpL [(0, lc10)]
theorem lp10_ok : ∀ c, Try.f9.body = some c → LpOk X Fa an10 lp10 (loops c 0) := lpL_ok (by kernel_rfl) fun b L hm st p hs => by
  cases hm with
  | tail _ h => cases h
  | head =>
    obtain ⟨⟨o, a, b, v⟩, hx, ⟨h1, rfl, rfl, rfl⟩, rfl⟩ := LC.of_some hs
    obtain rfl := d10_ok hx
    exact ⟨_, rounds10 _ o h1⟩
def wkG : Lw U := .a [wkIR, .no]
theorem e10 (s : ByteArray) : (evFn X Fa an10 lp10 Try.f9 [] [TV.v (Value.string s)]
  fun (o : List (TO X.U)) (v : TV X.U) => some (o, wkG.f v)) =
  (cutB s none (some (if 3000 < (↑s.size : Int) then 3000 else (↑s.size : Int)))).bind fun (c : ByteArray) =>
  if c.size ≤ 100000 then
    bif !decide ((parseP c).snd.fst = 0) then
      some
        ([],
          TV.tup
            [TV.agg
                [TV.lst C.i64 [], TV.lst C.i64 [], TV.lst C.i64 [], TV.lst C.t69 [], TV.lst C.t65 [],
                  TV.v (Value.int IntKind.i64 0)],
              TV.v (Value.bool false)])
    else
      if TrOk (parseP c).fst then
        bif !decide ((chk (parseP c).fst).Code = 0) then
          some
            ([],
              TV.tup
                [TV.agg
                    [TV.lst C.i64 [], TV.lst C.i64 [], TV.lst C.i64 [], TV.lst C.t69 [], TV.lst C.t65 [],
                      TV.v (Value.int IntKind.i64 0)],
                  TV.v (Value.bool false)])
        else
          if TrOk (parseP c).fst then
            if Pre10 (lower (parseP c).fst).C.length 0 0 0 then
              bif decide ((↑(lower (parseP c).fst).C.length : Int) ≤ 160) then
                bif decide ((cnts (lower (parseP c).fst)).fst ≤ 12) then
                  bif decide ((cnts (lower (parseP c).fst)).snd ≤ 50) then
                    bif decide ((↑(lower (parseP c).fst).V.length : Int) ≤ 60) then
                      bif decide ((↑(lower (parseP c).fst).F.length : Int) ≤ 6) then
                        some
                          ([],
                            TV.tup
                              [irV (lower (parseP c).fst),
                                TV.v (Value.bool (decide ((↑(lower (parseP c).fst).G.length : Int) ≤ 12)))])
                      else some ([], TV.tup [irV (lower (parseP c).fst), TV.v (Value.bool false)])
                    else some ([], TV.tup [irV (lower (parseP c).fst), TV.v (Value.bool false)])
                  else some ([], TV.tup [irV (lower (parseP c).fst), TV.v (Value.bool false)])
                else some ([], TV.tup [irV (lower (parseP c).fst), TV.v (Value.bool false)])
              else some ([], TV.tup [irV (lower (parseP c).fst), TV.v (Value.bool false)])
            else none
          else none
      else none
  else none := by kernel_rfl
theorem lwL_B {t : TR} (ht : TrOk t) : ∀ (r : List R90) (o : IRs) (v : Int), 0 ≤ v → t.N.drop v.toNat = r → IrB t o r → IrB t (lwL t r o v) []
  | [], o, v, h0, hr, ho => ho
  | z :: r, o, v, h0, hr, ho => by
    have hlen : v < (t.N.length : Int) := by
      have := congrArg List.length hr
      rw [List.length_drop, List.length_cons] at this
      omega
    have hx : t.N[v.toNat]? = some t.N[v.toNat] := List.getElem?_eq_getElem (by omega)
    have hd : t.N.drop v.toNat = t.N[v.toNat] :: t.N.drop (v.toNat + 1) := List.drop_eq_getElem_cons (by omega)
    rw [hd] at hr
    injection hr with hz hr
    have hg : getI t.N v = some z := by unfold getI; rw [if_pos h0, hx, hz]
    have hfw : fnW z ≤ 1000000 := by
      have := fnsW_at t.N v.toNat z (by rw [hx, hz])
      have := ht.2.2
      omega
    have hb := (round4 (R := Unit) (K := fun _ _ => none) ht h0 hlen hg ho hfw).2
    rw [lwL]
    exact lwL_B ht r _ (v + 1) (by omega) (by rw [show (v + 1).toNat = v.toNat + 1 by omega]; exact hr) hb
theorem lower_B {t : TR} (ht : TrOk t) : (lower t).V.length ≤ 1000000 ∧ (lower t).C.length ≤ 3000000 ∧ (lower t).Fs.length ≤ 1000000 := by
  have hb : IrB t ⟨t.G.map R82.Type_, t.F.map R82.Type_, [], [], [], 0⟩ t.N := by
    have := ht.2.2
    exact ⟨by show 0 + _ ≤ _; omega, by show 0 + _ ≤ _; omega, by show 0 + _ ≤ _; omega⟩
  obtain ⟨a, b, c⟩ := lwL_B ht t.N _ 0 (Int.le_refl 0) rfl hb
  rw [fnsW] at a b c
  exact ⟨a, b, c⟩
theorem parse_ok {s : ByteArray} (h : s.size ≤ 100000) : TrOk (parseP s).1 := by
  have h0 := ps0_ok h
  have h1 := (progL_ok ((ps0 s).left + 1) (ps0 s) [] [] [] h0).2
  have h2 := h0.left_le
  have h3 := h0.len
  have e : progL ((ps0 s).left + 1) (ps0 s) [] [] [] = progP (ps0 s) := rfl
  rw [e] at h1
  unfold prW at h1
  simp only [List.length_nil, fnsW] at h1
  have hz : TrOk ⟨[], [], []⟩ := ⟨Nat.zero_le _, Nat.zero_le _, Nat.zero_le _⟩
  unfold parseP
  cases lexF s with
  | true => exact hz
  | false =>
    cases !decide ((progP (ps0 s)).q.Code = 0) with
    | true => exact hz
    | false => exact ⟨by show (progP (ps0 s)).g.length ≤ _; omega, by show (progP (ps0 s)).f.length ≤ _; omega, by show fnsW (progP (ps0 s)).n ≤ _; omega⟩
end Go.Proofs.Ytpkgikchphgfaaa.Fl

/- A program that is given, proved; what comes behind an instruction. -/
namespace Go.Proofs.Ytpkgikchphgfaaa.Fl
open Go Go.RowKit Go.Proofs.Ytpkgikchphgfaaa.Eng
set_option linter.unusedVariables false
set_option linter.unusedSimpArgs false
set_option maxRecDepth 20000
def cut3 (s : ByteArray) : ByteArray := (cutB s none (some (if 3000 < (s.size : Int) then 3000 else (s.size : Int)))).getD ⟨#[]⟩
theorem cut3_ok (s : ByteArray) : cutB s none (some (if 3000 < (s.size : Int) then 3000 else (s.size : Int))) = some (cut3 s) ∧ (cut3 s).size ≤ 100000 := by
  have h : ∀ m : Int, 0 ≤ m → m ≤ s.size → m ≤ 3000 → cutB s none (some m) = some (s.extract 0 m.toNat) ∧ (s.extract 0 m.toNat).size ≤ 100000 := fun m h0 h1 h2 => by
    refine ⟨if_pos ⟨h0, h1⟩, ?_⟩
    rw [ByteArray.size_extract]
    omega
  unfold cut3
  split
  · rename_i hm
    obtain ⟨a, b⟩ := h 3000 (by decide) (by omega) (by decide)
    rw [a]
    exact ⟨rfl, b⟩
  · obtain ⟨a, b⟩ := h (s.size : Int) (by omega) (Int.le_refl _) (by omega)
    rw [a]
    exact ⟨rfl, b⟩
def ir0 : IRs := ⟨[], [], [], [], [], 0⟩
def okG (o : IRs) : Bool := decide ((o.C.length : Int) ≤ 160) && (decide ((cnts o).1 ≤ 12) && (decide ((cnts o).2 ≤ 50) && (decide ((o.V.length : Int) ≤ 60) && (decide ((o.F.length : Int) ≤ 6) && decide ((o.G.length : Int) ≤ 12)))))
/-- A program that is given; whether it is one. -/
def given (s : ByteArray) : IRs × Bool := cond (!decide ((parseP (cut3 s)).2.1 = 0)) (ir0, false) (cond (!decide ((chk (parseP (cut3 s)).1).Code = 0)) (ir0, false) (lower (parseP (cut3 s)).1, okG (lower (parseP (cut3 s)).1)))
def sGiven : Spc U := .of dstr (fun _ => True) (fun _ => []) fun s => .tup [irV (given s).1, .v (.bool (given s).2)]
theorem sGiven_ok : SpecOk Try.prog 9 sGiven := by
  refine fn_okw wkG X_ok mixed Fa_ok an10 lp10 Try.func9 (by kernel_rfl) (by kernel_rfl) lp10_ok fun objs args s hp h => ?_
  obtain ⟨rfl, rfl⟩ := dstr_ok hp
  dsimp only
  obtain ⟨h1, h2⟩ := cut3_ok s
  have h3 := parse_ok h2
  have h4 := (lower_B h3).2.1
  refine (e10 s).trans ?_
  rw [h1, Option.bind_some, if_pos h2]
  unfold given okG
  cases decide ((parseP (cut3 s)).2.1 = 0) with
  | false => rfl
  | true =>
    simp only [Bool.not_true, cond_false]
    rw [if_pos h3]
    cases decide ((chk (parseP (cut3 s)).1).Code = 0) with
    | false => rfl
    | true =>
      simp only [Bool.not_true, cond_false]
      rw [if_pos h3, if_pos ⟨h4, rfl, rfl, rfl⟩]
      generalize lower (parseP (cut3 s)).1 = o
      cases decide ((o.C.length : Int) ≤ 160) with
      | false => rfl
      | true =>
        cases decide ((cnts o).1 ≤ 12) with
        | false => rfl
        | true =>
          cases decide ((cnts o).2 ≤ 50) with
          | false => rfl
          | true =>
            cases decide ((o.V.length : Int) ≤ 60) with
            | false => rfl
            | true => cases decide ((o.F.length : Int) ≤ 6) <;> rfl
theorem given_C (s : ByteArray) : (given s).1.C.length ≤ 3000000 := by
  have h := (lower_B (parse_ok (cut3_ok s).2)).2.1
  unfold given
  cases !decide ((parseP (cut3 s)).2.1 = 0) with
  | true => exact Nat.zero_le _
  | false =>
    cases !decide ((chk (parseP (cut3 s)).1).Code = 0) with
    | true => exact Nat.zero_le _
    | false => exact h
theorem given_ok {s : ByteArray} (h : (given s).2 = true) : (given s).1.C.length ≤ 160 := by
  unfold given at h ⊢
  revert h
  cases !decide ((parseP (cut3 s)).2.1 = 0) with
  | true => intro h; cases h
  | false =>
    cases !decide ((chk (parseP (cut3 s)).1).Code = 0) with
    | true => intro h; cases h
    | false =>
      intro h
      have h : okG (lower (parseP (cut3 s)).1) = true := h
      unfold okG at h
      rw [Bool.and_eq_true] at h
      have := of_decide_eq_true h.1
      show (lower (parseP (cut3 s)).1).C.length ≤ 160
      omega
def wkL : Lw U := .l .i64
def an13 : Ann := ⟨fun _ => 0, fun _ => 0, fun _ => [], false⟩
def an14 : Ann := ⟨fun _ => 0, fun _ => 0, fun _ => [], false⟩
theorem e13 (o : IRs) (n : Int) : (evFn X (fun (x : FuncId) => none) an13 lp0 Try.f37 []
  [irV o, TV.v (Value.int IntKind.i64 n)] fun (o : List (TO X.U)) (v : TV X.U) => some (o, wkL.f v)) =
  bif decide (n < 0) then some ([], TV.lst C.i64 [])
else
  bif decide ((↑o.C.length : Int) ≤ n) then some ([], TV.lst C.i64 [])
  else
    (getI o.C n).bind fun (z : X.U.T C.t65) =>
      bif decide (z.Op = 16) then some ([], TV.lst C.i64 [])
      else
        bif decide (z.Op = 17) then some ([], TV.lst C.i64 [z.B])
        else
          bif decide (z.Op = 18) then
            bif decide (z.B = z.C) then some ([], TV.lst C.i64 [z.B]) else some ([], TV.lst C.i64 [z.B, z.C])
          else some ([], TV.lst C.i64 [IntKind.i64.wrap (n + 1)]) := by kernel_rfl
end Go.Proofs.Ytpkgikchphgfaaa.Fl

/- What a function comes to, told by cases. -/
namespace Go.Proofs.Ytpkgikchphgfaaa.Eng
open Go Go.RowKit
set_option linter.unusedVariables false
def Spc.ofG {U : Univ} {A : Type} (d : List (TO U) → List (TV U) → Option A) (pre : A → Prop) [DecidablePred pre] (G : {R : Type} → A → (List (TO U) → TV U → Option R) → Option R) (o : A → List (TO U)) (v : A → TV U) (hG : ∀ {R : Type} (x : A) (k : List (TO U) → TV U → Option R), G x k = k (o x) (v x)) : Spc U := ⟨fun objs args k => match d objs args with
  | some x => if pre x then G x k else none
  | none => none⟩
theorem SpecOk.ofG {P : Program} {U : Univ} {fid : FuncId} {S0 : Spc U} (h0 : SpecOk P fid S0) {A : Type} {d : List (TO U) → List (TV U) → Option A} {pre : A → Prop} [DecidablePred pre] {G : {R : Type} → A → (List (TO U) → TV U → Option R) → Option R} {o : A → List (TO U)} {v : A → TV U} (hG : ∀ {R : Type} (x : A) (k : List (TO U) → TV U → Option R), G x k = k (o x) (v x))
    (h : ∀ objs args x, d objs args = some x → pre x → S0.F objs args (fun o v => some (o, v)) = some (o x, v x)) : SpecOk P fid (Spc.ofG d pre G o v hG) := by
  refine SpecOk.of_ev h0 (fun objs args => ?_) fun objs args o' v' h' => ?_
  · intro R k r h'
    unfold Spc.ofG at h' ⊢
    dsimp only at h' ⊢
    cases hd : d objs args with
    | none => rw [hd] at h'; cases h'
    | some x =>
      rw [hd] at h'
      dsimp only at h' ⊢
      split at h' <;> try (cases h'; done)
      rename_i hp
      rw [hG] at h'
      exact ⟨_, _, h', fun k' => by rw [if_pos hp, hG]⟩
  · unfold Spc.ofG at h'
    dsimp only at h'
    cases hd : d objs args with
    | none => rw [hd] at h'; cases h'
    | some x =>
      rw [hd] at h'
      dsimp only at h'
      split at h' <;> try (cases h'; done)
      rename_i hp
      rw [hG] at h'
      cases h'
      exact h _ _ _ hd hp
theorem fn_okG {P : Program} {X : Cx} (hX : CxOk P X) (hm : P.follows .mixedOrders = true) {E : FuncId → Option (Spc X.U)} (hE : ∀ f S, E f = some S → SpecOk P f S) (an : Ann) (lp : Lp X.U) {fid : FuncId} {fn : Func} (hf : P.funcs[fid]? = some fn) (hname : (fn.name == "runtime.NumGoroutine") = false) (hcode : (match fn.body with | some c => codeOk fn.ntmps c | none => false) = true)
    (hL : ∀ c, fn.body = some c → LpOk X E an lp (loops c 0)) {A : Type} {d : List (TO X.U) → List (TV X.U) → Option A} {pre : A → Prop} [DecidablePred pre] {G : {R : Type} → A → (List (TO X.U) → TV X.U → Option R) → Option R} {o : A → List (TO X.U)} {v : A → TV X.U} (hG : ∀ {R : Type} (x : A) (k : List (TO X.U) → TV X.U → Option R), G x k = k (o x) (v x))
    (h : ∀ objs args x, d objs args = some x → pre x → evFn X E an lp fn objs args (fun o v => some (o, v)) = some (o x, v x)) : SpecOk P fid (Spc.ofG d pre G o v hG) :=
  SpecOk.ofG (specFn_ok hX hm hE an lp hf hname hcode hL) hG h
end Go.Proofs.Ytpkgikchphgfaaa.Eng

/- What comes behind an instruction; lists that are the same. -/
namespace Go.Proofs.Ytpkgikchphgfaaa.Fl
open Go Go.RowKit Go.Proofs.Ytpkgikchphgfaaa.Eng
set_option linter.unusedVariables false
set_option linter.unusedSimpArgs false
set_option maxRecDepth 20000
def IRs.tv (o : IRs) : TV U := irV o
def dIi (objs : List (TO U)) (args : List (TV U)) : Option (IRs × Int) := match objs, args with
  | [], [a0, a1] =>
    match a0 with
    | .agg [q0, q1, q2, q3, q4, q5] =>
      match q0 with
      | .lst .i64 o_G =>
        match q1 with
        | .lst .i64 o_F =>
          match q2 with
          | .lst .i64 o_V =>
            match q3 with
            | .lst .t69 o_Fs =>
              match q4 with
              | .lst .t65 o_C =>
                match q5 with
                | .v (.int .i64 o_Main) =>
                  match a1 with
                  | .v (.int .i64 n) =>
                    some ((⟨o_G, o_F, o_V, o_Fs, o_C, o_Main⟩ : IRs), n)
                  | _ => none
                | _ => none
              | _ => none
            | _ => none
          | _ => none
        | _ => none
      | _ => none
    | _ => none
  | _, _ => none
theorem dIi_ok {objs : List (TO U)} {args : List (TV U)} {o : IRs} {n : Int} (h : dIi objs args = some (o, n)) : objs = [] ∧ args = [o.tv, .v (.int .i64 n)] := by
  unfold dIi at h
  repeat' split at h
  all_goals first | (cases h; done) | (cases h; exact ⟨rfl, rfl⟩)
/-- What comes behind an instruction. -/
def nx (o : IRs) (n : Int) : List Int := cond (decide (n < 0)) [] (cond (decide ((o.C.length : Int) ≤ n)) [] (match getI o.C n with
  | some z => cond (decide (z.Op = 16)) [] (cond (decide (z.Op = 17)) [z.B] (cond (decide (z.Op = 18)) (cond (decide (z.B = z.C)) [z.B] [z.B, z.C]) [IntKind.i64.wrap (n + 1)]))
  | none => []))
def sNx : Spc U := .of dIi (fun _ => True) (fun _ => []) fun (o, n) => .lst .i64 (nx o n)
theorem nx_get {o : IRs} {n : Int} (h1 : decide (n < 0) = false) (h2 : decide ((o.C.length : Int) ≤ n) = false) : ∃ z, getI o.C n = some z := by
  have h1 := of_decide_eq_false h1
  have h2 := of_decide_eq_false h2
  obtain ⟨z, hz, _⟩ := getI_lt (l := o.C) (v := n) (by omega) (by omega)
  exact ⟨z, hz⟩
theorem sNx13_ok : SpecOk Try.prog 37 sNx := by
  refine fn_okw wkL X_ok mixed E0_ok an13 lp0 Try.func37 (by kernel_rfl) (by kernel_rfl) (lp0_ok (by kernel_rfl)) fun objs args x hx hp => ?_
  obtain ⟨o, n⟩ := x
  obtain ⟨rfl, rfl⟩ := dIi_ok hx
  dsimp only
  refine (e13 o n).trans ?_
  unfold nx
  cases h1 : decide (n < 0) with
  | true => rfl
  | false =>
    cases h2 : decide ((o.C.length : Int) ≤ n) with
    | true => rfl
    | false =>
      obtain ⟨z, hz⟩ := nx_get h1 h2
      rw [hz]
      simp only [cond_false, Option.bind_some]
      cases decide (z.Op = 16) <;> cases decide (z.Op = 17) <;> cases decide (z.Op = 18) <;> cases decide (z.B = z.C) <;> rfl
/-! ### One's own -/
def an13o : Ann := ⟨fun _ => 0, fun _ => 0, fun _ => [], true⟩
theorem e13o (o : IRs) (n : Int) : (evFn X (fun (x : FuncId) => none) an13o lp0 Try.f37 []
  [irV o, TV.v (Value.int IntKind.i64 n)] fun (o : List (TO X.U)) (v : TV X.U) => some (o, v)) =
  bif decide (n < 0) then some ([], TV.v (Value.slice none 0 0))
else
  bif decide ((↑o.C.length : Int) ≤ n) then some ([], TV.v (Value.slice none 0 0))
  else
    (getI o.C n).bind fun (z : X.U.T C.t65) =>
      bif decide (z.Op = 16) then some ([], TV.v (Value.slice none 0 0))
      else
        bif decide (z.Op = 17) then some ([TO.row C.i64 [z.B] false], TV.full 0)
        else
          bif decide (z.Op = 18) then
            bif decide (z.B = z.C) then some ([TO.row C.i64 [z.B] false], TV.full 0)
            else some ([TO.row C.i64 [z.B, z.C] false], TV.full 0)
          else some ([TO.row C.i64 [IntKind.i64.wrap (n + 1)] false], TV.full 0) := by kernel_rfl
def an12 : Ann := ⟨fun | 0 => 35 | _ => 0, fun | 0 => 16 | _ => 0, fun _ => [], false⟩
def nxO (o : IRs) (n : Int) : List (TO U) × TV U := (rwI (nx o n), nvl (nx o n) 0)
def sNxO : Spc U := .ofG dIi (fun _ => True) (fun (o, n) k => lsp (nx o n) fun l => k (rwI l) (nvl l 0)) (fun (o, n) => rwI (nx o n)) (fun (o, n) => nvl (nx o n) 0) fun x k => lsp_eq _ _
theorem sNxO_ok : SpecOk Try.prog 37 sNxO := by
  refine fn_okG X_ok mixed E0_ok an13o lp0 Try.func37 (by kernel_rfl) (by kernel_rfl) (lp0_ok (by kernel_rfl)) (fun x k => lsp_eq _ _) fun objs args x hx hp => ?_
  obtain ⟨o, n⟩ := x
  obtain ⟨rfl, rfl⟩ := dIi_ok hx
  dsimp only
  refine (e13o o n).trans ?_
  unfold nx
  cases h1 : decide (n < 0) with
  | true => rfl
  | false =>
    cases h2 : decide ((o.C.length : Int) ≤ n) with
    | true => rfl
    | false =>
      obtain ⟨z, hz⟩ := nx_get h1 h2
      rw [hz]
      simp only [cond_false, Option.bind_some]
      cases decide (z.Op = 16) <;> cases decide (z.Op = 17) <;> cases decide (z.Op = 18) <;> cases decide (z.B = z.C) <;> rfl
/-! ### The same? -/
theorem eq_rounds {T B : Type} {fnl : Nat → T → Option B} {S : Int → T} {rt ex : B} {a b : List Int} (ha : a.length ≤ 3000000) (hab : a.length = b.length)
    (hin : ∀ (N : Nat) (v : Int) (x y : Int), 0 ≤ v → v < (a.length : Int) → getI a v = some x → getI b v = some y → fnl (N + 1) (S v) = cond (!decide (x = y)) (some rt) (fnl N (S (IntKind.i64.wrap (v + 1)))))
    (hout : ∀ (N : Nat) (v : Int), ¬ v < (a.length : Int) → fnl (N + 1) (S v) = some ex) : ∀ (N : Nat) (v : Int), 0 ≤ v → (a.length : Int) ≤ v + N → fnl (N + 1) (S v) = some (cond (decide (a.drop v.toNat = b.drop v.toNat)) ex rt) := by
  intro N
  induction N with
  | zero =>
    intro v h0 h1
    rw [hout 0 v (by omega), List.drop_eq_nil_of_le (by omega), List.drop_eq_nil_of_le (by omega)]
    rfl
  | succ N ih =>
    intro v h0 h1
    by_cases hv : v < (a.length : Int)
    · obtain ⟨x, hx, hx2⟩ := getI_lt (l := a) h0 hv
      obtain ⟨y, hy, hy2⟩ := getI_lt (l := b) h0 (by omega)
      have hw : IntKind.i64.wrap (v + 1) = v + 1 := wrap_i64 (by omega) (by omega)
      have ea : a.drop v.toNat = x :: a.drop (v.toNat + 1) := by
        rw [List.drop_eq_getElem_cons (by omega)]
        rw [List.getElem?_eq_getElem (by omega)] at hx2
        rw [Option.some.inj hx2]
      have eb : b.drop v.toNat = y :: b.drop (v.toNat + 1) := by
        rw [List.drop_eq_getElem_cons (by omega)]
        rw [List.getElem?_eq_getElem (by omega)] at hy2
        rw [Option.some.inj hy2]
      rw [hin (N + 1) v x y h0 hv hx hy, hw, ih (v + 1) (by omega) (by omega), ea, eb, show (v + 1).toNat = v.toNat + 1 by omega]
      by_cases hxy : x = y
      · subst hxy
        simp
      · simp [hxy]
    · rw [hout (N + 1) v hv, List.drop_eq_nil_of_le (by omega), List.drop_eq_nil_of_le (by omega)]
      rfl
def S12 (a b : List Int) (v : Int) : TS U := mkS 26 [(0, .lst .i64 a), (1, .lst .i64 b), (5, .v (.int .i64 v))] [] 0
def S12o (a b : List Int) (v : Int) : TS U := mkS 26 [(0, .lst .i64 a), (1, .full 0), (5, .v (.int .i64 v))] [.row .i64 b false] 1
theorem r12 (lp : Lp U) (N : Nat) (a b : List Int) (v : Int) : fnLoop X (fun _ => none) an12 lp Try.f13 0 (N + 1) (S12 a b v) = cond (decide (v < (a.length : Int))) ((getI a v).bind fun x => (getI b v).bind fun y => cond (!decide (x = y)) (some (.ret, mkS 26 [(4, .v (.bool false))] [] 0)) (fnLoop X (fun _ => none) an12 lp Try.f13 0 N (S12 a b (IntKind.i64.wrap (v + 1))))) (some (.exit 0, mkS 26 [] [] 0)) := by kernel_rfl
def Z12o (b : List Int) : Exit × TS U := (.exit 0, mkS 26 [] [.row .i64 b false] 1)
def Y12o (b : List Int) : Exit × TS U := (.ret, mkS 26 [(4, .v (.bool false))] [.row .i64 b false] 1)
theorem r12o (lp : Lp U) (N : Nat) (a b : List Int) (v : Int) : fnLoop X (fun _ => none) an12 lp Try.f13 0 (N + 1) (S12o a b v) = cond (decide (v < (a.length : Int))) ((getI a v).bind fun x => if 0 ≤ v ∧ v < (b.length : Int) then b[v.toNat]?.bind fun y => cond (!decide (x = y)) (some (Y12o b)) (fnLoop X (fun _ => none) an12 lp Try.f13 0 N (S12o a b (IntKind.i64.wrap (v + 1)))) else none) (some (Z12o b)) := by kernel_rfl
theorem rounds12 (lp : Lp U) {a b : List Int} (ha : a.length ≤ 3000000) (hab : a.length = b.length) : fnLoop X (fun _ => none) an12 lp Try.f13 0 (a.length + 1) (S12 a b 0) = some (cond (decide (a = b)) (.exit 0, mkS 26 [] [] 0) (.ret, mkS 26 [(4, .v (.bool false))] [] 0)) :=
  eq_rounds (fnl := fun n st => fnLoop X (fun _ => none) an12 lp Try.f13 0 n st) (S := S12 a b) ha hab (fun N v x y h0 h1 hx hy => by dsimp only; rw [r12, decide_eq_true h1, hx, hy]; rfl) (fun N v h => by dsimp only; rw [r12, decide_eq_false h]; rfl) a.length 0 (Int.le_refl 0) (by omega)
theorem rounds12o (lp : Lp U) {a b : List Int} (ha : a.length ≤ 3000000) (hab : a.length = b.length) : fnLoop X (fun _ => none) an12 lp Try.f13 0 (a.length + 1) (S12o a b 0) = some (cond (decide (a = b)) (Z12o b) (Y12o b)) :=
  eq_rounds (fnl := fun n st => fnLoop X (fun _ => none) an12 lp Try.f13 0 n st) (S := S12o a b) ha hab (fun N v x y h0 h1 hx hy => by
    have hy' : b[v.toNat]? = some y := by unfold getI at hy; rw [if_pos h0] at hy; exact hy
    dsimp only
    rw [r12o, decide_eq_true h1, hx, cond_true, Option.bind_some, if_pos ⟨h0, by omega⟩, hy']
    rfl) (fun N v h => by dsimp only; rw [r12o, decide_eq_false h]; rfl) a.length 0 (Int.le_refl 0) (by omega)
def dLL (objs : List (TO U)) (args : List (TV U)) : Option (List Int × List Int) := match objs, args with
  | [], [a0, a1] =>
    match a0 with
    | .lst .i64 a =>
      match a1 with
      | .lst .i64 b =>
        some (a, b)
      | _ => none
    | _ => none
  | _, _ => none
theorem dLL_ok {objs : List (TO U)} {args : List (TV U)} {a : List Int} {b : List Int} (h : dLL objs args = some (a, b)) : objs = [] ∧ args = [.lst .i64 a, .lst .i64 b] := by
  unfold dLL at h
  repeat' split at h
  all_goals first | (cases h; done) | (cases h; exact ⟨rfl, rfl⟩)
def dLO (objs : List (TO U)) (args : List (TV U)) : Option (List Int × List Int) := match objs, args with
  | [o0], [a0, a1] =>
    match o0 with
    | .row .i64 b false =>
      match a0 with
      | .lst .i64 a =>
        match a1 with
        | .full 0 =>
          some (b, a)
        | _ => none
      | _ => none
    | _ => none
  | _, _ => none
theorem dLO_ok {objs : List (TO U)} {args : List (TV U)} {b : List Int} {a : List Int} (h : dLO objs args = some (b, a)) : objs = [.row .i64 b false] ∧ args = [.lst .i64 a, .full 0] := by
  unfold dLO at h
  repeat' split at h
  all_goals first | (cases h; done) | (cases h; exact ⟨rfl, rfl⟩)
def dl12 (s : TS U) : Option (List Int × List Int × Int) := match told s 26 [0, 1, 5] 0, s.objs with
  | some [a0, a1, a2], [] =>
    match a0 with
    | .lst .i64 a =>
      match a1 with
      | .lst .i64 b =>
        match a2 with
        | .v (.int .i64 v) =>
          some (a, b, v)
        | _ => none
      | _ => none
    | _ => none
  | _, _ => none
theorem dl12_ok {s : TS U} {a : List Int} {b : List Int} {v : Int} (h : dl12 s = some (a, b, v)) : s = mkS (U := U) 26 ([0, 1, 5].zip ([.lst .i64 a, .lst .i64 b, .v (.int .i64 v)] : List (TV U))) ([] : List (TO U)) 0 := by
  unfold dl12 at h
  split at h <;> try (cases h; done)
  rename_i ht ho
  have hs := told_ok ht
  rw [ho] at hs
  repeat' split at h
  all_goals first | (cases h; done) | (cases h; exact hs)
def dl12o (s : TS U) : Option (List Int × List Int × Int) := match told s 26 [0, 1, 5] 1, s.objs with
  | some [a0, a1, a2], [o0] =>
    match o0 with
    | .row .i64 b false =>
      match a0 with
      | .lst .i64 a =>
        match a1 with
        | .full 0 =>
          match a2 with
          | .v (.int .i64 v) =>
            some (b, a, v)
          | _ => none
        | _ => none
      | _ => none
    | _ => none
  | _, _ => none
theorem dl12o_ok {s : TS U} {b : List Int} {a : List Int} {v : Int} (h : dl12o s = some (b, a, v)) : s = mkS (U := U) 26 ([0, 1, 5].zip ([.lst .i64 a, .full 0, .v (.int .i64 v)] : List (TV U))) ([.row .i64 b false] : List (TO U)) 1 := by
  unfold dl12o at h
  split at h <;> try (cases h; done)
  rename_i ht ho
  have hs := told_ok ht
  rw [ho] at hs
  repeat' split at h
  all_goals first | (cases h; done) | (cases h; exact hs)
def Pre12 (n m : Nat) (v : Int) : Prop := n ≤ 3000000 ∧ n = m ∧ v = 0
instance (n m : Nat) (v : Int) : Decidable (Pre12 n m v) := by unfold Pre12; infer_instance
def eqI (a b : List Int) : Bool := decide (a = b)
def lc12 : LC U := .of2 dl12 (fun (a, b, v) => Pre12 a.length b.length v) (fun (a, b, v) => eqI a b) (.exit 0) (fun _ => mkS 26 [] [] 0) .ret (fun _ => mkS 26 [(4, .v (.bool false))] [] 0)
def lc12o : LC U := .of2 dl12o (fun (b, a, v) => Pre12 a.length b.length v) (fun (b, a, v) => eqI a b) (.exit 0) (fun (b, a, v) => mkS 26 [] [.row .i64 b false] 1) .ret (fun (b, a, v) => mkS 26 [(4, .v (.bool false))] [.row .i64 b false] 1)
theorem lp12_ok : ∀ c, Try.f13.body = some c → LpOk X (fun _ => none) an12 (lpL [(0, lc12)]) (loops c 0) := lpL_ok (by kernel_rfl) fun b L hm st p hs => by
  cases hm with
  | tail _ h => cases h
  | head =>
    obtain ⟨⟨a, b, v⟩, hx, ⟨h1, h2, rfl⟩, rfl⟩ := LC.of2_some hs
    obtain rfl := dl12_ok hx
    exact ⟨_, rounds12 _ h1 h2⟩
theorem lp12o_ok : ∀ c, Try.f13.body = some c → LpOk X (fun _ => none) an12 (lpL [(0, lc12o)]) (loops c 0) := lpL_ok (by kernel_rfl) fun b L hm st p hs => by
  cases hm with
  | tail _ h => cases h
  | head =>
    obtain ⟨⟨b, a, v⟩, hx, ⟨h1, h2, rfl⟩, rfl⟩ := LC.of2_some hs
    obtain rfl := dl12o_ok hx
    exact ⟨_, rounds12o _ h1 h2⟩
theorem e12 (a : List
  Int) (b : List
  Int) : (evFn X (fun (x : FuncId) => none) an12 (lpL [(0, lc12)]) Try.f13 [] [TV.lst C.i64 a, TV.lst C.i64 b]
  fun (o : List (TO X.U)) (v : TV X.U) => some (o, v)) =
  bif !decide ((↑a.length : Int) = (↑b.length : Int)) then some ([], TV.v (Value.bool false))
else
  if Pre12 a.length b.length 0 then
    bif eqI a b then some ([], TV.v (Value.bool true)) else some ([], TV.v (Value.bool false))
  else none := by kernel_rfl
theorem e12o (a : List
  Int) (b : List
  Int) : (evFn X (fun (x : FuncId) => none) an12 (lpL [(0, lc12o)]) Try.f13 [TO.row C.i64 b false]
  [TV.lst C.i64 a, TV.full 0] fun (o : List (TO X.U)) (v : TV X.U) => some (o, v)) =
  bif !decide ((↑a.length : Int) = (↑b.length : Int)) then some ([TO.row C.i64 b false], TV.v (Value.bool false))
else
  if Pre12 a.length b.length 0 then
    bif eqI a b then some ([TO.row C.i64 b false], TV.v (Value.bool true))
    else some ([TO.row C.i64 b false], TV.v (Value.bool false))
  else none := by kernel_rfl
def sInts : Spc U := .of dLL (fun (a, b) => Sn a.length) (fun _ => []) fun (a, b) => .v (.bool (eqI a b))
def sIntsO : Spc U := .of dLO (fun (b, a) => Sn a.length) (fun (b, a) => [.row .i64 b false]) fun (b, a) => .v (.bool (eqI a b))
theorem eqI_ne {a b : List Int} (h : ¬ (a.length : Int) = (b.length : Int)) : eqI a b = false := decide_eq_false fun e => h (by rw [e])
theorem sInts_ok : SpecOk Try.prog 13 sInts := by
  refine fn_ok X_ok mixed E0_ok an12 (lpL [(0, lc12)]) Try.func13 (by kernel_rfl) (by kernel_rfl) lp12_ok fun objs args x hx hp => ?_
  obtain ⟨a, b⟩ := x
  obtain ⟨rfl, rfl⟩ := dLL_ok hx
  dsimp only at hp ⊢
  refine (e12 a b).trans ?_
  by_cases h : (a.length : Int) = (b.length : Int)
  · rw [decide_eq_true h]
    simp only [Bool.not_true, cond_false]
    rw [if_pos ⟨hp, by omega, rfl⟩]
    cases eqI a b <;> rfl
  · rw [decide_eq_false h, eqI_ne h]; rfl
theorem sIntsO_ok : SpecOk Try.prog 13 sIntsO := by
  refine fn_ok X_ok mixed E0_ok an12 (lpL [(0, lc12o)]) Try.func13 (by kernel_rfl) (by kernel_rfl) lp12o_ok fun objs args x hx hp => ?_
  obtain ⟨b, a⟩ := x
  obtain ⟨rfl, rfl⟩ := dLO_ok hx
  dsimp only at hp ⊢
  refine (e12o a b).trans ?_
  by_cases h : (a.length : Int) = (b.length : Int)
  · rw [decide_eq_true h]
    simp only [Bool.not_true, cond_false]
    rw [if_pos ⟨hp, by omega, rfl⟩]
    cases eqI a b <;> rfl
  · rw [decide_eq_false h, eqI_ne h]; rfl
end Go.Proofs.Ytpkgikchphgfaaa.Fl

/- What one comes to. -/
namespace Go.Proofs.Ytpkgikchphgfaaa.Fl
open Go Go.RowKit Go.Proofs.Ytpkgikchphgfaaa.Eng
set_option linter.unusedVariables false
set_option linter.unusedSimpArgs false
set_option maxRecDepth 20000
def Fb : FuncId → Option (Spc U)
  | 37 => some sNxO
  | _ => none
theorem Fb_ok : ∀ f S, Fb f = some S → SpecOk Try.prog f S := fun f S h => by
  unfold Fb at h
  split at h
  · cases h; exact sNxO_ok
  · cases h
def an37 : Ann := ⟨fun | 0 => 100 | _ => 0, fun | 0 => 48 | _ => 0, fun _ => [], false⟩
def S37 (o : IRs) (out : List Bool) (w : List Int) : TS U := mkS 52 [(2, .ref 0 0 0), (5, .full 1), (6, .full 2)] [irOb o, .row .bool out false, .row .i64 w false] 0
def S37n (o : IRs) (out : List Bool) : TS U := mkS 52 [(2, .ref 0 0 0), (5, .full 1), (6, nl)] [irOb o, .row .bool out false] 0
theorem r37 (lp : Lp
  U) (N : Nat) (o : IRs) (out : List Bool) (w : List Int) : (fnLoop X Fb an37 lp Try.f79 0 N.succ (S37 o out w)) =
  bif decide (0 < (↑w.length : Int)) then
  if 0 ≤ IntKind.i64.wrap ((↑w.length : Int) - 1) ∧ IntKind.i64.wrap ((↑w.length : Int) - 1) < (↑w.length : Int) then
    w[(IntKind.i64.wrap ((↑w.length : Int) - 1)).toNat]?.bind fun (y : X.U.T C.i64) =>
      (cutI w none (some (IntKind.i64.wrap ((↑w.length : Int) - 1)))).bind fun (ys : List (X.U.T C.i64)) =>
        bif decide (y < 0) then fnLoop X Fb an37 lp Try.f79 0 N (S37 o out ys)
        else
          bif decide ((↑out.length : Int) ≤ y) then fnLoop X Fb an37 lp Try.f79 0 N (S37 o out ys)
          else
            if 0 ≤ y ∧ y < (↑out.length : Int) then
              out[Int.toNat y]?.bind fun (y_1 : X.U.T C.bool) =>
                bif y_1 then fnLoop X Fb an37 lp Try.f79 0 N (S37 o out ys)
                else
                  if 0 ≤ y ∧ y < (↑out.length : Int) then
                    out[Int.toNat y]?.bind fun (z : X.U.T C.bool) =>
                      if True then
                        bif (nx o y).isEmpty then
                          if (ys.length + 0) * 8 ≤ 140737488355328 then
                            fnLoop X Fb an37 lp Try.f79 0 N (S37 o (out.set (Int.toNat y) true) (ys ++ []))
                          else none
                        else
                          (unc (nx o y)).bind fun (x : Int × List Int) =>
                            if (ys.length + (x.fst :: x.snd).length) * 8 ≤ 140737488355328 then
                              fnLoop X Fb an37 lp Try.f79 0 N
                                (S37 o (out.set (Int.toNat y) true) (ys ++ x.fst :: x.snd))
                            else none
                      else none
                  else none
            else none
  else none
else some (Exit.exit 0, mkS 52 [(5, TV.full 0)] [TO.row C.bool out false] 0) := by kernel_rfl
theorem r37n (lp : Lp U) (N : Nat) (o : IRs) (out : List Bool) : (fnLoop X Fb an37 lp Try.f79 0 N.succ (S37n o out)) =
  some (Exit.exit 0, mkS 52 [(5, TV.full 0)] [TO.row C.bool out false] 0) := by kernel_rfl
/-- What is marked from a list of things to look at on. -/
def rcL (o : IRs) : Nat → List Bool → List Int → List Bool
  | 0, out, _ => out
  | N + 1, out, w => match w[w.length - 1]? with
    | none => out
    | some y => cond (decide (y < 0)) (rcL o N out (w.take (w.length - 1))) (cond (decide ((out.length : Int) ≤ y)) (rcL o N out (w.take (w.length - 1))) (match out[y.toNat]? with
      | some true => rcL o N out (w.take (w.length - 1))
      | some false => rcL o N (out.set y.toNat true) (w.take (w.length - 1) ++ nx o y)
      | none => out))
/-- How many are not marked. -/
def nf : List Bool → Nat
  | [] => 0
  | b :: l => cond b 0 1 + nf l
theorem nf_le : ∀ l : List Bool, nf l ≤ l.length
  | [] => Nat.le_refl _
  | b :: l => by
    have := nf_le l
    rw [nf, List.length_cons]
    cases b <;> simp only [cond_true, cond_false] <;> omega
theorem nf_set : ∀ (l : List Bool) (k : Nat), l[k]? = some false → nf (l.set k true) + 1 = nf l
  | [], k, h => by simp at h
  | b :: l, 0, h => by
    simp at h
    subst h
    rw [List.set_cons_zero, nf, nf]
    simp only [cond_true, cond_false]
    omega
  | b :: l, k + 1, h => by
    have := nf_set l k (by simpa using h)
    rw [List.set_cons_succ, nf, nf]
    omega
theorem nx_len (o : IRs) (n : Int) : (nx o n).length ≤ 2 := by
  unfold nx
  cases decide (n < 0) with
  | true => exact Nat.zero_le _
  | false =>
    cases decide ((o.C.length : Int) ≤ n) with
    | true => exact Nat.zero_le _
    | false =>
      simp only [cond_false]
      split
      · rename_i z _
        cases decide (z.Op = 16) <;> cases decide (z.Op = 17) <;> cases decide (z.Op = 18) <;> cases decide (z.B = z.C) <;> simp only [cond_true, cond_false, List.length_cons, List.length_nil] <;> omega
      · exact Nat.zero_le _
def E37 (out : List Bool) : Exit × TS U := (.exit 0, mkS 52 [(5, .full 0)] [.row .bool out false] 0)
theorem rounds37 (lp : Lp U) (o : IRs) : ∀ (N : Nat) (out : List Bool) (w : List Int), w.length + 3 * nf out ≤ N → N ≤ 100000000 →
    fnLoop X Fb an37 lp Try.f79 0 (N + 1) (S37 o out w) = some (E37 (rcL o (N + 1) out w)) := by
  intro N
  induction N with
  | zero =>
    intro out w h0 h1
    obtain rfl : w = [] := List.length_eq_zero_iff.1 (by omega)
    rw [r37]
    rfl
  | succ N ih =>
    intro out w h0 h1
    rw [r37, rcL]
    by_cases hw : w = []
    · subst hw; rfl
    · have hpos : 0 < w.length := List.length_pos_iff.2 hw
      have hwr : IntKind.i64.wrap ((w.length : Int) - 1) = (w.length : Int) - 1 := wrap_i64 (by omega) (by omega)
      have hx : w[w.length - 1]? = some w[w.length - 1] := List.getElem?_eq_getElem (by omega)
      have hcut : cutI w none (some ((w.length : Int) - 1)) = some (w.take (w.length - 1)) := by
        have : cutI w none (some ((w.length : Int) - 1)) = some (w.take ((w.length : Int) - 1).toNat) := if_pos ⟨by omega, by omega⟩
        rw [this, show ((w.length : Int) - 1).toNat = w.length - 1 by omega]
      have hlt : (w.take (w.length - 1)).length = w.length - 1 := by rw [List.length_take]; omega
      generalize w[w.length - 1] = y at hx
      rw [decide_eq_true (by omega : (0 : Int) < (w.length : Int)), cond_true, hwr, if_pos ⟨by omega, by omega⟩, show ((w.length : Int) - 1).toNat = w.length - 1 by omega, hx, Option.bind_some, hcut, Option.bind_some]
      dsimp only
      have key : fnLoop X Fb an37 lp Try.f79 0 (N + 1) (S37 o out (w.take (w.length - 1))) = some (E37 (rcL o (N + 1) out (w.take (w.length - 1)))) := ih _ _ (by omega) (by omega)
      by_cases hy0 : y < 0
      · rw [decide_eq_true hy0]
        exact key
      · rw [decide_eq_false hy0]
        by_cases hy1 : (out.length : Int) ≤ y
        · rw [decide_eq_true hy1]
          exact key
        · rw [decide_eq_false hy1]
          have hb : out[y.toNat]? = some out[y.toNat] := List.getElem?_eq_getElem (by omega)
          generalize out[y.toNat] = b at hb
          have hyy : 0 ≤ y ∧ y < (out.length : Int) := ⟨by omega, by omega⟩
          simp only [cond_false, if_pos hyy, hb, Option.bind_some]
          cases b with
          | true => exact key
          | false =>
            have hs := nf_set out y.toNat hb
            have hn := nx_len o y
            have fin : ∀ l : List Int, nx o y = l → fnLoop X Fb an37 lp Try.f79 0 (N + 1) (S37 o (out.set y.toNat true) (w.take (w.length - 1) ++ l)) = some (E37 (rcL o (N + 1) (out.set y.toNat true) (w.take (w.length - 1) ++ l))) := fun l hl => ih _ _ (by rw [List.length_append, hlt, ← hl]; omega) (by omega)
            simp only [cond_false, if_true]
            cases hnx : nx o y with
            | nil =>
              have hl : ((w.take (w.length - 1)).length + 0) * 8 ≤ 140737488355328 := by omega
              simp only [List.isEmpty_nil, cond_true, if_pos hl]
              exact fin [] hnx
            | cons a l =>
              have hl : ((w.take (w.length - 1)).length + (a :: l).length) * 8 ≤ 140737488355328 := by rw [hnx] at hn; omega
              simp only [List.isEmpty_cons, cond_false, unc_cons, Option.bind_some, if_pos hl]
              exact fin (a :: l) hnx
def d37 (s : TS U) : Option (IRs × List Bool × List Int) := match told s 52 [2, 5, 6] 0, s.objs with
  | some [a0, a1, a2], [o0, o1, o2] =>
    match o0 with
    | .cells [q0, q1, q2, q3, q4, q5] false =>
      match q0 with
      | .lst .i64 o_G =>
        match q1 with
        | .lst .i64 o_F =>
          match q2 with
          | .lst .i64 o_V =>
            match q3 with
            | .lst .t69 o_Fs =>
              match q4 with
              | .lst .t65 o_C =>
                match q5 with
                | .v (.int .i64 o_Main) =>
                  match o1 with
                  | .row .bool out false =>
                    match o2 with
                    | .row .i64 w false =>
                      match a0 with
                      | .ref 0 0 0 =>
                        match a1 with
                        | .full 1 =>
                          match a2 with
                          | .full 2 =>
                            some ((⟨o_G, o_F, o_V, o_Fs, o_C, o_Main⟩ : IRs), out, w)
                          | _ => none
                        | _ => none
                      | _ => none
                    | _ => none
                  | _ => none
                | _ => none
              | _ => none
            | _ => none
          | _ => none
        | _ => none
      | _ => none
    | _ => none
  | _, _ => none
theorem d37_ok {s : TS U} {o : IRs} {out : List Bool} {w : List Int} (h : d37 s = some (o, out, w)) : s = mkS (U := U) 52 ([2, 5, 6].zip ([.ref 0 0 0, .full 1, .full 2] : List (TV U))) ([o.ob, .row .bool out false, .row .i64 w false] : List (TO U)) 0 := by
  unfold d37 at h
  split at h <;> try (cases h; done)
  rename_i ht ho
  have hs := told_ok ht
  rw [ho] at hs
  repeat' split at h
  all_goals first | (cases h; done) | (cases h; exact hs)
def d37n (s : TS U) : Option (IRs × List Bool) := match told s 52 [2, 5, 6] 0, s.objs with
  | some [a0, a1, a2], [o0, o1] =>
    match o0 with
    | .cells [q0, q1, q2, q3, q4, q5] false =>
      match q0 with
      | .lst .i64 o_G =>
        match q1 with
        | .lst .i64 o_F =>
          match q2 with
          | .lst .i64 o_V =>
            match q3 with
            | .lst .t69 o_Fs =>
              match q4 with
              | .lst .t65 o_C =>
                match q5 with
                | .v (.int .i64 o_Main) =>
                  match o1 with
                  | .row .bool out false =>
                    match a0 with
                    | .ref 0 0 0 =>
                      match a1 with
                      | .full 1 =>
                        match a2 with
                        | .v (.slice none 0 0) =>
                          some ((⟨o_G, o_F, o_V, o_Fs, o_C, o_Main⟩ : IRs), out)
                        | _ => none
                      | _ => none
                    | _ => none
                  | _ => none
                | _ => none
              | _ => none
            | _ => none
          | _ => none
        | _ => none
      | _ => none
    | _ => none
  | _, _ => none
theorem d37n_ok {s : TS U} {o : IRs} {out : List Bool} (h : d37n s = some (o, out)) : s = mkS (U := U) 52 ([2, 5, 6].zip ([.ref 0 0 0, .full 1, .v (.slice none 0 0)] : List (TV U))) ([o.ob, .row .bool out false] : List (TO U)) 0 := by
  unfold d37n at h
  split at h <;> try (cases h; done)
  rename_i ht ho
  have hs := told_ok ht
  rw [ho] at hs
  repeat' split at h
  all_goals first | (cases h; done) | (cases h; exact hs)
def dd37 : TS U → Option (IRs × List Bool × List Int × Bool) := orD (fun s => (d37 s).map fun (o, out, w) => (o, out, w, true)) (fun s => (d37n s).map fun (o, out) => (o, out, [], false))
def Pre37 (n m : Nat) : Prop := n + 3 * m ≤ 100000000
instance (n m : Nat) : Decidable (Pre37 n m) := by unfold Pre37; infer_instance
def rcP (o : IRs) (out : List Bool) (w : List Int) : List Bool := rcL o (w.length + 3 * out.length + 1) out w
def lc37 : LC U := .of dd37 (fun (o, out, w, b) => Pre37 w.length out.length) (.exit 0) (fun (o, out, w, b) => (E37 (rcP o out w)).2)
def lp37 : Lp U := lpL [(0, lc37)]
theorem rounds37' (lp : Lp U) (o : IRs) (out : List Bool) (w : List Int) (h : w.length + 3 * out.length ≤ 100000000) : fnLoop X Fb an37 lp Try.f79 0 (w.length + 3 * out.length + 1) (S37 o out w) = some (E37 (rcP o out w)) := rounds37 lp o _ out w (by have := nf_le out; omega) h
theorem lp37_ok : ∀ c, Try.f79.body = some c → LpOk X Fb an37 lp37 (loops c 0) := lpL_ok (by kernel_rfl) fun b L hm st p hs => by
  cases hm with
  | tail _ h => cases h
  | head =>
    obtain ⟨⟨o, out, w, b⟩, hx, h1, rfl⟩ := LC.of_some hs
    rcases orD_some hx with hy | hy
    · rw [Option.map_eq_some_iff] at hy
      obtain ⟨⟨o', out', w'⟩, hz, he⟩ := hy
      cases he
      obtain rfl := d37_ok hz
      exact ⟨_, rounds37' _ o out w h1⟩
    · rw [Option.map_eq_some_iff] at hy
      obtain ⟨⟨o', out'⟩, hz, he⟩ := hy
      cases he
      obtain rfl := d37n_ok hz
      exact ⟨1, r37n _ 0 o out⟩
theorem e37 (o : IRs) (n : Int) : (evFn X Fb an37 lp37 Try.f79 [] [irV o, TV.v (Value.int IntKind.i64 n)]
  fun (o : List (TO X.U)) (v : TV X.U) => some (o, v)) =
  if
    0 ≤ (↑o.C.length : Int) ∧
      (↑o.C.length : Int) = (↑o.C.length : Int) ∧
        (↑o.C.length : Int) ≤ 9223372036854775807 ∧ (↑1 : Int) * (↑o.C.length : Int) ≤ 281474976710656 then
  if True then
    bif (nx o n).isEmpty then
      if Pre37 0 (List.replicate (↑o.C.length : Int).toNat false).length then
        some ([], TV.lst C.bool (rcP o (List.replicate (↑o.C.length : Int).toNat false) []))
      else none
    else
      (unc (nx o n)).bind fun (x : Int × List Int) =>
        if Pre37 (x.fst :: x.snd).length (List.replicate (↑o.C.length : Int).toNat false).length then
          some ([], TV.lst C.bool (rcP o (List.replicate (↑o.C.length : Int).toNat false) (x.fst :: x.snd)))
        else none
  else none
else none := by kernel_rfl
def reachP (o : IRs) (n : Int) : List Bool := rcP o (List.replicate (o.C.length : Int).toNat false) (nx o n)
def sReach : Spc U := .of dIi (fun (o, n) => Sn o.C.length) (fun _ => []) fun (o, n) => .lst .bool (reachP o n)
theorem sReach_ok : SpecOk Try.prog 79 sReach := by
  refine fn_ok X_ok mixed Fb_ok an37 lp37 Try.func79 (by kernel_rfl) (by kernel_rfl) lp37_ok fun objs args x hx hp => ?_
  obtain ⟨o, n⟩ := x
  obtain ⟨rfl, rfl⟩ := dIi_ok hx
  dsimp only at hp ⊢
  have hp : o.C.length ≤ 3000000 := hp
  have hn := nx_len o n
  have hr : (List.replicate (o.C.length : Int).toNat false).length = o.C.length := by rw [List.length_replicate]; omega
  refine (e37 o n).trans ?_
  rw [if_pos ⟨by omega, rfl, by omega, by omega⟩]
  unfold reachP
  cases hnx : nx o n with
  | nil =>
    have h4 : Pre37 0 (List.replicate (o.C.length : Int).toNat false).length := by show _ ≤ _; rw [hr]; omega
    simp only [if_true, List.isEmpty_nil, cond_true]
    exact if_pos h4
  | cons a l =>
    rw [hnx] at hn
    have h4 : Pre37 (a :: l).length (List.replicate (o.C.length : Int).toNat false).length := by show _ ≤ _; rw [hr]; omega
    simp only [if_true, List.isEmpty_cons, cond_false, unc_cons, Option.bind_some]
    exact if_pos h4
end Go.Proofs.Ytpkgikchphgfaaa.Fl

/- Again; awake. -/
namespace Go.Proofs.Ytpkgikchphgfaaa.Fl
open Go Go.RowKit Go.Proofs.Ytpkgikchphgfaaa.Eng
set_option linter.unusedVariables false
set_option linter.unusedSimpArgs false
set_option maxRecDepth 20000
def Fc : FuncId → Option (Spc U)
  | 79 => some sReach
  | _ => none
theorem Fc_ok : ∀ f S, Fc f = some S → SpecOk Try.prog f S := fun f S h => by
  unfold Fc at h
  split at h
  · cases h; exact sReach_ok
  · cases h
theorem e15 (o : IRs) (n : Int) : (evFn X Fc an0 lp0 Try.f36 [] [irV o, TV.v (Value.int IntKind.i64 n)]
  fun (o : List (TO X.U)) (v : TV X.U) => some (o, v)) =
  bif decide (0 ≤ n) then
  bif decide (n < (↑o.C.length : Int)) then
    if Sn o.C.length then (getI (reachP o n) n).bind fun (z : X.U.T C.bool) => some ([], TV.v (Value.bool z)) else none
  else some ([], TV.v (Value.bool false))
else some ([], TV.v (Value.bool false)) := by kernel_rfl
def agP (o : IRs) (n : Int) : Bool := cond (decide (0 ≤ n)) (cond (decide (n < (o.C.length : Int))) ((getI (reachP o n) n).getD false) false) false
def sAgain : Spc U := .of dIi (fun (o, n) => Sn o.C.length) (fun _ => []) fun (o, n) => .v (.bool (agP o n))
theorem rcL_len (o : IRs) : ∀ (N : Nat) (out : List Bool) (w : List Int), (rcL o N out w).length = out.length := by
  intro N
  induction N with
  | zero => intro out w; rfl
  | succ N ih =>
    intro out w
    rw [rcL]
    split
    · rfl
    · rename_i y _
      cases decide (y < 0) with
      | true => exact ih _ _
      | false =>
        cases decide ((out.length : Int) ≤ y) with
        | true => exact ih _ _
        | false =>
          simp only [cond_false]
          split
          · exact ih _ _
          · rw [ih, List.length_set]
          · rfl
theorem reachP_len (o : IRs) (n : Int) : (reachP o n).length = o.C.length := by
  unfold reachP rcP
  rw [rcL_len, List.length_replicate]
  omega
theorem sAgain_ok : SpecOk Try.prog 36 sAgain := by
  refine fn_ok X_ok mixed Fc_ok an0 lp0 Try.func36 (by kernel_rfl) (by kernel_rfl) (lp0_ok (by kernel_rfl)) fun objs args x hx hp => ?_
  obtain ⟨o, n⟩ := x
  obtain ⟨rfl, rfl⟩ := dIi_ok hx
  dsimp only at hp ⊢
  refine (e15 o n).trans ?_
  unfold agP
  by_cases h0 : 0 ≤ n
  · rw [decide_eq_true h0]
    by_cases h1 : n < (o.C.length : Int)
    · obtain ⟨z, hz, _⟩ := getI_lt (l := reachP o n) h0 (by rw [reachP_len]; exact h1)
      rw [decide_eq_true h1, hz]
      simp only [cond_true]
      rw [if_pos hp]
      rfl
    · rw [decide_eq_false h1]; rfl
  · rw [decide_eq_false h0]; rfl
def Fd : FuncId → Option (Spc U)
  | 9 => some sGiven
  | 13 => some sIntsO
  | 37 => some sNx
  | 36 => some sAgain
  | _ => none
theorem Fd_ok : ∀ f S, Fd f = some S → SpecOk Try.prog f S := fun f S h => by
  unfold Fd at h
  split at h
  · cases h; exact sGiven_ok
  · cases h; exact sIntsO_ok
  · cases h; exact sNx13_ok
  · cases h; exact sAgain_ok
  · cases h
theorem e11 : evFn X Fd an0 lp0 Try.f10 [] [] (fun o v => some (o, v)) = some ([], .v (.bool true)) := by kernel_rfl
def sAwake : Spc U := .of d0 (fun _ => True) (fun _ => []) fun _ => .v (.bool true)
theorem sAwake_ok : SpecOk Try.prog 10 sAwake := by
  refine fn_ok X_ok mixed Fd_ok an0 lp0 Try.func10 (by kernel_rfl) (by kernel_rfl) (lp0_ok (by kernel_rfl)) fun objs args x hx hp => ?_
  obtain ⟨rfl, rfl⟩ := d0_ok hx
  exact e11
end Go.Proofs.Ytpkgikchphgfaaa.Fl

/- What is wrong of a program: the first steps. -/
namespace Go.Proofs.Ytpkgikchphgfaaa.Ck
open Go Go.RowKit Go.Proofs.Ytpkgikchphgfaaa.Eng Go.Proofs.Ytpkgikchphgfaaa.Fl
set_option linter.unusedVariables false
set_option linter.unusedSimpArgs false
set_option maxRecDepth 20000
abbrev Mp := List (ByteArray × Int)
/-- What names stand for, and the first flaw. -/
structure SC where
  G : List R82
  F : List R82
  N : List R90
  g : Mp
  f : Mp
  n : Mp
  w : Mp
  Ret : Int
  Code : Int
  At : Int
def mO (l : Mp) : TO U := .mp .m_str_i64 l false
def scC (c : SC) : TO U := .cells [.lst .t82 c.G, .lst .t82 c.F, .lst .t90 c.N, .mp 1, .mp 2, .mp 3, .mp 4, .v (.int .i64 c.Ret), .v (.int .i64 c.Code), .v (.int .i64 c.At)] false
def scO (c : SC) : List (TO U) := [scC c, mO c.g, mO c.f, mO c.n, mO c.w]
/-- Ahead of all variables. -/
def scN (c : SC) : List (TO U) := [.cells [.lst .t82 c.G, .lst .t82 c.F, .lst .t90 c.N, .mp 1, .mp 2, .mp 3, .v (.map none), .v (.int .i64 c.Ret), .v (.int .i64 c.Code), .v (.int .i64 c.At)] false, mO c.g, mO c.f, mO c.n]
def dS4 (objs : List (TO U)) (args : List (TV U)) : Option (List R82 × List R82 × List R90 × Int × Int × Int × List (ByteArray × Int) × List (ByteArray × Int) × List (ByteArray × Int) × List (ByteArray × Int)) := match objs, args with
  | [o0, o1, o2, o3, o4], [] =>
    match o0 with
    | .cells [q0, q1, q2, q3, q4, q5, q6, q7, q8, q9] false =>
      match q0 with
      | .lst .t82 x1 =>
        match q1 with
        | .lst .t82 x2 =>
          match q2 with
          | .lst .t90 x3 =>
            match q3 with
            | .mp 1 =>
              match q4 with
              | .mp 2 =>
                match q5 with
                | .mp 3 =>
                  match q6 with
                  | .mp 4 =>
                    match q7 with
                    | .v (.int .i64 x8) =>
                      match q8 with
                      | .v (.int .i64 x9) =>
                        match q9 with
                        | .v (.int .i64 x10) =>
                          match o1 with
                          | .mp .m_str_i64 x4 false =>
                            match o2 with
                            | .mp .m_str_i64 x5 false =>
                              match o3 with
                              | .mp .m_str_i64 x6 false =>
                                match o4 with
                                | .mp .m_str_i64 x7 false =>
                                  some (x1, x2, x3, x8, x9, x10, x4, x5, x6, x7)
                                | _ => none
                              | _ => none
                            | _ => none
                          | _ => none
                        | _ => none
                      | _ => none
                    | _ => none
                  | _ => none
                | _ => none
              | _ => none
            | _ => none
          | _ => none
        | _ => none
      | _ => none
    | _ => none
  | _, _ => none
theorem dS4_ok {objs : List (TO U)} {args : List (TV U)} {x1 : List R82} {x2 : List R82} {x3 : List R90} {x8 : Int} {x9 : Int} {x10 : Int} {x4 : List (ByteArray × Int)} {x5 : List (ByteArray × Int)} {x6 : List (ByteArray × Int)} {x7 : List (ByteArray × Int)} (h : dS4 objs args = some (x1, x2, x3, x8, x9, x10, x4, x5, x6, x7)) : objs = [.cells [.lst .t82 x1, .lst .t82 x2, .lst .t90 x3, .mp 1, .mp 2, .mp 3, .mp 4, .v (.int .i64 x8), .v (.int .i64 x9), .v (.int .i64 x10)] false, .mp .m_str_i64 x4 false, .mp .m_str_i64 x5 false, .mp .m_str_i64 x6 false, .mp .m_str_i64 x7 false] ∧ args = [] := by
  unfold dS4 at h
  repeat' split at h
  all_goals first | (cases h; done) | (cases h; exact ⟨rfl, rfl⟩)
def dS3 (objs : List (TO U)) (args : List (TV U)) : Option (List R82 × List R82 × List R90 × Int × Int × Int × List (ByteArray × Int) × List (ByteArray × Int) × List (ByteArray × Int)) := match objs, args with
  | [o0, o1, o2, o3], [] =>
    match o0 with
    | .cells [q0, q1, q2, q3, q4, q5, q6, q7, q8, q9] false =>
      match q0 with
      | .lst .t82 x1 =>
        match q1 with
        | .lst .t82 x2 =>
          match q2 with
          | .lst .t90 x3 =>
            match q3 with
            | .mp 1 =>
              match q4 with
              | .mp 2 =>
                match q5 with
                | .mp 3 =>
                  match q6 with
                  | .v (.map none) =>
                    match q7 with
                    | .v (.int .i64 x8) =>
                      match q8 with
                      | .v (.int .i64 x9) =>
                        match q9 with
                        | .v (.int .i64 x10) =>
                          match o1 with
                          | .mp .m_str_i64 x4 false =>
                            match o2 with
                            | .mp .m_str_i64 x5 false =>
                              match o3 with
                              | .mp .m_str_i64 x6 false =>
                                some (x1, x2, x3, x8, x9, x10, x4, x5, x6)
                              | _ => none
                            | _ => none
                          | _ => none
                        | _ => none
                      | _ => none
                    | _ => none
                  | _ => none
                | _ => none
              | _ => none
            | _ => none
          | _ => none
        | _ => none
      | _ => none
    | _ => none
  | _, _ => none
theorem dS3_ok {objs : List (TO U)} {args : List (TV U)} {x1 : List R82} {x2 : List R82} {x3 : List R90} {x8 : Int} {x9 : Int} {x10 : Int} {x4 : List (ByteArray × Int)} {x5 : List (ByteArray × Int)} {x6 : List (ByteArray × Int)} (h : dS3 objs args = some (x1, x2, x3, x8, x9, x10, x4, x5, x6)) : objs = [.cells [.lst .t82 x1, .lst .t82 x2, .lst .t90 x3, .mp 1, .mp 2, .mp 3, .v (.map none), .v (.int .i64 x8), .v (.int .i64 x9), .v (.int .i64 x10)] false, .mp .m_str_i64 x4 false, .mp .m_str_i64 x5 false, .mp .m_str_i64 x6 false] ∧ args = [] := by
  unfold dS3 at h
  repeat' split at h
  all_goals first | (cases h; done) | (cases h; exact ⟨rfl, rfl⟩)
def dSc (objs : List (TO U)) : Option SC := (dS4 objs []).map fun (x1, x2, x3, x8, x9, x10, x4, x5, x6, x7) => ⟨x1, x2, x3, x4, x5, x6, x7, x8, x9, x10⟩
theorem dSc_ok {objs : List (TO U)} {c : SC} (h : dSc objs = some c) : objs = scO c := by
  unfold dSc at h
  obtain ⟨⟨x1, x2, x3, x8, x9, x10, x4, x5, x6, x7⟩, hx, he⟩ := Option.map_eq_some_iff.1 h
  cases he
  exact (dS4_ok hx).1
def dSn (objs : List (TO U)) : Option SC := (dS3 objs []).map fun (x1, x2, x3, x8, x9, x10, x4, x5, x6) => ⟨x1, x2, x3, x4, x5, x6, [], x8, x9, x10⟩
theorem dSn_ok {objs : List (TO U)} {c : SC} (h : dSn objs = some c) : objs = scN c ∧ c.w = [] := by
  unfold dSn at h
  obtain ⟨⟨x1, x2, x3, x8, x9, x10, x4, x5, x6⟩, hx, he⟩ := Option.map_eq_some_iff.1 h
  cases he
  exact ⟨(dS3_ok hx).1, rfl⟩
/-- A scope, and what else is handed over. -/
def dW {A : Type} (da : List (TO U) → List (TV U) → Option A) (objs : List (TO U)) (args : List (TV U)) : Option (SC × A) := (dSc objs).bind fun c => (da [] args).map fun x => (c, x)
theorem dW_ok {A : Type} {da : List (TO U) → List (TV U) → Option A} {objs : List (TO U)} {args : List (TV U)} {c : SC} {x : A} (h : dW da objs args = some (c, x)) : objs = scO c ∧ da [] args = some x := by
  unfold dW at h
  obtain ⟨c', hc, h⟩ := Option.bind_eq_some_iff.1 h
  obtain ⟨y, hy, he⟩ := Option.map_eq_some_iff.1 h
  cases he
  exact ⟨dSc_ok hc, hy⟩
def SC.fail (c : SC) (k a : Int) : SC := cond (decide (c.Code = 0)) { c with Code := k, At := a } c
def dKa (objs : List (TO U)) (args : List (TV U)) : Option (Int × Int) := match objs, args with
  | [], [a0, a1, a2] =>
    match a0 with
    | .ref 0 0 0 =>
      match a1 with
      | .v (.int .i64 k) =>
        match a2 with
        | .v (.int .i64 a) =>
          some (k, a)
        | _ => none
      | _ => none
    | _ => none
  | _, _ => none
theorem dKa_ok {objs : List (TO U)} {args : List (TV U)} {k : Int} {a : Int} (h : dKa objs args = some (k, a)) : objs = [] ∧ args = [.ref 0 0 0, .v (.int .i64 k), .v (.int .i64 a)] := by
  unfold dKa at h
  repeat' split at h
  all_goals first | (cases h; done) | (cases h; exact ⟨rfl, rfl⟩)
theorem e51 (c : SC) (k : Int) (a : Int) : (evFn X (fun (x : FuncId) => none) an0 lp0 Try.f51 (scO c)
  [TV.ref 0 0 0, TV.v (Value.int IntKind.i64 k), TV.v (Value.int IntKind.i64 a)] fun (o : List (TO X.U)) (v : TV X.U) =>
  some (o, v)) =
  bif decide (c.Code = 0) then
  some
    ([TO.cells
          [TV.lst C.t82 c.G, TV.lst C.t82 c.F, TV.lst C.t90 c.N, TV.mp 1, TV.mp 2, TV.mp 3, TV.mp 4,
            TV.v (Value.int IntKind.i64 c.Ret), TV.v (Value.int IntKind.i64 k), TV.v (Value.int IntKind.i64 a)]
          false,
        TO.mp C.m_str_i64 c.g false, TO.mp C.m_str_i64 c.f false, TO.mp C.m_str_i64 c.n false,
        TO.mp C.m_str_i64 c.w false],
      TV.tup [])
else
  some
    ([TO.cells
          [TV.lst C.t82 c.G, TV.lst C.t82 c.F, TV.lst C.t90 c.N, TV.mp 1, TV.mp 2, TV.mp 3, TV.mp 4,
            TV.v (Value.int IntKind.i64 c.Ret), TV.v (Value.int IntKind.i64 c.Code), TV.v (Value.int IntKind.i64 c.At)]
          false,
        TO.mp C.m_str_i64 c.g false, TO.mp C.m_str_i64 c.f false, TO.mp C.m_str_i64 c.n false,
        TO.mp C.m_str_i64 c.w false],
      TV.tup []) := by kernel_rfl
theorem e51n (c : SC) (k : Int) (a : Int) : (evFn X (fun (x : FuncId) => none) an0 lp0 Try.f51 (scN c)
  [TV.ref 0 0 0, TV.v (Value.int IntKind.i64 k), TV.v (Value.int IntKind.i64 a)] fun (o : List (TO X.U)) (v : TV X.U) =>
  some (o, v)) =
  bif decide (c.Code = 0) then
  some
    ([TO.cells
          [TV.lst C.t82 c.G, TV.lst C.t82 c.F, TV.lst C.t90 c.N, TV.mp 1, TV.mp 2, TV.mp 3, TV.v (Value.map none),
            TV.v (Value.int IntKind.i64 c.Ret), TV.v (Value.int IntKind.i64 k), TV.v (Value.int IntKind.i64 a)]
          false,
        TO.mp C.m_str_i64 c.g false, TO.mp C.m_str_i64 c.f false, TO.mp C.m_str_i64 c.n false],
      TV.tup [])
else
  some
    ([TO.cells
          [TV.lst C.t82 c.G, TV.lst C.t82 c.F, TV.lst C.t90 c.N, TV.mp 1, TV.mp 2, TV.mp 3, TV.v (Value.map none),
            TV.v (Value.int IntKind.i64 c.Ret), TV.v (Value.int IntKind.i64 c.Code), TV.v (Value.int IntKind.i64 c.At)]
          false,
        TO.mp C.m_str_i64 c.g false, TO.mp C.m_str_i64 c.f false, TO.mp C.m_str_i64 c.n false],
      TV.tup []) := by kernel_rfl
/-- With variables, or without. -/
def scB (b : Bool) (c : SC) : List (TO U) := match b with
  | true => scO c
  | false => scN c
def dB2 {A : Type} (da : List (TO U) → List (TV U) → Option A) (objs : List (TO U)) (args : List (TV U)) : Option ((Bool × SC) × A) := match dSc objs with
  | some c => (da [] args).map fun x => ((true, c), x)
  | none => match dSn objs with
    | some c => (da [] args).map fun x => ((false, c), x)
    | none => none
theorem dB2_ok {A : Type} {da : List (TO U) → List (TV U) → Option A} {objs : List (TO U)} {args : List (TV U)} {b : Bool} {c : SC} {x : A} (h : dB2 da objs args = some ((b, c), x)) : objs = scB b c ∧ da [] args = some x := by
  unfold dB2 at h
  split at h
  · rename_i c' hc
    obtain ⟨y, hy, he⟩ := Option.map_eq_some_iff.1 h
    cases he
    exact ⟨dSc_ok hc, hy⟩
  · split at h <;> try (cases h; done)
    rename_i c' hc
    obtain ⟨y, hy, he⟩ := Option.map_eq_some_iff.1 h
    cases he
    exact ⟨(dSn_ok hc).1, hy⟩
def sFailS : Spc U := .of (dB2 dKa) (fun _ => True) (fun ((b, c), k, a) => scB b (c.fail k a)) fun _ => .tup []
theorem sFailS_ok : SpecOk Try.prog 51 sFailS := by
  refine fn_ok X_ok mixed E0_ok an0 lp0 Try.func51 (by kernel_rfl) (by kernel_rfl) (lp0_ok (by kernel_rfl)) fun objs args x hx hp => ?_
  obtain ⟨⟨b, c⟩, k, a⟩ := x
  obtain ⟨rfl, h2⟩ := dB2_ok hx
  obtain ⟨_, rfl⟩ := dKa_ok h2
  dsimp only
  unfold SC.fail
  cases b with
  | true =>
    refine (e51 c k a).trans ?_
    cases decide (c.Code = 0) <;> rfl
  | false =>
    refine (e51n c k a).trans ?_
    cases decide (c.Code = 0) <;> rfl
/-! ### Types that are asked for, names -/
def Ca : FuncId → Option (Spc U)
  | 51 => some sFailS
  | _ => none
theorem Ca_ok : ∀ f S, Ca f = some S → SpecOk Try.prog f S := fun f S h => by
  unfold Ca at h
  split at h
  · cases h; exact sFailS_ok
  · cases h
theorem e136 (c : SC) (k : Int) (a : Int) (t : Int) : (evFn X Ca an0 lp0 Try.f136 (scO c)
  [TV.ref 0 0 0, TV.v (Value.int IntKind.i64 k), TV.v (Value.int IntKind.i64 a), TV.v (Value.int IntKind.i64 t)]
  fun (o : List (TO X.U)) (v : TV X.U) => some (o, v)) =
  bif !decide (k = a) then
  if True then
    some
      ([TO.cells
            [TV.lst C.t82 (c.fail 182 t).G, TV.lst C.t82 (c.fail 182 t).F, TV.lst C.t90 (c.fail 182 t).N, TV.mp 1,
              TV.mp 2, TV.mp 3, TV.mp 4, TV.v (Value.int IntKind.i64 (c.fail 182 t).Ret),
              TV.v (Value.int IntKind.i64 (c.fail 182 t).Code), TV.v (Value.int IntKind.i64 (c.fail 182 t).At)]
            false,
          TO.mp C.m_str_i64 (c.fail 182 t).g false, TO.mp C.m_str_i64 (c.fail 182 t).f false,
          TO.mp C.m_str_i64 (c.fail 182 t).n false, TO.mp C.m_str_i64 (c.fail 182 t).w false],
        TV.tup [])
  else none
else
  some
    ([TO.cells
          [TV.lst C.t82 c.G, TV.lst C.t82 c.F, TV.lst C.t90 c.N, TV.mp 1, TV.mp 2, TV.mp 3, TV.mp 4,
            TV.v (Value.int IntKind.i64 c.Ret), TV.v (Value.int IntKind.i64 c.Code), TV.v (Value.int IntKind.i64 c.At)]
          false,
        TO.mp C.m_str_i64 c.g false, TO.mp C.m_str_i64 c.f false, TO.mp C.m_str_i64 c.n false,
        TO.mp C.m_str_i64 c.w false],
      TV.tup []) := by kernel_rfl
def SC.want (c : SC) (h m t : Int) : SC := cond (!decide (h = m)) (c.fail 182 t) c
def dHma (objs : List (TO U)) (args : List (TV U)) : Option (Int × Int × Int) := match objs, args with
  | [], [a0, a1, a2, a3] =>
    match a0 with
    | .ref 0 0 0 =>
      match a1 with
      | .v (.int .i64 x) =>
        match a2 with
        | .v (.int .i64 m) =>
          match a3 with
          | .v (.int .i64 t) =>
            some (x, m, t)
          | _ => none
        | _ => none
      | _ => none
    | _ => none
  | _, _ => none
theorem dHma_ok {objs : List (TO U)} {args : List (TV U)} {x : Int} {m : Int} {t : Int} (h : dHma objs args = some (x, m, t)) : objs = [] ∧ args = [.ref 0 0 0, .v (.int .i64 x), .v (.int .i64 m), .v (.int .i64 t)] := by
  unfold dHma at h
  repeat' split at h
  all_goals first | (cases h; done) | (cases h; exact ⟨rfl, rfl⟩)
def sWantS : Spc U := .of (dW dHma) (fun _ => True) (fun (c, h, m, t) => scO (c.want h m t)) fun _ => .tup []
theorem sWantS_ok : SpecOk Try.prog 136 sWantS := by
  refine fn_ok X_ok mixed Ca_ok an0 lp0 Try.func136 (by kernel_rfl) (by kernel_rfl) (lp0_ok (by kernel_rfl)) fun objs args x hx hp => ?_
  obtain ⟨c, h, m, t⟩ := x
  obtain ⟨rfl, h2⟩ := dW_ok hx
  obtain ⟨_, rfl⟩ := dHma_ok h2
  dsimp only
  refine (e136 c h m t).trans ?_
  unfold SC.want
  cases decide (h = m) <;> rfl
def SC.m (c : SC) : Nat → Mp
  | 1 => c.g
  | 2 => c.f
  | 3 => c.n
  | _ => c.w
def SC.typ (c : SC) (j : Nat) (s : ByteArray) (a : Int) : SC × Int := (cond (!(aget keS (c.m j) s).isSome) (c.fail 183 a) c, (aget keS (c.m j) s).getD 0)
theorem e135a (c : SC) (s : ByteArray) (a : Int) : (evFn X Ca an0 lp0 Try.f135 (scO c)
  [TV.ref 0 0 0, TV.mp 1, TV.v (Value.string s), TV.v (Value.int IntKind.i64 a)] fun (o : List (TO X.U)) (v : TV X.U) =>
  some (o, v)) =
  bif !(aget keS c.g s).isSome then
  if True then
    some
      ([TO.cells
            [TV.lst C.t82 (c.fail 183 a).G, TV.lst C.t82 (c.fail 183 a).F, TV.lst C.t90 (c.fail 183 a).N, TV.mp 1,
              TV.mp 2, TV.mp 3, TV.mp 4, TV.v (Value.int IntKind.i64 (c.fail 183 a).Ret),
              TV.v (Value.int IntKind.i64 (c.fail 183 a).Code), TV.v (Value.int IntKind.i64 (c.fail 183 a).At)]
            false,
          TO.mp C.m_str_i64 (c.fail 183 a).g false, TO.mp C.m_str_i64 (c.fail 183 a).f false,
          TO.mp C.m_str_i64 (c.fail 183 a).n false, TO.mp C.m_str_i64 (c.fail 183 a).w false],
        TV.v (Value.int IntKind.i64 ((aget keS c.g s).getD 0)))
  else none
else
  some
    ([TO.cells
          [TV.lst C.t82 c.G, TV.lst C.t82 c.F, TV.lst C.t90 c.N, TV.mp 1, TV.mp 2, TV.mp 3, TV.mp 4,
            TV.v (Value.int IntKind.i64 c.Ret), TV.v (Value.int IntKind.i64 c.Code), TV.v (Value.int IntKind.i64 c.At)]
          false,
        TO.mp C.m_str_i64 c.g false, TO.mp C.m_str_i64 c.f false, TO.mp C.m_str_i64 c.n false,
        TO.mp C.m_str_i64 c.w false],
      TV.v (Value.int IntKind.i64 ((aget keS c.g s).getD 0))) := by kernel_rfl
theorem e135b (c : SC) (s : ByteArray) (a : Int) : (evFn X Ca an0 lp0 Try.f135 (scO c)
  [TV.ref 0 0 0, TV.mp 2, TV.v (Value.string s), TV.v (Value.int IntKind.i64 a)] fun (o : List (TO X.U)) (v : TV X.U) =>
  some (o, v)) =
  bif !(aget keS c.f s).isSome then
  if True then
    some
      ([TO.cells
            [TV.lst C.t82 (c.fail 183 a).G, TV.lst C.t82 (c.fail 183 a).F, TV.lst C.t90 (c.fail 183 a).N, TV.mp 1,
              TV.mp 2, TV.mp 3, TV.mp 4, TV.v (Value.int IntKind.i64 (c.fail 183 a).Ret),
              TV.v (Value.int IntKind.i64 (c.fail 183 a).Code), TV.v (Value.int IntKind.i64 (c.fail 183 a).At)]
            false,
          TO.mp C.m_str_i64 (c.fail 183 a).g false, TO.mp C.m_str_i64 (c.fail 183 a).f false,
          TO.mp C.m_str_i64 (c.fail 183 a).n false, TO.mp C.m_str_i64 (c.fail 183 a).w false],
        TV.v (Value.int IntKind.i64 ((aget keS c.f s).getD 0)))
  else none
else
  some
    ([TO.cells
          [TV.lst C.t82 c.G, TV.lst C.t82 c.F, TV.lst C.t90 c.N, TV.mp 1, TV.mp 2, TV.mp 3, TV.mp 4,
            TV.v (Value.int IntKind.i64 c.Ret), TV.v (Value.int IntKind.i64 c.Code), TV.v (Value.int IntKind.i64 c.At)]
          false,
        TO.mp C.m_str_i64 c.g false, TO.mp C.m_str_i64 c.f false, TO.mp C.m_str_i64 c.n false,
        TO.mp C.m_str_i64 c.w false],
      TV.v (Value.int IntKind.i64 ((aget keS c.f s).getD 0))) := by kernel_rfl
theorem e135d (c : SC) (s : ByteArray) (a : Int) : (evFn X Ca an0 lp0 Try.f135 (scO c)
  [TV.ref 0 0 0, TV.mp 4, TV.v (Value.string s), TV.v (Value.int IntKind.i64 a)] fun (o : List (TO X.U)) (v : TV X.U) =>
  some (o, v)) =
  bif !(aget keS c.w s).isSome then
  if True then
    some
      ([TO.cells
            [TV.lst C.t82 (c.fail 183 a).G, TV.lst C.t82 (c.fail 183 a).F, TV.lst C.t90 (c.fail 183 a).N, TV.mp 1,
              TV.mp 2, TV.mp 3, TV.mp 4, TV.v (Value.int IntKind.i64 (c.fail 183 a).Ret),
              TV.v (Value.int IntKind.i64 (c.fail 183 a).Code), TV.v (Value.int IntKind.i64 (c.fail 183 a).At)]
            false,
          TO.mp C.m_str_i64 (c.fail 183 a).g false, TO.mp C.m_str_i64 (c.fail 183 a).f false,
          TO.mp C.m_str_i64 (c.fail 183 a).n false, TO.mp C.m_str_i64 (c.fail 183 a).w false],
        TV.v (Value.int IntKind.i64 ((aget keS c.w s).getD 0)))
  else none
else
  some
    ([TO.cells
          [TV.lst C.t82 c.G, TV.lst C.t82 c.F, TV.lst C.t90 c.N, TV.mp 1, TV.mp 2, TV.mp 3, TV.mp 4,
            TV.v (Value.int IntKind.i64 c.Ret), TV.v (Value.int IntKind.i64 c.Code), TV.v (Value.int IntKind.i64 c.At)]
          false,
        TO.mp C.m_str_i64 c.g false, TO.mp C.m_str_i64 c.f false, TO.mp C.m_str_i64 c.n false,
        TO.mp C.m_str_i64 c.w false],
      TV.v (Value.int IntKind.i64 ((aget keS c.w s).getD 0))) := by kernel_rfl
def dJsa (objs : List (TO U)) (args : List (TV U)) : Option (Nat × ByteArray × Int) := match objs, args with
  | [], [a0, a1, a2, a3] =>
    match a0 with
    | .ref 0 0 0 =>
      match a1 with
      | .mp j =>
        match a2 with
        | .v (.string s) =>
          match a3 with
          | .v (.int .i64 a) =>
            some (j, s, a)
          | _ => none
        | _ => none
      | _ => none
    | _ => none
  | _, _ => none
theorem dJsa_ok {objs : List (TO U)} {args : List (TV U)} {j : Nat} {s : ByteArray} {a : Int} (h : dJsa objs args = some (j, s, a)) : objs = [] ∧ args = [.ref 0 0 0, .mp j, .v (.string s), .v (.int .i64 a)] := by
  unfold dJsa at h
  repeat' split at h
  all_goals first | (cases h; done) | (cases h; exact ⟨rfl, rfl⟩)
def Pj (j : Nat) : Prop := j = 1 ∨ j = 2 ∨ j = 4
instance (j : Nat) : Decidable (Pj j) := by unfold Pj; infer_instance
def sFindS : Spc U := .of (dW dJsa) (fun (c, j, s, a) => Pj j) (fun (c, j, s, a) => scO (c.typ j s a).1) fun (c, j, s, a) => .v (.int .i64 (c.typ j s a).2)
theorem sFindS_ok : SpecOk Try.prog 135 sFindS := by
  refine fn_ok X_ok mixed Ca_ok an0 lp0 Try.func135 (by kernel_rfl) (by kernel_rfl) (lp0_ok (by kernel_rfl)) fun objs args x hx hp => ?_
  obtain ⟨c, j, s, a⟩ := x
  obtain ⟨rfl, h2⟩ := dW_ok hx
  obtain ⟨_, rfl⟩ := dJsa_ok h2
  dsimp only
  unfold SC.typ
  rcases hp with rfl | rfl | rfl
  · refine (e135a c s a).trans ?_
    show _ = some (scO (cond (!(aget keS c.g s).isSome) _ _), _)
    cases (aget keS c.g s).isSome <;> rfl
  · refine (e135b c s a).trans ?_
    show _ = some (scO (cond (!(aget keS c.f s).isSome) _ _), _)
    cases (aget keS c.f s).isSome <;> rfl
  · refine (e135d c s a).trans ?_
    show _ = some (scO (cond (!(aget keS c.w s).isSome) _ _), _)
    cases (aget keS c.w s).isSome <;> rfl
/-! ### Calls -/
def Cb : FuncId → Option (Spc U)
  | 51 => some sFailS
  | 135 => some sFindS
  | 136 => some sWantS
  | _ => none
theorem Cb_ok : ∀ f S, Cb f = some S → SpecOk Try.prog f S := fun f S h => by
  unfold Cb at h
  split at h
  · cases h; exact sFailS_ok
  · cases h; exact sFindS_ok
  · cases h; exact sWantS_ok
  · cases h
def an137 : Ann := ⟨fun | 0 => 7516192773 | 2 => 16924961474604808445888517 | _ => 0, fun | 0 => 64 | 2 => 2112 | _ => 0, fun _ => [], false⟩
def S137a (c : SC) (a : Int) (l : List ByteArray) (v : Int) : TS U := mkS 108 [(0, .ref 0 0 0), (2, .v (.int .i64 a)), (30, .lst .str l), (31, .v (.int .i64 (l.length : Int))), (32, .v (.int .i64 v))] (scO c) 5
def S137b (c : SC) (z : R90) (a : Int) (l : List ByteArray) (v : Int) : TS U := mkS 108 [(0, .ref 0 0 0), (2, .v (.int .i64 a)), (11, .ref 5 0 0), (81, .lst .str l), (82, .v (.int .i64 (l.length : Int))), (83, .v (.int .i64 v))] (scO c ++ [z.ob]) 5
theorem r137a (lp : Lp
  U) (N : Nat) (c : SC) (a : Int) (l : List
  ByteArray) (v : Int) : (fnLoop X Cb an137 lp Try.f137 0 N.succ (S137a c a l v)) =
  bif decide (v < (↑l.length : Int)) then
  (getI l v).bind fun (z : X.U.T C.str) =>
    if Pj 4 then fnLoop X Cb an137 lp Try.f137 0 N (S137a (c.typ 4 z a).fst a l (IntKind.i64.wrap (v + 1))) else none
else
  some
    (Exit.exit 0,
      mkS 108 []
        [scC c, TO.mp C.m_str_i64 c.g false, TO.mp C.m_str_i64 c.f false, TO.mp C.m_str_i64 c.n false,
          TO.mp C.m_str_i64 c.w false]
        5) := by kernel_rfl
theorem r137b (lp : Lp
  U) (N : Nat) (c : SC) (z : R90) (a : Int) (l : List
  ByteArray) (v : Int) : (fnLoop X Cb an137 lp Try.f137 2 N.succ (S137b c z a l v)) =
  bif decide (v < (↑l.length : Int)) then
  (getI l v).bind fun (z_1 : X.U.T C.str) =>
    if Pj 4 then
      (getI z.Params v).bind fun (z_2 : X.U.T C.t82) =>
        if True then
          fnLoop X Cb an137 lp Try.f137 2 N
            (S137b ((c.typ 4 z_1 a).fst.want (c.typ 4 z_1 a).snd z_2.Type_ a) z a l (IntKind.i64.wrap (v + 1)))
        else none
    else none
else
  some
    (Exit.exit 2,
      mkS 108 [(11, TV.ref 5 0 0)]
        [scC c, TO.mp C.m_str_i64 c.g false, TO.mp C.m_str_i64 c.f false, TO.mp C.m_str_i64 c.n false,
          TO.mp C.m_str_i64 c.w false, z.ob]
        5) := by kernel_rfl
end Go.Proofs.Ytpkgikchphgfaaa.Ck

/- What is wrong of a program: calls. -/
namespace Go.Proofs.Ytpkgikchphgfaaa.Ck
open Go Go.RowKit Go.Proofs.Ytpkgikchphgfaaa.Eng Go.Proofs.Ytpkgikchphgfaaa.Fl
set_option linter.unusedVariables false
set_option linter.unusedSimpArgs false
set_option maxRecDepth 20000
def l137a (s : TS U) : Option (List R82 × List R82 × List R90 × Int × Int × Int × List (ByteArray × Int) × List (ByteArray × Int) × List (ByteArray × Int) × List (ByteArray × Int) × Int × List ByteArray × Int × Int) := match told s 108 [0, 2, 30, 31, 32] 5, s.objs with
  | some [a0, a1, a2, a3, a4], [o0, o1, o2, o3, o4] =>
    match o0 with
    | .cells [q0, q1, q2, q3, q4, q5, q6, q7, q8, q9] false =>
      match q0 with
      | .lst .t82 x1 =>
        match q1 with
        | .lst .t82 x2 =>
          match q2 with
          | .lst .t90 x3 =>
            match q3 with
            | .mp 1 =>
              match q4 with
              | .mp 2 =>
                match q5 with
                | .mp 3 =>
                  match q6 with
                  | .mp 4 =>
                    match q7 with
                    | .v (.int .i64 x8) =>
                      match q8 with
                      | .v (.int .i64 x9) =>
                        match q9 with
                        | .v (.int .i64 x10) =>
                          match o1 with
                          | .mp .m_str_i64 x4 false =>
                            match o2 with
                            | .mp .m_str_i64 x5 false =>
                              match o3 with
                              | .mp .m_str_i64 x6 false =>
                                match o4 with
                                | .mp .m_str_i64 x7 false =>
                                  match a0 with
                                  | .ref 0 0 0 =>
                                    match a1 with
                                    | .v (.int .i64 a) =>
                                      match a2 with
                                      | .lst .str l =>
                                        match a3 with
                                        | .v (.int .i64 n) =>
                                          match a4 with
                                          | .v (.int .i64 v) =>
                                            some (x1, x2, x3, x8, x9, x10, x4, x5, x6, x7, a, l, n, v)
                                          | _ => none
                                        | _ => none
                                      | _ => none
                                    | _ => none
                                  | _ => none
                                | _ => none
                              | _ => none
                            | _ => none
                          | _ => none
                        | _ => none
                      | _ => none
                    | _ => none
                  | _ => none
                | _ => none
              | _ => none
            | _ => none
          | _ => none
        | _ => none
      | _ => none
    | _ => none
  | _, _ => none
theorem l137a_ok {s : TS U} {x1 : List R82} {x2 : List R82} {x3 : List R90} {x8 : Int} {x9 : Int} {x10 : Int} {x4 : List (ByteArray × Int)} {x5 : List (ByteArray × Int)} {x6 : List (ByteArray × Int)} {x7 : List (ByteArray × Int)} {a : Int} {l : List ByteArray} {n : Int} {v : Int} (h : l137a s = some (x1, x2, x3, x8, x9, x10, x4, x5, x6, x7, a, l, n, v)) : s = mkS (U := U) 108 ([0, 2, 30, 31, 32].zip ([.ref 0 0 0, .v (.int .i64 a), .lst .str l, .v (.int .i64 n), .v (.int .i64 v)] : List (TV U))) ([.cells [.lst .t82 x1, .lst .t82 x2, .lst .t90 x3, .mp 1, .mp 2, .mp 3, .mp 4, .v (.int .i64 x8), .v (.int .i64 x9), .v (.int .i64 x10)] false, .mp .m_str_i64 x4 false, .mp .m_str_i64 x5 false, .mp .m_str_i64 x6 false, .mp .m_str_i64 x7 false] : List (TO U)) 5 := by
  unfold l137a at h
  split at h <;> try (cases h; done)
  rename_i ht ho
  have hs := told_ok ht
  rw [ho] at hs
  repeat' split at h
  all_goals first | (cases h; done) | (cases h; exact hs)
def l137b (s : TS U) : Option (List R82 × List R82 × List R90 × Int × Int × Int × List (ByteArray × Int) × List (ByteArray × Int) × List (ByteArray × Int) × List (ByteArray × Int) × R90 × Int × List ByteArray × Int × Int) := match told s 108 [0, 2, 11, 81, 82, 83] 5, s.objs with
  | some [a0, a1, a2, a3, a4, a5], [o0, o1, o2, o3, o4, o5] =>
    match o0 with
    | .cells [q0, q1, q2, q3, q4, q5, q6, q7, q8, q9] false =>
      match q0 with
      | .lst .t82 x1 =>
        match q1 with
        | .lst .t82 x2 =>
          match q2 with
          | .lst .t90 x3 =>
            match q3 with
            | .mp 1 =>
              match q4 with
              | .mp 2 =>
                match q5 with
                | .mp 3 =>
                  match q6 with
                  | .mp 4 =>
                    match q7 with
                    | .v (.int .i64 x8) =>
                      match q8 with
                      | .v (.int .i64 x9) =>
                        match q9 with
                        | .v (.int .i64 x10) =>
                          match o1 with
                          | .mp .m_str_i64 x4 false =>
                            match o2 with
                            | .mp .m_str_i64 x5 false =>
                              match o3 with
                              | .mp .m_str_i64 x6 false =>
                                match o4 with
                                | .mp .m_str_i64 x7 false =>
                                  match o5 with
                                  | .cells [q10, q11, q12, q13, q14, q15] false =>
                                    match q10 with
                                    | .v (.string z_Name) =>
                                      match q11 with
                                      | .v (.int .i64 z_At) =>
                                        match q12 with
                                        | .lst .t82 z_Params =>
                                          match q13 with
                                          | .v (.int .i64 z_Ret) =>
                                            match q14 with
                                            | .lst .t82 z_Vars =>
                                              match q15 with
                                              | .lst .t114 z_Body =>
                                                match a0 with
                                                | .ref 0 0 0 =>
                                                  match a1 with
                                                  | .v (.int .i64 a) =>
                                                    match a2 with
                                                    | .ref 5 0 0 =>
                                                      match a3 with
                                                      | .lst .str l =>
                                                        match a4 with
                                                        | .v (.int .i64 n) =>
                                                          match a5 with
                                                          | .v (.int .i64 v) =>
                                                            some (x1, x2, x3, x8, x9, x10, x4, x5, x6, x7, (⟨z_Name, z_At, z_Params, z_Ret, z_Vars, z_Body⟩ : R90), a, l, n, v)
                                                          | _ => none
                                                        | _ => none
                                                      | _ => none
                                                    | _ => none
                                                  | _ => none
                                                | _ => none
                                              | _ => none
                                            | _ => none
                                          | _ => none
                                        | _ => none
                                      | _ => none
                                    | _ => none
                                  | _ => none
                                | _ => none
                              | _ => none
                            | _ => none
                          | _ => none
                        | _ => none
                      | _ => none
                    | _ => none
                  | _ => none
                | _ => none
              | _ => none
            | _ => none
          | _ => none
        | _ => none
      | _ => none
    | _ => none
  | _, _ => none
theorem l137b_ok {s : TS U} {x1 : List R82} {x2 : List R82} {x3 : List R90} {x8 : Int} {x9 : Int} {x10 : Int} {x4 : List (ByteArray × Int)} {x5 : List (ByteArray × Int)} {x6 : List (ByteArray × Int)} {x7 : List (ByteArray × Int)} {z : R90} {a : Int} {l : List ByteArray} {n : Int} {v : Int} (h : l137b s = some (x1, x2, x3, x8, x9, x10, x4, x5, x6, x7, z, a, l, n, v)) : s = mkS (U := U) 108 ([0, 2, 11, 81, 82, 83].zip ([.ref 0 0 0, .v (.int .i64 a), .ref 5 0 0, .lst .str l, .v (.int .i64 n), .v (.int .i64 v)] : List (TV U))) ([.cells [.lst .t82 x1, .lst .t82 x2, .lst .t90 x3, .mp 1, .mp 2, .mp 3, .mp 4, .v (.int .i64 x8), .v (.int .i64 x9), .v (.int .i64 x10)] false, .mp .m_str_i64 x4 false, .mp .m_str_i64 x5 false, .mp .m_str_i64 x6 false, .mp .m_str_i64 x7 false, z.ob] : List (TO U)) 5 := by
  unfold l137b at h
  split at h <;> try (cases h; done)
  rename_i ht ho
  have hs := told_ok ht
  rw [ho] at hs
  repeat' split at h
  all_goals first | (cases h; done) | (cases h; exact hs)
def stA (a : Int) (c : SC) (z : ByteArray) : SC := (c.typ 4 z a).1
def stB (z : R90) (l : List ByteArray) (a : Int) (c : SC) (v : Int) : SC := match getI l v, getI z.Params v with
  | some s, some p => (c.typ 4 s a).1.want (c.typ 4 s a).2 p.Type_ a
  | _, _ => c
/-- All but the flaw stays. -/
def SC.Like (c d : SC) : Prop := ∃ k a, d = { c with Code := k, At := a }
theorem SC.Like.refl (c : SC) : c.Like c := ⟨c.Code, c.At, rfl⟩
theorem SC.Like.trans {a b c : SC} (h : a.Like b) (h2 : b.Like c) : a.Like c := by
  obtain ⟨k, x, rfl⟩ := h
  obtain ⟨k2, x2, rfl⟩ := h2
  exact ⟨k2, x2, rfl⟩
theorem SC.fail_like (c : SC) (k a : Int) : c.Like (c.fail k a) := by
  unfold SC.fail
  cases decide (c.Code = 0) with
  | true => exact ⟨k, a, rfl⟩
  | false => exact .refl c
theorem SC.want_like (c : SC) (x m t : Int) : c.Like (c.want x m t) := by
  unfold SC.want
  cases !decide (x = m) with
  | true => exact c.fail_like _ _
  | false => exact .refl c
theorem SC.typ_like (c : SC) (j : Nat) (s : ByteArray) (a : Int) : c.Like (c.typ j s a).1 := by
  unfold SC.typ
  dsimp only
  cases !(aget keS (c.m j) s).isSome with
  | true => exact c.fail_like _ _
  | false => exact .refl c
theorem stA_like (a : Int) (c : SC) (z : ByteArray) : c.Like (stA a c z) := c.typ_like _ _ _
theorem stB_like (z : R90) (l : List ByteArray) (a : Int) (c : SC) (v : Int) : c.Like (stB z l a c v) := by
  unfold stB
  split
  · exact (c.typ_like _ _ _).trans (SC.want_like _ _ _ _)
  · exact .refl c
def Z137a (c : SC) : Exit × TS U := (.exit 0, mkS 108 [] (scO c) 5)
def Z137b (c : SC) (z : R90) : Exit × TS U := (.exit 2, mkS 108 [(11, .ref 5 0 0)] (scO c ++ [z.ob]) 5)
theorem rounds137a (lp : Lp U) (a : Int) {l : List ByteArray} (hl : l.length ≤ 3000000) (c : SC) : fnLoop X Cb an137 lp Try.f137 0 (l.length + 1) (S137a c a l 0) = some (Z137a (l.foldl (stA a) c)) := by
  have h := ixL_rounds (fnl := fun n st => fnLoop X Cb an137 lp Try.f137 0 n st) (fun c v => S137a c a l v) Z137a (len := l.length) (step := stepI l (stA a)) (fun _ _ => True) (fun c v N _ h0 h1 => by
    obtain ⟨z, hz, _⟩ := getI_lt h0 h1
    have hw : IntKind.i64.wrap (v + 1) = v + 1 := wrap_i64 (by omega) (by omega)
    have hst : stepI l (stA a) c v = stA a c z := by unfold stepI; rw [hz]
    refine ⟨?_, trivial⟩
    dsimp only
    rw [r137a, decide_eq_true h1, hz, hw, hst]
    have h4 : Pj 4 := .inr (.inr rfl)
    rw [cond_true, Option.bind_some, if_pos h4]
    rfl) (fun c v N _ h0 h1 => by dsimp only; rw [r137a, decide_eq_false h1]; rfl) l.length c 0 (Int.le_refl _) (by omega) trivial
  rw [ixL_all] at h
  exact h
def allB2 (z : R90) (l : List ByteArray) (a : Int) (c : SC) : SC := ixL l.length (stB z l a) (l.length + 1) c 0
theorem rounds137b (lp : Lp U) (z : R90) (a : Int) {l : List ByteArray} (hl : l.length ≤ 3000000) (hp : l.length ≤ z.Params.length) (c : SC) : fnLoop X Cb an137 lp Try.f137 2 (l.length + 1) (S137b c z a l 0) = some (Z137b (allB2 z l a c) z) :=
  ixL_rounds (fnl := fun n st => fnLoop X Cb an137 lp Try.f137 2 n st) (fun c v => S137b c z a l v) (fun c => Z137b c z) (len := l.length) (step := stB z l a) (fun _ _ => True) (fun c v N _ h0 h1 => by
    obtain ⟨x, hx, _⟩ := getI_lt h0 h1
    obtain ⟨p, hp, _⟩ := getI_lt (l := z.Params) h0 (by omega)
    have hw : IntKind.i64.wrap (v + 1) = v + 1 := wrap_i64 (by omega) (by omega)
    have hst : stB z l a c v = (c.typ 4 x a).1.want (c.typ 4 x a).2 p.Type_ a := by unfold stB; rw [hx, hp]
    refine ⟨?_, trivial⟩
    dsimp only
    have h4 : Pj 4 := .inr (.inr rfl)
    rw [r137b, decide_eq_true h1, hx, hw, hst, cond_true, Option.bind_some, if_pos h4, hp, Option.bind_some, if_pos trivial]) (fun c v N _ h0 h1 => by dsimp only; rw [r137b, decide_eq_false h1]; rfl) l.length c 0 (Int.le_refl _) (by omega) trivial
def dl137a (s : TS U) : Option (SC × Int × List ByteArray × Int × Int) := (l137a s).map fun (x1, x2, x3, x8, x9, x10, x4, x5, x6, x7, a, l, n, v) => (⟨x1, x2, x3, x4, x5, x6, x7, x8, x9, x10⟩, a, l, n, v)
def dl137b (s : TS U) : Option (SC × R90 × Int × List ByteArray × Int × Int) := (l137b s).map fun (x1, x2, x3, x8, x9, x10, x4, x5, x6, x7, z, a, l, n, v) => (⟨x1, x2, x3, x4, x5, x6, x7, x8, x9, x10⟩, z, a, l, n, v)
def Pa (l : List ByteArray) (n v : Int) : Prop := l.length ≤ 3000000 ∧ n = l.length ∧ v = 0
instance (l : List ByteArray) (n v : Int) : Decidable (Pa l n v) := by unfold Pa; infer_instance
def Pb (z : R90) (l : List ByteArray) (n v : Int) : Prop := l.length ≤ 3000000 ∧ l.length ≤ z.Params.length ∧ n = l.length ∧ v = 0
instance (z : R90) (l : List ByteArray) (n v : Int) : Decidable (Pb z l n v) := by unfold Pb; infer_instance
def lc137a : LC U := .of dl137a (fun (c, a, l, n, v) => Pa l n v) (.exit 0) (fun (c, a, l, n, v) => (Z137a (l.foldl (stA a) c)).2)
def lc137b : LC U := .of dl137b (fun (c, z, a, l, n, v) => Pb z l n v) (.exit 2) (fun (c, z, a, l, n, v) => (Z137b (allB2 z l a c) z).2)
def lp137 : Lp U := lpL [(0, lc137a), (2, lc137b)]
theorem lp137_ok : ∀ c, Try.f137.body = some c → LpOk X Cb an137 lp137 (loops c 0) := lpL_ok (by kernel_rfl) fun b L hm st p hs => by
  cases hm with
  | head =>
    obtain ⟨⟨c, a, l, n, v⟩, hx, ⟨h1, rfl, rfl⟩, rfl⟩ := LC.of_some hs
    unfold dl137a at hx
    obtain ⟨⟨x1, x2, x3, x8, x9, x10, x4, x5, x6, x7, a, l, n, v⟩, hy, he⟩ := Option.map_eq_some_iff.1 hx
    cases he
    obtain rfl := l137a_ok hy
    exact ⟨_, rounds137a _ a h1 ⟨x1, x2, x3, x4, x5, x6, x7, x8, x9, x10⟩⟩
  | tail _ hm =>
    cases hm with
    | head =>
      obtain ⟨⟨c, z, a, l, n, v⟩, hx, ⟨h1, h2, rfl, rfl⟩, rfl⟩ := LC.of_some hs
      unfold dl137b at hx
      obtain ⟨⟨x1, x2, x3, x8, x9, x10, x4, x5, x6, x7, z, a, l, n, v⟩, hy, he⟩ := Option.map_eq_some_iff.1 hx
      cases he
      obtain rfl := l137b_ok hy
      exact ⟨_, rounds137b _ z a h1 h2 ⟨x1, x2, x3, x4, x5, x6, x7, x8, x9, x10⟩⟩
    | tail _ hm => cases hm
/-- What a call comes to. -/
def SC.call (c : SC) (e : R112) (a : Int) : SC × Int := cond (decide (e.Kind = 11)) (e.Args.foldl (stA a) ((c.typ 4 e.A a).1.want (c.typ 4 e.A a).2 3 a), 0) (match aget keS c.n e.A with
  | none => (c.fail 183 a, 0)
  | some v => match getI c.N v with
    | none => (c, 0)
    | some z => cond (!decide ((z.Params.length : Int) = e.Args.length)) (c.fail 182 a, z.Ret) (allB2 z e.Args a c, z.Ret))
theorem e137 (c : SC) (e : R112) (a : Int) : (evFn X Cb an137 lp137 Try.f137 (scO c)
  [TV.ref 0 0 0, e.tv, TV.v (Value.int IntKind.i64 a)] fun (o : List (TO X.U)) (v : TV X.U) => some (o, v)) =
  bif decide (e.Kind = 11) then
  if Pj 4 then
    if True then
      if Pa e.Args (↑e.Args.length : Int) 0 then
        some
          ([scC (List.foldl (stA a) ((c.typ 4 e.A a).fst.want (c.typ 4 e.A a).snd 3 a) e.Args),
              TO.mp C.m_str_i64 (List.foldl (stA a) ((c.typ 4 e.A a).fst.want (c.typ 4 e.A a).snd 3 a) e.Args).g false,
              TO.mp C.m_str_i64 (List.foldl (stA a) ((c.typ 4 e.A a).fst.want (c.typ 4 e.A a).snd 3 a) e.Args).f false,
              TO.mp C.m_str_i64 (List.foldl (stA a) ((c.typ 4 e.A a).fst.want (c.typ 4 e.A a).snd 3 a) e.Args).n false,
              TO.mp C.m_str_i64 (List.foldl (stA a) ((c.typ 4 e.A a).fst.want (c.typ 4 e.A a).snd 3 a) e.Args).w false],
            TV.v (Value.int IntKind.i64 0))
      else none
    else none
  else none
else
  bif !(aget keS c.n e.A).isSome then
    if True then
      some
        ([scC (c.fail 183 a), TO.mp C.m_str_i64 (c.fail 183 a).g false, TO.mp C.m_str_i64 (c.fail 183 a).f false,
            TO.mp C.m_str_i64 (c.fail 183 a).n false, TO.mp C.m_str_i64 (c.fail 183 a).w false],
          TV.v (Value.int IntKind.i64 0))
    else none
  else
    (getI c.N ((aget keS c.n e.A).getD 0)).bind fun (z : X.U.T C.t90) =>
      bif !decide ((↑z.Params.length : Int) = (↑e.Args.length : Int)) then
        if True then
          some
            ([scC (c.fail 182 a), TO.mp C.m_str_i64 (c.fail 182 a).g false, TO.mp C.m_str_i64 (c.fail 182 a).f false,
                TO.mp C.m_str_i64 (c.fail 182 a).n false, TO.mp C.m_str_i64 (c.fail 182 a).w false],
              TV.v (Value.int IntKind.i64 z.Ret))
        else none
      else
        if Pb z e.Args (↑e.Args.length : Int) 0 then
          some
            ([scC (allB2 z e.Args a c), TO.mp C.m_str_i64 (allB2 z e.Args a c).g false,
                TO.mp C.m_str_i64 (allB2 z e.Args a c).f false, TO.mp C.m_str_i64 (allB2 z e.Args a c).n false,
                TO.mp C.m_str_i64 (allB2 z e.Args a c).w false],
              TV.v (Value.int IntKind.i64 z.Ret))
        else none := by kernel_rfl
/-- The functions that names stand for are there. -/
def NOk (c : SC) : Prop := ∀ s v, aget keS c.n s = some v → 0 ≤ v ∧ v < (c.N.length : Int)
def PreC (c : SC) (e : R112) : Prop := NOk c ∧ e.Args.length ≤ 3000000
noncomputable instance (c : SC) (e : R112) : Decidable (PreC c e) := Classical.propDecidable _
def dEa (objs : List (TO U)) (args : List (TV U)) : Option (R112 × Int) := match objs, args with
  | [], [a0, a1, a2] =>
    match a0 with
    | .ref 0 0 0 =>
      match a1 with
      | .agg [q0, q1, q2, q3, q4, q5] =>
        match q0 with
        | .v (.int .i64 e_Kind) =>
          match q1 with
          | .v (.string e_A) =>
            match q2 with
            | .v (.string e_B) =>
              match q3 with
              | .v (.int .i64 e_Op) =>
                match q4 with
                | .v (.int .i64 e_N) =>
                  match q5 with
                  | .lst .str e_Args =>
                    match a2 with
                    | .v (.int .i64 a) =>
                      some ((⟨e_Kind, e_A, e_B, e_Op, e_N, e_Args⟩ : R112), a)
                    | _ => none
                  | _ => none
                | _ => none
              | _ => none
            | _ => none
          | _ => none
        | _ => none
      | _ => none
    | _ => none
  | _, _ => none
theorem dEa_ok {objs : List (TO U)} {args : List (TV U)} {e : R112} {a : Int} (h : dEa objs args = some (e, a)) : objs = [] ∧ args = [.ref 0 0 0, e.tv, .v (.int .i64 a)] := by
  unfold dEa at h
  repeat' split at h
  all_goals first | (cases h; done) | (cases h; exact ⟨rfl, rfl⟩)
noncomputable def sCallS : Spc U := .of (dW dEa) (fun (c, e, a) => PreC c e) (fun (c, e, a) => scO (c.call e a).1) fun (c, e, a) => .v (.int .i64 (c.call e a).2)
theorem sCallS_ok : SpecOk Try.prog 137 sCallS := by
  refine fn_ok X_ok mixed Cb_ok an137 lp137 Try.func137 (by kernel_rfl) (by kernel_rfl) lp137_ok fun objs args x hx hp => ?_
  obtain ⟨c, e, a⟩ := x
  obtain ⟨rfl, h2⟩ := dW_ok hx
  obtain ⟨_, rfl⟩ := dEa_ok h2
  dsimp only
  obtain ⟨hN, hA⟩ := hp
  refine (e137 c e a).trans ?_
  have h4 : Pj 4 := .inr (.inr rfl)
  have ha : Pa e.Args e.Args.length 0 := ⟨hA, rfl, rfl⟩
  unfold SC.call
  cases decide (e.Kind = 11) with
  | true =>
    rw [cond_true, cond_true, if_pos h4, if_pos trivial, if_pos ha]
    rfl
  | false =>
    rw [cond_false, cond_false]
    cases hn : aget keS c.n e.A with
    | none => rfl
    | some v =>
      obtain ⟨h0, h1⟩ := hN _ _ hn
      obtain ⟨z, hz, _⟩ := getI_lt h0 h1
      simp only [Option.isSome_some, Bool.not_true, cond_false, Option.getD_some, hz, Option.bind_some]
      by_cases hl : (z.Params.length : Int) = e.Args.length
      · have hb : Pb z e.Args e.Args.length 0 := ⟨hA, by omega, rfl, rfl⟩
        rw [decide_eq_true hl, Bool.not_true, cond_false, cond_false, if_pos hb]
        rfl
      · rw [decide_eq_false hl, Bool.not_false, cond_true, cond_true, if_pos trivial]
        rfl
theorem fold_like {α : Type} {f : SC → α → SC} (h : ∀ (c : SC) x, c.Like (f c x)) : ∀ (l : List α) (c : SC), c.Like (l.foldl f c)
  | [], c => .refl c
  | x :: l, c => (h c x).trans (fold_like h l _)
theorem ixL_like {f : SC → Int → SC} {len : Int} (h : ∀ (c : SC) x, c.Like (f c x)) : ∀ (N : Nat) (c : SC) (v : Int), c.Like (ixL len f N c v) := by
  intro N
  induction N with
  | zero => intro c v; exact .refl c
  | succ N ih =>
    intro c v
    rw [ixL]
    split
    · exact (h c v).trans (ih _ _)
    · exact .refl c
theorem SC.call_like (c : SC) (e : R112) (a : Int) : c.Like (c.call e a).1 := by
  unfold SC.call
  cases decide (e.Kind = 11) with
  | true => exact ((c.typ_like _ _ _).trans (SC.want_like _ _ _ _)).trans (fold_like (stA_like a) _ _)
  | false =>
    rw [cond_false]
    split
    · exact c.fail_like _ _
    · split
      · exact .refl c
      · rename_i z _
        cases !decide ((z.Params.length : Int) = e.Args.length) with
        | true => exact c.fail_like _ _
        | false => exact ixL_like (stB_like z e.Args a) _ _ _
end Go.Proofs.Ytpkgikchphgfaaa.Ck


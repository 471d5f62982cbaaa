/- Texts of this claim, put together: part 28. -/
import Derived.Test.YtpkgikchphgfaaaMwX
import Derived.Test.YtpkgikchphgfaaaMwYC
/- The program's lowerer: a function, put together. -/
namespace Go.Proofs.Ytpkgikchphgfaaa.Lw
open Go Go.RowKit Go.Proofs.Ytpkgikchphgfaaa.Eng Go.Proofs.Ytpkgikchphgfaaa.Fl
set_option linter.unusedVariables false
set_option linter.unusedSimpArgs false
set_option maxRecDepth 20000
noncomputable def in28 : List (Nat × LC U) := [(4, LC.run X Lg an28 [] Try.f28 4)]
/-- What a function leaves. -/
def ftZ (s : LB) (z : R90) (v : Int) : LB × Bool × List Int := ft z.Params.length (z.Params ++ z.Vars) 0 (s.at0 v, false, [])
def nxt (s : LB) (z : R90) (v : Int) : LB := (ftZ s z v).1.endF z s.C.length (ftZ s z v).2.2 (pL (ftZ s z v).1.base z.Body s.C ++ [atI v z.At (ins3 16 (-1) 0 0 0 0)])
theorem ft_inv (np : Int) : ∀ (d : List R82) (i : Int) (s : LB) (pB : Bool) (ps : List Int), s.Ok → (pB = false → ps = []) →
    (ft np d i (s, pB, ps)).1.Ok ∧ ((ft np d i (s, pB, ps)).2.1 = false → (ft np d i (s, pB, ps)).2.2 = []) ∧ (ft np d i (s, pB, ps)).1.C = s.C ∧ (ft np d i (s, pB, ps)).1.Fs = s.Fs ∧ (ft np d i (s, pB, ps)).1.fn = s.fn ∧ (ft np d i (s, pB, ps)).1.V = s.V ++ d.map R82.Type_ ∧ (ft np d i (s, pB, ps)).1.G = s.G ∧ (ft np d i (s, pB, ps)).1.F = s.F ∧ (ft np d i (s, pB, ps)).1.M = s.M ∧ (ft np d i (s, pB, ps)).1.mG = s.mG ∧ (ft np d i (s, pB, ps)).1.mF = s.mF ∧ (ft np d i (s, pB, ps)).1.mN = s.mN
  | [], i, s, pB, ps, hs, hp => ⟨hs, hp, rfl, rfl, rfl, by rw [ft]; simp, rfl, rfl, rfl, rfl, rfl, rfl⟩
  | x :: d, i, s, pB, ps, hs, hp => by
    have h := fun pB' ps' hp' => ft_inv np d (i + 1) (s.addV x) pB' ps' ⟨fun h => (by cases h), hs.2.1, hs.2.2⟩ hp'
    rw [ft]
    cases decide (i < np) with
    | true =>
      rw [cond_true]
      obtain ⟨a, b, c1, c2, c3, c4, c5, c6, c7, c8, c9, c10⟩ := h true (ps ++ [(s.V.length : Int)]) (fun h => by cases h)
      exact ⟨a, b, c1, c2, c3, by rw [c4]; show s.V ++ [x.Type_] ++ _ = _; rw [List.map_cons, List.append_assoc]; rfl, c5, c6, c7, c8, c9, c10⟩
    | false =>
      rw [cond_false]
      obtain ⟨a, b, c1, c2, c3, c4, c5, c6, c7, c8, c9, c10⟩ := h pB ps hp
      exact ⟨a, b, c1, c2, c3, by rw [c4]; show s.V ++ [x.Type_] ++ _ = _; rw [List.map_cons, List.append_assoc]; rfl, c5, c6, c7, c8, c9, c10⟩
theorem r28d0 (lp : Lp U) (s : LB) (l : List R90) (v : Int) (z : R90) (f : Int) : fnLoop X Lg an28 lp Try.f28 4 1 (S28d s l v z f false [] false [] 0) = some (Z28d s l v z f false []) := by
  obtain ⟨G, F, vB, V, fB, Fs, cB, C, M, a, b, c, d, n⟩ := s
  cases vB <;> cases fB <;> cases cB <;> kernel_rfl
theorem n28d (s : LB) (l : List R90) (v : Int) (z : R90) (f : Int) (dB : Bool) (d : List R82) : evNorm (X := X) (an28.live 4) (S28d s l v z f false [] dB d 0) = some (S28d s l v z f false [] dB d 0) := by
  obtain ⟨G, F, vB, V, fB, Fs, cB, C, M, a, b, c, e, n⟩ := s
  cases vB <;> cases fB <;> cases cB <;> cases dB <;> kernel_rfl
theorem n28b (s : LB) (mB : Bool) (l : List R90) (v : Int) : evNorm (X := X) (an28.live 2) (S28b s mB l v) = some (S28b s mB l v) := by
  obtain ⟨G, F, vB, V, fB, Fs, cB, C, M, a, b, c, e, n⟩ := s
  cases vB <;> cases fB <;> cases cB <;> cases mB <;> kernel_rfl
theorem eR26 (R : Type) (K : Exit → TS U → Option R) (lp : Lp U) (s : LB) (l : List R90) (v : Int) : evC X Lg an28 lp (sR (sR (sR L2))) 2 (S28b s true l v) K = K .normal (S28b s true l (IntKind.i64.wrap (v + 1))) := by
  obtain ⟨G, F, vB, V, fB, Fs, cB, C, M, a, b, c, e, n⟩ := s
  cases vB <;> cases fB <;> cases cB <;> kernel_rfl
section
variable {R : Type} {E : FuncId → Option (Spc X.U)} {an : Ann} {lp : Lp X.U}
theorem evC_cg {x y y' : Code} {b : Nat} (h : ∀ (s : TS X.U) (K : Exit → TS X.U → Option R), evC X E an lp y b s K = evC X E an lp y' b s K) (s : TS X.U) (K : Exit → TS X.U → Option R) : evC X E an lp (.seq x y) b s K = evC X E an lp (.seq x y') b s K := by
  rw [evC_seq, evC_seq]
  congr 1
  funext ex s'
  cases ex with
  | normal => exact h s' K
  | _ => rfl
theorem evC_as {x y z : Code} {b : Nat} (s : TS X.U) (K : Exit → TS X.U → Option R) : evC X E an lp (.seq x (.seq y z)) b s K = evC X E an lp (.seq (.seq x y) z) b s K := by
  rw [evC_seq, evC_seq, evC_seq]
  congr 1
  funext ex s'
  cases ex <;> rfl
end
theorem evB3 {R : Type} (s : TS U) (K : Exit → TS U → Option R) (lp : Lp U) : evC X Lg an28 lp B3 3 s K = evC X Lg an28 lp (.seq P3 (.seq (.block 4 (.loop (loopAt Try.f28 4))) (sR C3))) 3 s K := by
  rw [hB3]
  have h1 := fun (s : TS U) (K : Exit → TS U → Option R) => (evC_as (E := Lg) (an := an28) (lp := lp) (x := sL (sL C3)) (y := .block 4 (.loop (loopAt Try.f28 4))) (z := sR C3) (b := 3) s K).symm
  have h2 := fun (s : TS U) (K : Exit → TS U → Option R) => (evC_cg (x := sL (sR (sR B3))) h1 s K).trans (evC_as s K)
  have h3 := fun (s : TS U) (K : Exit → TS U → Option R) => (evC_cg (x := sL (sR B3)) h2 s K).trans (evC_as s K)
  have h4 := fun (s : TS U) (K : Exit → TS U → Option R) => (evC_cg (x := sL B3) h3 s K).trans (evC_as s K)
  exact h4 s K
theorem evL2 {R : Type} (s : TS U) (K : Exit → TS U → Option R) (lp : Lp U) : evC X Lg an28 lp L2 2 s K = evC X Lg an28 lp (.seq H2 (.seq (.block 3 B3) (sR (sR (sR L2))))) 2 s K := by
  conv => lhs; rw [hL2]
  exact evC_as s K
theorem e4 {R : Type} (K : Exit → TS U → Option R) (s : LB) (l : List R90) (v : Int) (z : R90) (f : Int) (dB : Bool) (d : List R82) (hs : s.Ok) (hd : d.length ≤ 3000000) (hV : s.V.length + d.length ≤ 3000000) (hB : dB = false → d = []) :
    (lpL in28).F 4 (S28d s l v z f false [] dB d 0) K = K (.exit 4) (Z28d (ft z.Params.length d 0 (s, false, [])).1 l v z f (ft z.Params.length d 0 (s, false, [])).2.1 (ft z.Params.length d 0 (s, false, [])).2.2).2 := by
  cases dB with
  | true => exact run_F (X := X) Lg_ok (rounds28d (lpL []) l v z f d hd d.length s false [] 0 hs.1 (fun _ => rfl) (Int.le_refl 0) (by omega) (Int.le_refl 0) (by omega)) K
  | false =>
    obtain rfl := hB rfl
    exact run_F (X := X) Lg_ok (r28d0 (lpL []) s l v z f) K
theorem fin2 {R : Type} (K : Exit → TS U → Option R) (s : LB) (l : List R90) (v : Int) (z : R90) (dB : Bool) (hs : s.Ok) (hV : s.V.length + (z.Params ++ z.Vars).length ≤ 3000000) (hC : s.C.length + 2 * cntL z.Body + 1 ≤ 3000000) (hF : s.Fs.length ≤ 1000000) (hB : dB = false → z.Params ++ z.Vars = []) :
    evC X Lg an28 (lpL in28) (.seq (.block 4 (.loop (loopAt Try.f28 4))) (sR C3)) 3 (S28d (s.at0 v) l v z s.C.length false [] dB (z.Params ++ z.Vars) 0) K = K .normal (S28b (nxt s z v) true l v) := by
  have h0 : (s.at0 v).Ok := hs
  obtain ⟨i1, i2, i3, i4, i5, i6, _⟩ := ft_inv z.Params.length (z.Params ++ z.Vars) 0 (s.at0 v) false [] h0 (fun _ => rfl)
  rw [evC_seq, evC_block, evC_loop, n28d]
  dsimp only
  rw [e4 _ (s.at0 v) l v z s.C.length dB _ h0 (by omega) hV hB]
  show evC X Lg an28 (lpL in28) (sR C3) 3 (Z28d (ftZ s z v).1 l v z s.C.length (ftZ s z v).2.1 (ftZ s z v).2.2).2 K = _
  have e3 : (ftZ s z v).1.C = s.C := i3
  have e5 : (ftZ s z v).1.fn = v := i5
  have e6 : (ftZ s z v).1.Fs = s.Fs := i4
  rw [eTl R K (lpL in28) (ftZ s z v).1 i1 l v z s.C.length (ftZ s z v).2.1 (ftZ s z v).2.2 i2, e3, if_pos (by unfold PreBk; omega), emp (ftZ s z v).1.base z.Body s.C (tl7 K (ftZ s z v).1 l v z s.C.length (ftZ s z v).2.2)]
  have hl := pL_len (ftZ s z v).1.base z.Body s.C
  unfold tl7
  rw [if_pos (by unfold Sn; omega), if_pos trivial, e6, if_pos (by omega), e5]
  rfl
theorem round2 {R : Type} (K : Exit → TS U → Option R) (s : LB) (mB : Bool) (l : List R90) (v : Int) (z : R90) (hs : s.Ok) (hv : v < (l.length : Int)) (hz : getI l v = some z) (hV : s.V.length + (z.Params ++ z.Vars).length ≤ 3000000) (hC : s.C.length + 2 * cntL z.Body + 1 ≤ 3000000) (hF : s.Fs.length ≤ 1000000) :
    evC X Lg an28 (lpL in28) L2 2 (S28b s mB l v) K = K .normal (S28b (nxt s z v) true l (IntKind.i64.wrap (v + 1))) := by
  have hlen : (z.Params ++ z.Vars).length = z.Params.length + z.Vars.length := List.length_append
  rw [evL2, evC_seq, eH2, decide_eq_true hv, cond_true]
  dsimp only
  rw [evC_seq, evC_block, evB3, evC_seq, eP3 _ _ _ s mB l v hs, hz, Option.bind_some, if_pos trivial]
  dsimp only
  have key : ∀ (K' : Exit → TS U → Option R) (dB : Bool) (d : List R82), d = z.Params ++ z.Vars → (dB = false → d = []) → evC X Lg an28 (lpL in28) (.seq (.block 4 (.loop (loopAt Try.f28 4))) (sR C3)) 3 (S28d (s.at0 v) l v z s.C.length false [] dB d 0) K' = K' .normal (S28b (nxt s z v) true l v) := fun K' dB d hd hB => by
    subst hd
    exact fin2 K' s l v z dB hs hV hC hF hB
  cases hp : z.Params with
  | nil =>
    cases hw : z.Vars with
    | nil =>
      simp only [List.isEmpty_nil, cond_true]
      rw [key _ false [] (by rw [hp, hw]; rfl) (fun _ => rfl)]
      dsimp only
      rw [eR26]
    | cons y ys =>
      simp only [List.isEmpty_nil, List.isEmpty_cons, cond_true, cond_false]
      rw [← hw, if_pos (by omega), key _ true z.Vars (by rw [hp]; rfl) (fun h => by cases h)]
      dsimp only
      rw [eR26]
  | cons y ys =>
    simp only [List.isEmpty_cons, cond_false]
    rw [← hp, if_pos (by omega), if_pos (by omega), key _ true (z.Params ++ z.Vars) rfl (fun h => by cases h)]
    dsimp only
    rw [eR26]
end Go.Proofs.Ytpkgikchphgfaaa.Lw
/- The program's lowerer: all functions. -/
namespace Go.Proofs.Ytpkgikchphgfaaa.Lw
open Go Go.RowKit Go.Proofs.Ytpkgikchphgfaaa.Eng Go.Proofs.Ytpkgikchphgfaaa.Fl
set_option linter.unusedVariables false
set_option linter.unusedSimpArgs false
set_option maxRecDepth 20000
def lwP : List R90 → LB → Int → LB
  | [], s, _ => s
  | z :: r, s, v => lwP r (nxt s z v) (v + 1)
def E28 (s : LB) (mB : Bool) : TS U := mkS 165 [(2, .ref 0 0 0), (3, .ref 1 0 0)] (s.obQ mB) 0
theorem nT1 (s : LB) (mB : Bool) (l : List R90) (v : Int) : evNorm (X := X) (an28.out 2) (T1 s mB l v false) = some (E28 s mB) := by
  obtain ⟨G, F, vB, V, fB, Fs, cB, C, M, a, b, c, e, n⟩ := s
  cases vB <;> cases fB <;> cases cB <;> cases mB <;> kernel_rfl
def Bd (s : LB) (r : List R90) : Prop := s.V.length + fnsW r ≤ 1000000 ∧ s.C.length + 3 * fnsW r ≤ 3000000 ∧ s.Fs.length + fnsW r ≤ 1000000
theorem nxt_ok {s : LB} {z : R90} {v : Int} {r : List R90} (hs : s.Ok) (hb : Bd s (z :: r)) : (nxt s z v).Ok ∧ Bd (nxt s z v) r := by
  obtain ⟨i1, i2, i3, i4, i5, i6, _⟩ := ft_inv z.Params.length (z.Params ++ z.Vars) 0 (s.at0 v) false [] hs (fun _ => rfl)
  obtain ⟨b1, b2, b3⟩ := hb
  rw [fnsW, fnW] at b1 b2 b3
  have e6 : (ftZ s z v).1.V = s.V ++ (z.Params ++ z.Vars).map R82.Type_ := i6
  have e4 : (ftZ s z v).1.Fs = s.Fs := i4
  have hl := pL_len (ftZ s z v).1.base z.Body s.C
  refine ⟨⟨i1.1, fun h => (by cases h), fun h => by cases h⟩, ?_, ?_, ?_⟩
  · show (ftZ s z v).1.V.length + _ ≤ _
    rw [e6, List.length_append, List.length_map, List.length_append]
    omega
  · show (pL (ftZ s z v).1.base z.Body s.C ++ [_]).length + _ ≤ _
    rw [List.length_append, List.length_singleton]
    omega
  · show ((ftZ s z v).1.Fs ++ [_]).length + _ ≤ _
    rw [e4, List.length_append, List.length_singleton]
    omega
theorem rounds2 (l : List R90) (hl : l.length ≤ 1000000) : ∀ (r : List R90) (s : LB) (mB : Bool) (v : Int), 0 ≤ v → l.drop v.toNat = r → s.Ok → Bd s r → fnLoop X Lg an28 (lpL in28) Try.f28 2 (r.length + 1) (S28b s mB l v) = some (.exit 2, E28 (lwP r s v) (mB || !r.isEmpty))
  | [], s, mB, v, h0, hr, hs, hb => by
    have hlen : ¬ v < (l.length : Int) := by
      have := congrArg List.length hr
      rw [List.length_drop, List.length_nil] at this
      omega
    show fnLoop X Lg an28 (lpL in28) Try.f28 2 1 _ = _
    rw [fnLoop_succ]
    show evC X Lg an28 (lpL in28) L2 2 _ _ = _
    rw [evL2, evC_seq, eH2, decide_eq_false hlen, cond_false]
    dsimp only
    rw [nT1, lwP, List.isEmpty_nil, Bool.not_true, Bool.or_false]
  | z :: r, s, mB, v, h0, hr, hs, hb => by
    have hlen : v < (l.length : Int) := by
      have := congrArg List.length hr
      rw [List.length_drop, List.length_cons] at this
      omega
    have hx : l[v.toNat]? = some l[v.toNat] := List.getElem?_eq_getElem (by omega)
    have hd : l.drop v.toNat = l[v.toNat] :: l.drop (v.toNat + 1) := List.drop_eq_getElem_cons (by omega)
    rw [hd] at hr
    injection hr with hz hr
    have hg : getI l v = some z := by unfold getI; rw [if_pos h0, hx, hz]
    have hw : IntKind.i64.wrap (v + 1) = v + 1 := wrap_i64 (by omega) (by omega)
    obtain ⟨n1, n2⟩ := nxt_ok (v := v) hs hb
    obtain ⟨b1, b2, b3⟩ := hb
    rw [fnsW, fnW] at b1 b2 b3
    rw [List.length_cons, fnLoop_succ]
    show evC X Lg an28 (lpL in28) L2 2 _ _ = _
    rw [round2 _ s mB l v z hs hlen hg (by rw [List.length_append]; omega) (by omega) (by omega), hw]
    dsimp only
    rw [n28b]
    dsimp only
    rw [lwP, rounds2 l hl r (nxt s z v) true (v + 1) (by omega) (by rw [show (v + 1).toNat = v.toNat + 1 by omega]; exact hr) n1 n2]
    cases mB <;> rfl
/-- Ahead of all functions. -/
def s0 (t : TR) : LB := ⟨t.G.map R82.Type_, t.F.map R82.Type_, false, [], false, [], false, [], (aget keS (mkM R90.Name id t.N 0 []) ⟨#[109, 97, 105, 110]⟩).getD 0, mkM R82.Name id t.G 0 [], mkM R82.Name id t.F 0 [], mkM R90.Name id t.N 0 [], [], 0⟩
noncomputable def D0 : Code := match Try.f28.body with
  | some c => c
  | none => .skip
noncomputable def D5 : Code := sR (sR (sR (sR (sR (sR D0)))))
noncomputable def DA : Code := .seq (sL D0) (.seq (sL (sR D0)) (.seq (sL (sR (sR D0))) (.seq (sL (sR (sR (sR D0)))) (.seq (sL (sR (sR (sR (sR D0))))) (sL (sR (sR (sR (sR (sR D0))))))))))
theorem hD0 : D0 = .seq (sL D0) (.seq (sL (sR D0)) (.seq (sL (sR (sR D0))) (.seq (sL (sR (sR (sR D0)))) (.seq (sL (sR (sR (sR (sR D0))))) (.seq (sL (sR (sR (sR (sR (sR D0)))))) D5))))) := by kernel_rfl
noncomputable def K28 : Exit → TS U → Option (List (TO U) × TV U) := fun ex s => match ex with
  | .ret => evFin X an28 Try.f28.results.toList s fun o v => some (o, wkIR.f v)
  | .normal => evFin X an28 Try.f28.results.toList s fun o v => some (o, wkIR.f v)
  | _ => none
theorem w28 (lp : Lp U) (t : TR) : evFn X Lg an28 lp Try.f28 [] [t.tv] (fun o v => some (o, wkIR.f v)) = evC X Lg an28 lp D0 0 (mkS 165 [(0, t.tv)] [] 0) K28 := by kernel_rfl
theorem eDA {R : Type} (q : List (Nat × LC U)) (t : TR) (K : Exit → TS U → Option R) : evC X Lg an28 (lpL ((0, lc28a) :: q)) DA 0 (mkS 165 [(0, t.tv)] [] 0) K =
  if Sn t.G.length then if Sn t.F.length then if Sn t.G.length then if Sn t.F.length then if P28a t.N.length 0 (t.N.length : Int) 0 0 0 0 then (lpL q).F 2 (S28b (s0 t) false t.N 0) fun ex s' => match ex with
    | .exit i => match Nat.beq i 2 with
      | true => K .normal s'
      | false => K (.exit i) s'
    | e => K e s' else none else none else none else none else none := by kernel_rfl
end Go.Proofs.Ytpkgikchphgfaaa.Lw
/- The program's lowerer: what it comes to. -/
namespace Go.Proofs.Ytpkgikchphgfaaa.Lw
open Go Go.RowKit Go.Proofs.Ytpkgikchphgfaaa.Eng Go.Proofs.Ytpkgikchphgfaaa.Fl
set_option linter.unusedVariables false
set_option linter.unusedSimpArgs false
set_option maxRecDepth 20000
def LB.ir (s : LB) : IRs := ⟨s.G, s.F, s.V, s.Fs, s.C, s.M⟩
theorem eD5 (lp : Lp U) (s : LB) (hs : s.Ok) (mB : Bool) : evC X Lg an28 lp D5 0 (E28 s mB) K28 = some ([], irV s.ir) := by
  obtain ⟨G, F, vB, V, fB, Fs, cB, C, M, a, b, c, d, n⟩ := s
  obtain ⟨h1, h2, h3⟩ := hs
  cases vB with
  | true =>
    clear h1
    cases fB with
    | true =>
      clear h2
      cases cB with
      | true =>
        clear h3
        cases mB <;> (show _ = _; kernel_rfl)
      | false =>
        obtain rfl : C = [] := h3 rfl
        clear h3
        cases mB <;> (show _ = _; kernel_rfl)
    | false =>
      obtain rfl : Fs = [] := h2 rfl
      clear h2
      cases cB with
      | true =>
        clear h3
        cases mB <;> (show _ = _; kernel_rfl)
      | false =>
        obtain rfl : C = [] := h3 rfl
        clear h3
        cases mB <;> (show _ = _; kernel_rfl)
  | false =>
    obtain rfl : V = [] := h1 rfl
    clear h1
    cases fB with
    | true =>
      clear h2
      cases cB with
      | true =>
        clear h3
        cases mB <;> (show _ = _; kernel_rfl)
      | false =>
        obtain rfl : C = [] := h3 rfl
        clear h3
        cases mB <;> (show _ = _; kernel_rfl)
    | false =>
      obtain rfl : Fs = [] := h2 rfl
      clear h2
      cases cB with
      | true =>
        clear h3
        cases mB <;> (show _ = _; kernel_rfl)
      | false =>
        obtain rfl : C = [] := h3 rfl
        clear h3
        cases mB <;> (show _ = _; kernel_rfl)
noncomputable def q28 : List (Nat × LC U) := [(2, LC.run X Lg an28 in28 Try.f28 2), (4, LC.run X Lg an28 [] Try.f28 4)]
noncomputable def lp28 : Lp U := lpL ((0, lc28a) :: q28)
theorem lp28_ok : ∀ c, Try.f28.body = some c → LpOk X Lg an28 lp28 (loops c 0) := lpL_ok (by kernel_rfl) fun b L hm st p hs => by
  cases hm with
  | head => exact l28a_ok hs
  | tail _ hm => cases hm with
    | head => exact run_ok (ag_of (bs := [4]) (by kernel_rfl) fun i hi R s K => by
        cases hi with
        | head => rfl
        | tail _ hi => cases hi) hs
    | tail _ hm => cases hm with
      | head => exact run_ok (ag_of (bs := []) (by kernel_rfl) fun i hi => by cases hi) hs
      | tail _ hm => cases hm
theorem evD0 {R : Type} (s : TS U) (K : Exit → TS U → Option R) (lp : Lp U) : evC X Lg an28 lp D0 0 s K = evC X Lg an28 lp (.seq DA D5) 0 s K := by
  conv => lhs; rw [hD0]
  have h5 := fun (s : TS U) (K : Exit → TS U → Option R) => evC_as (E := Lg) (an := an28) (lp := lp) (x := sL (sR (sR (sR (sR D0))))) (y := sL (sR (sR (sR (sR (sR D0)))))) (z := D5) (b := 0) s K
  have h4 := fun (s : TS U) (K : Exit → TS U → Option R) => (evC_cg (x := sL (sR (sR (sR D0)))) h5 s K).trans (evC_as s K)
  have h3 := fun (s : TS U) (K : Exit → TS U → Option R) => (evC_cg (x := sL (sR (sR D0))) h4 s K).trans (evC_as s K)
  have h2 := fun (s : TS U) (K : Exit → TS U → Option R) => (evC_cg (x := sL (sR D0)) h3 s K).trans (evC_as s K)
  have h1 := fun (s : TS U) (K : Exit → TS U → Option R) => (evC_cg (x := sL D0) h2 s K).trans (evC_as s K)
  exact h1 s K
theorem lwP_ok : ∀ (r : List R90) (s : LB) (v : Int), s.Ok → Bd s r → (lwP r s v).Ok
  | [], s, v, hs, hb => hs
  | z :: r, s, v, hs, hb => by
    obtain ⟨n1, n2⟩ := nxt_ok (v := v) hs hb
    rw [lwP]
    exact lwP_ok r _ _ n1 n2
/-- What the program lowers. -/
def lowP (t : TR) : IRs := (lwP t.N (s0 t) 0).ir
theorem e28 {t : TR} (ht : TrOk t) : evFn X Lg an28 lp28 Try.f28 [] [t.tv] (fun o v => some (o, wkIR.f v)) = some ([], irV (lowP t)) := by
  obtain ⟨t1, t2, t3⟩ := ht
  have hN := fnsW_len t.N
  have h0 : (s0 t).Ok := ⟨fun _ => rfl, fun _ => rfl, fun _ => rfl⟩
  have hb : Bd (s0 t) t.N := ⟨by show 0 + _ ≤ _; omega, by show 0 + _ ≤ _; omega, by show 0 + _ ≤ _; omega⟩
  have e2 : ∀ (K : Exit → TS U → Option (List (TO U) × TV U)), (lpL q28).F 2 (S28b (s0 t) false t.N 0) K = K (.exit 2) (E28 (lwP t.N (s0 t) 0) (false || !t.N.isEmpty)) := fun K => run_F (X := X) Lg_ok (rounds2 t.N (by omega) t.N (s0 t) false 0 (Int.le_refl 0) rfl h0 hb) K
  rw [w28, evD0, evC_seq]
  unfold lp28
  rw [eDA, if_pos (by unfold Sn; omega), if_pos (by unfold Sn; omega), if_pos (by unfold Sn; omega), if_pos (by unfold Sn; omega), if_pos ⟨by unfold Sn; omega, rfl, rfl, rfl, rfl, rfl, rfl⟩, e2]
  exact eD5 _ _ (lwP_ok t.N (s0 t) 0 h0 hb) _
noncomputable def sLowP : Spc U := .of dT (fun t => TrOk t) (fun _ => []) fun t => irV (lowP t)
theorem sLowP_ok : SpecOk Try.prog 28 sLowP := by
  refine fn_okw wkIR X_ok mixed Lg_ok an28 lp28 Try.func28 (by kernel_rfl) (by kernel_rfl) lp28_ok fun objs args t hx hp => ?_
  obtain ⟨rfl, rfl⟩ := dT_ok hx
  exact e28 hp
end Go.Proofs.Ytpkgikchphgfaaa.Lw
/- Instructions of a function lead to instructions of it; its last one returns: the plain law. -/
namespace Go.Proofs.Ytpkgikchphgfaaa.Lw
open Go Go.RowKit Go.Proofs.Ytpkgikchphgfaaa.Eng Go.Proofs.Ytpkgikchphgfaaa.Fl
set_option linter.unusedVariables false
set_option linter.unusedSimpArgs false
/-- An instruction of a function, that leads to some of a range. -/
def insOk (v : Int) (a b : Nat) (y : R65) : Prop := y.Fn = v ∧ (y.Op = 17 ∨ y.Op = 18 → (a : Int) ≤ y.B ∧ y.B < b) ∧ (y.Op = 18 → (a : Int) ≤ y.C ∧ y.C < b)
theorem call_op (s : LB) (op a : Int) (e : R112) : (s.call op a e).Op = op := by
  unfold LB.call
  cases decide (e.Kind = 11) <;> rfl
theorem cd {p : R65 → Prop} {c : Bool} {x y : R65} (h1 : p x) (h2 : p y) : p (cond c x y) := by cases c <;> assumption
theorem set_op (s : LB) (a : Int) (e : R112) : (s.set a e).Op ≠ 17 ∧ (s.set a e).Op ≠ 18 := by
  unfold LB.set
  have hk : (s.call 12 a e).Op ≠ 17 ∧ (s.call 12 a e).Op ≠ 18 := by rw [call_op]; decide
  repeat' refine cd (p := fun x : R65 => x.Op ≠ 17 ∧ x.Op ≠ 18) ?_ ?_
  all_goals first | exact hk | exact ⟨by decide, by decide⟩ | exact ⟨by show (_ : Int) ≠ _; simp [ins3], by simp [ins3]⟩
theorem one_op (s : LB) (z : R114) : (s.one z).Op ≠ 17 ∧ (s.one z).Op ≠ 18 := by
  unfold LB.one
  have hk : (s.call 12 (-1) z.Expr).Op ≠ 17 ∧ (s.call 12 (-1) z.Expr).Op ≠ 18 := by rw [call_op]; decide
  have hk2 : (s.call 13 (-1) z.Expr).Op ≠ 17 ∧ (s.call 13 (-1) z.Expr).Op ≠ 18 := by rw [call_op]; decide
  have hk3 := set_op s (s.v z.To) z.Expr
  repeat' refine cd (p := fun x : R65 => x.Op ≠ 17 ∧ x.Op ≠ 18) ?_ ?_
  all_goals first | exact hk | exact hk2 | exact hk3 | exact ⟨by decide, by decide⟩ | exact ⟨by simp [ins3], by simp [ins3]⟩
mutual
theorem cdS_in (s : LB) (a b : Nat) : ∀ (z : R114) (n : Nat), a ≤ n → n + (cdS s z n).length < b → ∀ y ∈ cdS s z n, insOk s.fn a b y
  | .mk k at_ to fi fr e bd l, n, ha, hb, y, hy => by
    have h1 := cdL_in s a b bd (n + 1) (by omega)
    have h2 := cdL_in s a b l (n + 1 + (cdL s bd (n + 1)).length + 1) (by omega)
    rw [cdS] at hb hy
    generalize decide (k = 4) = k4 at hb hy
    cases k4 with
    | true =>
      simp only [cond_true] at hb hy
      generalize decide ((l.length : Int) = 0) = l0 at hb hy
      cases l0 with
      | true =>
        simp only [cond_true, List.length_cons] at hb hy
        rcases List.mem_cons.1 hy with rfl | hy
        · exact ⟨rfl, fun _ => ⟨by show (a : Int) ≤ (n : Int) + 1; omega, by show (n : Int) + 1 < b; omega⟩, fun _ => ⟨by show (a : Int) ≤ ((n : Int) + 1 + ((cdL s bd (n + 1)).length : Nat)); omega, by show ((n : Int) + 1 + ((cdL s bd (n + 1)).length : Nat)) < b; omega⟩⟩
        · exact h1 (by omega) y hy
      | false =>
        simp only [cond_false, List.length_cons, List.length_append] at hb hy
        rcases List.mem_cons.1 hy with rfl | hy
        · exact ⟨rfl, fun _ => ⟨by show (a : Int) ≤ (n : Int) + 1; omega, by show (n : Int) + 1 < b; omega⟩, fun _ => ⟨by show (a : Int) ≤ ((n : Int) + 1 + ((cdL s bd (n + 1)).length : Nat) + 1); omega, by show ((n : Int) + 1 + ((cdL s bd (n + 1)).length : Nat) + 1) < b; omega⟩⟩
        · rcases List.mem_append.1 hy with hy | hy
          · exact h1 (by omega) y hy
          · rcases List.mem_cons.1 hy with rfl | hy
            · exact ⟨rfl, fun _ => ⟨by show (a : Int) ≤ (((n + 1 + (cdL s bd (n + 1)).length + 1 + (cdL s l (n + 1 + (cdL s bd (n + 1)).length + 1)).length : Nat)) : Int); omega, by show (((n + 1 + (cdL s bd (n + 1)).length + 1 + (cdL s l (n + 1 + (cdL s bd (n + 1)).length + 1)).length : Nat)) : Int) < b; omega⟩, fun h => absurd h (by show ¬ (17 : Int) = 18; decide)⟩
            · exact h2 (by omega) y hy
    | false =>
      simp only [cond_false] at hb hy
      generalize decide (k = 5) = k5 at hb hy
      cases k5 with
      | true =>
        simp only [cond_true, List.length_cons, List.length_append, List.length_nil] at hb hy
        rcases List.mem_cons.1 hy with rfl | hy
        · exact ⟨rfl, fun _ => ⟨by show (a : Int) ≤ (n : Int) + 1; omega, by show (n : Int) + 1 < b; omega⟩, fun _ => ⟨by show (a : Int) ≤ ((n : Int) + 1 + ((cdL s bd (n + 1)).length : Nat) + 1); omega, by show ((n : Int) + 1 + ((cdL s bd (n + 1)).length : Nat) + 1) < b; omega⟩⟩
        · rcases List.mem_append.1 hy with hy | hy
          · exact h1 (by omega) y hy
          · rw [List.mem_singleton] at hy
            subst hy
            exact ⟨rfl, fun _ => ⟨by show (a : Int) ≤ (n : Int); omega, by show (n : Int) < b; omega⟩, fun h => absurd h (by show ¬ (17 : Int) = 18; decide)⟩
      | false =>
        simp only [cond_false, List.mem_singleton] at hy
        subst hy
        obtain ⟨o1, o2⟩ := one_op s (.mk k at_ to fi fr e bd l)
        exact ⟨rfl, fun h => (h.elim (fun h => (o1 h).elim) fun h => (o2 h).elim), fun h => (o2 h).elim⟩
theorem cdL_in (s : LB) (a b : Nat) : ∀ (l : List R114) (n : Nat), a ≤ n → n + (cdL s l n).length < b → ∀ y ∈ cdL s l n, insOk s.fn a b y
  | [], n, _, _, y, hy => by rw [cdL] at hy; cases hy
  | x :: l, n, ha, hb, y, hy => by
    rw [cdL, List.length_append] at hb
    rw [cdL] at hy
    rcases List.mem_append.1 hy with hy | hy
    · exact cdS_in s a b x n ha (by omega) y hy
    · exact cdL_in s a b l _ (by omega) (by omega) y hy
end
/-- One function's instructions stand where it says. -/
structure Way (C : List R65) (x : R69) (i next : Int) : Prop where
  first : x.First = next
  pos : 0 ≤ x.First
  lt : x.First < x.Last
  le : x.Last ≤ C.length
  ret : ∃ y, getI C (x.Last - 1) = some y ∧ y.Op = 16
  ins : ∀ k, x.First ≤ k → k < x.Last → ∃ y, getI C k = some y ∧ y.Fn = i ∧ (y.Op = 17 ∨ y.Op = 18 → x.First ≤ y.B ∧ y.B < x.Last) ∧ (y.Op = 18 → x.First ≤ y.C ∧ y.C < x.Last)
/-- All functions', from one on. -/
def Ways (C : List R65) : List R69 → Int → Int → Prop
  | [], _, next => next = C.length
  | x :: r, i, next => Way C x i next ∧ Ways C r (i + 1) x.Last
theorem getI_app {C D E : List R65} {k : Int} (h0 : (C.length : Int) ≤ k) (h1 : k < C.length + D.length) : ∃ y ∈ D, getI (C ++ D ++ E) k = some y ∧ D[(k - C.length).toNat]? = some y := by
  have hx : (k - C.length).toNat < D.length := by omega
  refine ⟨D[(k - C.length).toNat], List.getElem_mem hx, ?_, List.getElem?_eq_getElem hx⟩
  unfold getI
  rw [if_pos (by omega), List.append_assoc, List.getElem?_append_right (by omega), List.getElem?_append_left (by omega), show k.toNat - C.length = (k - C.length).toNat by omega]
  exact List.getElem?_eq_getElem hx
theorem ways_ok : ∀ (r : List R90) (s : LB) (v : Int), s.Ok → ∃ D F, (lwP r s v).C = s.C ++ D ∧ (lwP r s v).Fs = s.Fs ++ F ∧ F.length = r.length ∧ Ways (s.C ++ D) F v s.C.length
  | [], s, v, hs => ⟨[], [], by rw [lwP, List.append_nil], by rw [lwP, List.append_nil], rfl, by rw [List.append_nil]; rfl⟩
  | z :: r, s, v, hs => by
    obtain ⟨i1, i2, i3, i4, i5, i6, i7, i8, i9, i10, i11, i12⟩ := ft_inv z.Params.length (z.Params ++ z.Vars) 0 (s.at0 v) false [] hs (fun _ => rfl)
    have hfn : (ftZ s z v).1.base.fn = v := i5
    have hFs : (nxt s z v).Fs = s.Fs ++ [⟨z.Name, (ftZ s z v).2.2, z.Ret, s.C.length, (nxt s z v).C.length⟩] := by
      show (ftZ s z v).1.Fs ++ _ = _
      rw [show (ftZ s z v).1.Fs = s.Fs from i4]
      rfl
    have hC : (nxt s z v).C = s.C ++ (cdL (ftZ s z v).1.base z.Body s.C.length ++ [atI v z.At (ins3 16 (-1) 0 0 0 0)]) := by
      show pL (ftZ s z v).1.base z.Body s.C ++ _ = _
      rw [pL_cd, List.append_assoc]
    have hok : (nxt s z v).Ok := ⟨i1.1, fun h => (by cases h), fun h => by cases h⟩
    obtain ⟨D, F, h1, h2, h3, h4⟩ := ways_ok r (nxt s z v) (v + 1) hok
    have hin := cdL_in (ftZ s z v).1.base s.C.length ((nxt s z v).C.length) z.Body s.C.length (Nat.le_refl _) (by rw [hC]; simp only [List.length_append, List.length_singleton]; omega)
    rw [hfn] at hin
    generalize hcd : cdL (ftZ s z v).1.base z.Body s.C.length = B at hC hin
    have hlen : ((nxt s z v).C.length : Int) = s.C.length + (B.length + 1) := by rw [hC]; simp
    refine ⟨(B ++ [atI v z.At (ins3 16 (-1) 0 0 0 0)]) ++ D, ⟨z.Name, (ftZ s z v).2.2, z.Ret, s.C.length, (nxt s z v).C.length⟩ :: F, ?_, ?_, ?_, ?_⟩
    · rw [lwP, h1, hC, List.append_assoc, List.append_assoc]
    · rw [lwP, h2, hFs, List.append_assoc]
      rfl
    · rw [List.length_cons, List.length_cons, h3]
    · rw [← List.append_assoc, ← hC]
      refine ⟨⟨rfl, by show (0 : Int) ≤ (s.C.length : Int); omega, by show (s.C.length : Int) < ((nxt s z v).C.length : Int); omega, by show ((nxt s z v).C.length : Int) ≤ _; rw [List.length_append]; omega, ?_, ?_⟩, h4⟩
      · obtain ⟨y, hm, hg, hd⟩ := getI_app (C := s.C) (D := B ++ [atI v z.At (ins3 16 (-1) 0 0 0 0)]) (E := D) (k := ((nxt s z v).C.length : Int) - 1) (by omega) (by rw [List.length_append, List.length_singleton]; omega)
        refine ⟨y, by rw [← hC] at hg; exact hg, ?_⟩
        rw [show (((nxt s z v).C.length : Int) - 1 - s.C.length).toNat = B.length by omega, List.getElem?_append_right (Nat.le_refl _), Nat.sub_self] at hd
        cases hd
        rfl
      · intro k k0 k1
        have k0 : (s.C.length : Int) ≤ k := k0
        have k1 : k < ((nxt s z v).C.length : Int) := k1
        obtain ⟨y, hm, hg, _⟩ := getI_app (C := s.C) (D := B ++ [atI v z.At (ins3 16 (-1) 0 0 0 0)]) (E := D) (k := k) k0 (by rw [List.length_append, List.length_singleton]; omega)
        refine ⟨y, by rw [← hC] at hg; exact hg, ?_⟩
        rcases List.mem_append.1 hm with hm | hm
        · exact hin y hm
        · rw [List.mem_singleton] at hm
          subst hm
          exact ⟨rfl, fun h => h.elim (fun h => absurd h (by show ¬ (16 : Int) = 17; decide)) fun h => absurd h (by show ¬ (16 : Int) = 18; decide), fun h => absurd h (by show ¬ (16 : Int) = 18; decide)⟩
theorem lowP_ways (t : TR) : Ways (lowP t).C (lowP t).Fs 0 0 ∧ (lowP t).Fs.length = t.N.length := by
  obtain ⟨D, F, h1, h2, h3, h4⟩ := ways_ok t.N (s0 t) 0 ⟨fun _ => rfl, fun _ => rfl, fun _ => rfl⟩
  have e1 : (lowP t).C = [] ++ D := h1
  have e2 : (lowP t).Fs = [] ++ F := h2
  rw [e1, e2]
  exact ⟨h4, h3⟩
end Go.Proofs.Ytpkgikchphgfaaa.Lw

/- Texts of this claim, put together: part 28. -/
import Derived.Test.YtpkgikchphgfaaaMlQ
import Derived.Test.YtpkgikchphgfaaaMlR
import Derived.Test.YtpkgikchphgfaaaMlW
import Derived.Test.YtpkgikchphgfaaaMlX
import Derived.Test.YtpkgikchphgfaaaMlYC
/- The program's lowerer: a function, put together. -/
namespace Go.Proofs.Ytpkgikchphgfaaa.Lw
open Go Go.RowKit Go.Proofs.Ytpkgikchphgfaaa.Eng Go.Proofs.Ytpkgikchphgfaaa.Fl
set_option linter.unusedVariables false
set_option linter.unusedSimpArgs false
set_option maxRecDepth 20000
noncomputable def in28 : List (Nat × LC U) := [(4, LC.run X Lg an28 [] Try.f28 4)]
/-- What a function leaves. -/
def ftZ (s : LB) (z : R90) (v : Int) : LB × Bool × List Int := ft z.Params.length (z.Params ++ z.Vars) 0 (s.at0 v, false, [])
def nxt (s : LB) (z : R90) (v : Int) : LB := (ftZ s z v).1.endF z s.C.length (ftZ s z v).2.2 (pL (ftZ s z v).1.base z.Body s.C ++ [atI v z.At (ins3 16 (-1) 0 0 0 0)])
theorem ft_inv (np : Int) : ∀ (d : List R82) (i : Int) (s : LB) (pB : Bool) (ps : List Int), s.Ok → (pB = false → ps = []) →
    (ft np d i (s, pB, ps)).1.Ok ∧ ((ft np d i (s, pB, ps)).2.1 = false → (ft np d i (s, pB, ps)).2.2 = []) ∧ (ft np d i (s, pB, ps)).1.C = s.C ∧ (ft np d i (s, pB, ps)).1.Fs = s.Fs ∧ (ft np d i (s, pB, ps)).1.fn = s.fn ∧ (ft np d i (s, pB, ps)).1.V = s.V ++ d.map R82.Type_ ∧ (ft np d i (s, pB, ps)).1.G = s.G ∧ (ft np d i (s, pB, ps)).1.F = s.F ∧ (ft np d i (s, pB, ps)).1.M = s.M ∧ (ft np d i (s, pB, ps)).1.mG = s.mG ∧ (ft np d i (s, pB, ps)).1.mF = s.mF ∧ (ft np d i (s, pB, ps)).1.mN = s.mN
  | [], i, s, pB, ps, hs, hp => ⟨hs, hp, rfl, rfl, rfl, by rw [ft]; simp, rfl, rfl, rfl, rfl, rfl, rfl⟩
  | x :: d, i, s, pB, ps, hs, hp => by
    have h := fun pB' ps' hp' => ft_inv np d (i + 1) (s.addV x) pB' ps' ⟨fun h => (by cases h), hs.2.1, hs.2.2⟩ hp'
    rw [ft]
    cases decide (i < np) with
    | true =>
      rw [cond_true]
      obtain ⟨a, b, c1, c2, c3, c4, c5, c6, c7, c8, c9, c10⟩ := h true (ps ++ [(s.V.length : Int)]) (fun h => by cases h)
      exact ⟨a, b, c1, c2, c3, by rw [c4]; show s.V ++ [x.Type_] ++ _ = _; rw [List.map_cons, List.append_assoc]; rfl, c5, c6, c7, c8, c9, c10⟩
    | false =>
      rw [cond_false]
      obtain ⟨a, b, c1, c2, c3, c4, c5, c6, c7, c8, c9, c10⟩ := h pB ps hp
      exact ⟨a, b, c1, c2, c3, by rw [c4]; show s.V ++ [x.Type_] ++ _ = _; rw [List.map_cons, List.append_assoc]; rfl, c5, c6, c7, c8, c9, c10⟩
theorem r28d0 (lp : Lp U) (s : LB) (l : List R90) (v : Int) (z : R90) (f : Int) : fnLoop X Lg an28 lp Try.f28 4 1 (S28d s l v z f false [] false [] 0) = some (Z28d s l v z f false []) := by
  obtain ⟨G, F, vB, V, fB, Fs, cB, C, M, a, b, c, d, n⟩ := s
  cases vB <;> cases fB <;> cases cB <;> kernel_rfl
theorem n28d (s : LB) (l : List R90) (v : Int) (z : R90) (f : Int) (dB : Bool) (d : List R82) : evNorm (X := X) (an28.live 4) (S28d s l v z f false [] dB d 0) = some (S28d s l v z f false [] dB d 0) := by
  obtain ⟨G, F, vB, V, fB, Fs, cB, C, M, a, b, c, e, n⟩ := s
  cases vB <;> cases fB <;> cases cB <;> cases dB <;> kernel_rfl
theorem n28b (s : LB) (mB : Bool) (l : List R90) (v : Int) : evNorm (X := X) (an28.live 2) (S28b s mB l v) = some (S28b s mB l v) := by
  obtain ⟨G, F, vB, V, fB, Fs, cB, C, M, a, b, c, e, n⟩ := s
  cases vB <;> cases fB <;> cases cB <;> cases mB <;> kernel_rfl
theorem eR26 (R : Type) (K : Exit → TS U → Option R) (lp : Lp U) (s : LB) (l : List R90) (v : Int) : evC X Lg an28 lp (sR (sR (sR L2))) 2 (S28b s true l v) K = K .normal (S28b s true l (IntKind.i64.wrap (v + 1))) := by
  obtain ⟨G, F, vB, V, fB, Fs, cB, C, M, a, b, c, e, n⟩ := s
  cases vB <;> cases fB <;> cases cB <;> kernel_rfl
section
variable {R : Type} {E : FuncId → Option (Spc X.U)} {an : Ann} {lp : Lp X.U}
theorem evC_cg {x y y' : Code} {b : Nat} (h : ∀ (s : TS X.U) (K : Exit → TS X.U → Option R), evC X E an lp y b s K = evC X E an lp y' b s K) (s : TS X.U) (K : Exit → TS X.U → Option R) : evC X E an lp (.seq x y) b s K = evC X E an lp (.seq x y') b s K := by
  rw [evC_seq, evC_seq]
  congr 1
  funext ex s'
  cases ex with
  | normal => exact h s' K
  | _ => rfl
theorem evC_as {x y z : Code} {b : Nat} (s : TS X.U) (K : Exit → TS X.U → Option R) : evC X E an lp (.seq x (.seq y z)) b s K = evC X E an lp (.seq (.seq x y) z) b s K := by
  rw [evC_seq, evC_seq, evC_seq]
  congr 1
  funext ex s'
  cases ex <;> rfl
end
theorem evB3 {R : Type} (s : TS U) (K : Exit → TS U → Option R) (lp : Lp U) : evC X Lg an28 lp B3 3 s K = evC X Lg an28 lp (.seq P3 (.seq (.block 4 (.loop (loopAt Try.f28 4))) (sR C3))) 3 s K := by
  rw [hB3]
  have h1 := fun (s : TS U) (K : Exit → TS U → Option R) => (evC_as (E := Lg) (an := an28) (lp := lp) (x := sL (sL C3)) (y := .block 4 (.loop (loopAt Try.f28 4))) (z := sR C3) (b := 3) s K).symm
  have h2 := fun (s : TS U) (K : Exit → TS U → Option R) => (evC_cg (x := sL (sR (sR B3))) h1 s K).trans (evC_as s K)
  have h3 := fun (s : TS U) (K : Exit → TS U → Option R) => (evC_cg (x := sL (sR B3)) h2 s K).trans (evC_as s K)
  have h4 := fun (s : TS U) (K : Exit → TS U → Option R) => (evC_cg (x := sL B3) h3 s K).trans (evC_as s K)
  exact h4 s K
theorem evL2 {R : Type} (s : TS U) (K : Exit → TS U → Option R) (lp : Lp U) : evC X Lg an28 lp L2 2 s K = evC X Lg an28 lp (.seq H2 (.seq (.block 3 B3) (sR (sR (sR L2))))) 2 s K := by
  conv => lhs; rw [hL2]
  exact evC_as s K
theorem e4 {R : Type} (K : Exit → TS U → Option R) (s : LB) (l : List R90) (v : Int) (z : R90) (f : Int) (dB : Bool) (d : List R82) (hs : s.Ok) (hd : d.length ≤ 3000000) (hV : s.V.length + d.length ≤ 3000000) (hB : dB = false → d = []) :
    (lpL in28).F 4 (S28d s l v z f false [] dB d 0) K = K (.exit 4) (Z28d (ft z.Params.length d 0 (s, false, [])).1 l v z f (ft z.Params.length d 0 (s, false, [])).2.1 (ft z.Params.length d 0 (s, false, [])).2.2).2 := by
  cases dB with
  | true => exact run_F (X := X) Lg_ok (rounds28d (lpL []) l v z f d hd d.length s false [] 0 hs.1 (fun _ => rfl) (Int.le_refl 0) (by omega) (Int.le_refl 0) (by omega)) K
  | false =>
    obtain rfl := hB rfl
    exact run_F (X := X) Lg_ok (r28d0 (lpL []) s l v z f) K
theorem fin2 {R : Type} (K : Exit → TS U → Option R) (s : LB) (l : List R90) (v : Int) (z : R90) (dB : Bool) (hs : s.Ok) (hV : s.V.length + (z.Params ++ z.Vars).length ≤ 3000000) (hC : s.C.length + 2 * cntL z.Body + 1 ≤ 3000000) (hF : s.Fs.length ≤ 1000000) (hB : dB = false → z.Params ++ z.Vars = []) :
    evC X Lg an28 (lpL in28) (.seq (.block 4 (.loop (loopAt Try.f28 4))) (sR C3)) 3 (S28d (s.at0 v) l v z s.C.length false [] dB (z.Params ++ z.Vars) 0) K = K .normal (S28b (nxt s z v) true l v) := by
  have h0 : (s.at0 v).Ok := hs
  obtain ⟨i1, i2, i3, i4, i5, i6, _⟩ := ft_inv z.Params.length (z.Params ++ z.Vars) 0 (s.at0 v) false [] h0 (fun _ => rfl)
  rw [evC_seq, evC_block, evC_loop, n28d]
  dsimp only
  rw [e4 _ (s.at0 v) l v z s.C.length dB _ h0 (by omega) hV hB]
  show evC X Lg an28 (lpL in28) (sR C3) 3 (Z28d (ftZ s z v).1 l v z s.C.length (ftZ s z v).2.1 (ftZ s z v).2.2).2 K = _
  have e3 : (ftZ s z v).1.C = s.C := i3
  have e5 : (ftZ s z v).1.fn = v := i5
  have e6 : (ftZ s z v).1.Fs = s.Fs := i4
  rw [eTl R K (lpL in28) (ftZ s z v).1 i1 l v z s.C.length (ftZ s z v).2.1 (ftZ s z v).2.2 i2, e3, if_pos (by unfold PreBk; omega), emp (ftZ s z v).1.base z.Body s.C (tl7 K (ftZ s z v).1 l v z s.C.length (ftZ s z v).2.2)]
  have hl := pL_len (ftZ s z v).1.base z.Body s.C
  unfold tl7
  rw [if_pos (by unfold Sn; omega), if_pos trivial, e6, if_pos (by omega), e5]
  rfl
theorem round2 {R : Type} (K : Exit → TS U → Option R) (s : LB) (mB : Bool) (l : List R90) (v : Int) (z : R90) (hs : s.Ok) (hv : v < (l.length : Int)) (hz : getI l v = some z) (hV : s.V.length + (z.Params ++ z.Vars).length ≤ 3000000) (hC : s.C.length + 2 * cntL z.Body + 1 ≤ 3000000) (hF : s.Fs.length ≤ 1000000) :
    evC X Lg an28 (lpL in28) L2 2 (S28b s mB l v) K = K .normal (S28b (nxt s z v) true l (IntKind.i64.wrap (v + 1))) := by
  have hlen : (z.Params ++ z.Vars).length = z.Params.length + z.Vars.length := List.length_append
  rw [evL2, evC_seq, eH2, decide_eq_true hv, cond_true]
  dsimp only
  rw [evC_seq, evC_block, evB3, evC_seq, eP3 _ _ _ s mB l v hs, hz, Option.bind_some, if_pos trivial]
  dsimp only
  have key : ∀ (K' : Exit → TS U → Option R) (dB : Bool) (d : List R82), d = z.Params ++ z.Vars → (dB = false → d = []) → evC X Lg an28 (lpL in28) (.seq (.block 4 (.loop (loopAt Try.f28 4))) (sR C3)) 3 (S28d (s.at0 v) l v z s.C.length false [] dB d 0) K' = K' .normal (S28b (nxt s z v) true l v) := fun K' dB d hd hB => by
    subst hd
    exact fin2 K' s l v z dB hs hV hC hF hB
  cases hp : z.Params with
  | nil =>
    cases hw : z.Vars with
    | nil =>
      simp only [List.isEmpty_nil, cond_true]
      rw [key _ false [] (by rw [hp, hw]; rfl) (fun _ => rfl)]
      dsimp only
      rw [eR26]
    | cons y ys =>
      simp only [List.isEmpty_nil, List.isEmpty_cons, cond_true, cond_false]
      rw [← hw, if_pos (by omega), key _ true z.Vars (by rw [hp]; rfl) (fun h => by cases h)]
      dsimp only
      rw [eR26]
  | cons y ys =>
    simp only [List.isEmpty_cons, cond_false]
    rw [← hp, if_pos (by omega), if_pos (by omega), key _ true (z.Params ++ z.Vars) rfl (fun h => by cases h)]
    dsimp only
    rw [eR26]
end Go.Proofs.Ytpkgikchphgfaaa.Lw
/- The program's lowerer: all functions. -/
namespace Go.Proofs.Ytpkgikchphgfaaa.Lw
open Go Go.RowKit Go.Proofs.Ytpkgikchphgfaaa.Eng Go.Proofs.Ytpkgikchphgfaaa.Fl
set_option linter.unusedVariables false
set_option linter.unusedSimpArgs false
set_option maxRecDepth 20000
def lwP : List R90 → LB → Int → LB
  | [], s, _ => s
  | z :: r, s, v => lwP r (nxt s z v) (v + 1)
def E28 (s : LB) (mB : Bool) : TS U := mkS 165 [(2, .ref 0 0 0), (3, .ref 1 0 0)] (s.obQ mB) 0
theorem nT1 (s : LB) (mB : Bool) (l : List R90) (v : Int) : evNorm (X := X) (an28.out 2) (T1 s mB l v false) = some (E28 s mB) := by
  obtain ⟨G, F, vB, V, fB, Fs, cB, C, M, a, b, c, e, n⟩ := s
  cases vB <;> cases fB <;> cases cB <;> cases mB <;> kernel_rfl
def Bd (s : LB) (r : List R90) : Prop := s.V.length + fnsW r ≤ 1000000 ∧ s.C.length + 3 * fnsW r ≤ 3000000 ∧ s.Fs.length + fnsW r ≤ 1000000
theorem nxt_ok {s : LB} {z : R90} {v : Int} {r : List R90} (hs : s.Ok) (hb : Bd s (z :: r)) : (nxt s z v).Ok ∧ Bd (nxt s z v) r := by
  obtain ⟨i1, i2, i3, i4, i5, i6, _⟩ := ft_inv z.Params.length (z.Params ++ z.Vars) 0 (s.at0 v) false [] hs (fun _ => rfl)
  obtain ⟨b1, b2, b3⟩ := hb
  rw [fnsW, fnW] at b1 b2 b3
  have e6 : (ftZ s z v).1.V = s.V ++ (z.Params ++ z.Vars).map R82.Type_ := i6
  have e4 : (ftZ s z v).1.Fs = s.Fs := i4
  have hl := pL_len (ftZ s z v).1.base z.Body s.C
  refine ⟨⟨i1.1, fun h => (by cases h), fun h => by cases h⟩, ?_, ?_, ?_⟩
  · show (ftZ s z v).1.V.length + _ ≤ _
    rw [e6, List.length_append, List.length_map, List.length_append]
    omega
  · show (pL (ftZ s z v).1.base z.Body s.C ++ [_]).length + _ ≤ _
    rw [List.length_append, List.length_singleton]
    omega
  · show ((ftZ s z v).1.Fs ++ [_]).length + _ ≤ _
    rw [e4, List.length_append, List.length_singleton]
    omega
theorem rounds2 (l : List R90) (hl : l.length ≤ 1000000) : ∀ (r : List R90) (s : LB) (mB : Bool) (v : Int), 0 ≤ v → l.drop v.toNat = r → s.Ok → Bd s r → fnLoop X Lg an28 (lpL in28) Try.f28 2 (r.length + 1) (S28b s mB l v) = some (.exit 2, E28 (lwP r s v) (mB || !r.isEmpty))
  | [], s, mB, v, h0, hr, hs, hb => by
    have hlen : ¬ v < (l.length : Int) := by
      have := congrArg List.length hr
      rw [List.length_drop, List.length_nil] at this
      omega
    show fnLoop X Lg an28 (lpL in28) Try.f28 2 1 _ = _
    rw [fnLoop_succ]
    show evC X Lg an28 (lpL in28) L2 2 _ _ = _
    rw [evL2, evC_seq, eH2, decide_eq_false hlen, cond_false]
    dsimp only
    rw [nT1, lwP, List.isEmpty_nil, Bool.not_true, Bool.or_false]
  | z :: r, s, mB, v, h0, hr, hs, hb => by
    have hlen : v < (l.length : Int) := by
      have := congrArg List.length hr
      rw [List.length_drop, List.length_cons] at this
      omega
    have hx : l[v.toNat]? = some l[v.toNat] := List.getElem?_eq_getElem (by omega)
    have hd : l.drop v.toNat = l[v.toNat] :: l.drop (v.toNat + 1) := List.drop_eq_getElem_cons (by omega)
    rw [hd] at hr
    injection hr with hz hr
    have hg : getI l v = some z := by unfold getI; rw [if_pos h0, hx, hz]
    have hw : IntKind.i64.wrap (v + 1) = v + 1 := wrap_i64 (by omega) (by omega)
    obtain ⟨n1, n2⟩ := nxt_ok (v := v) hs hb
    obtain ⟨b1, b2, b3⟩ := hb
    rw [fnsW, fnW] at b1 b2 b3
    rw [List.length_cons, fnLoop_succ]
    show evC X Lg an28 (lpL in28) L2 2 _ _ = _
    rw [round2 _ s mB l v z hs hlen hg (by rw [List.length_append]; omega) (by omega) (by omega), hw]
    dsimp only
    rw [n28b]
    dsimp only
    rw [lwP, rounds2 l hl r (nxt s z v) true (v + 1) (by omega) (by rw [show (v + 1).toNat = v.toNat + 1 by omega]; exact hr) n1 n2]
    cases mB <;> rfl
/-- Ahead of all functions. -/
def s0 (t : TR) : LB := ⟨t.G.map R82.Type_, t.F.map R82.Type_, false, [], false, [], false, [], (aget keS (mkM R90.Name id t.N 0 []) ⟨#[109, 97, 105, 110]⟩).getD 0, mkM R82.Name id t.G 0 [], mkM R82.Name id t.F 0 [], mkM R90.Name id t.N 0 [], [], 0⟩
noncomputable def D0 : Code := match Try.f28.body with
  | some c => c
  | none => .skip
noncomputable def D5 : Code := sR (sR (sR (sR (sR (sR D0)))))
noncomputable def DA : Code := .seq (sL D0) (.seq (sL (sR D0)) (.seq (sL (sR (sR D0))) (.seq (sL (sR (sR (sR D0)))) (.seq (sL (sR (sR (sR (sR D0))))) (sL (sR (sR (sR (sR (sR D0))))))))))
theorem hD0 : D0 = .seq (sL D0) (.seq (sL (sR D0)) (.seq (sL (sR (sR D0))) (.seq (sL (sR (sR (sR D0)))) (.seq (sL (sR (sR (sR (sR D0))))) (.seq (sL (sR (sR (sR (sR (sR D0)))))) D5))))) := by kernel_rfl
noncomputable def K28 : Exit → TS U → Option (List (TO U) × TV U) := fun ex s => match ex with
  | .ret => evFin X an28 Try.f28.results.toList s fun o v => some (o, wkIR.f v)
  | .normal => evFin X an28 Try.f28.results.toList s fun o v => some (o, wkIR.f v)
  | _ => none
theorem w28 (lp : Lp U) (t : TR) : evFn X Lg an28 lp Try.f28 [] [t.tv] (fun o v => some (o, wkIR.f v)) = evC X Lg an28 lp D0 0 (mkS 165 [(0, t.tv)] [] 0) K28 := by kernel_rfl
theorem eDA {R : Type} (q : List (Nat × LC U)) (t : TR) (K : Exit → TS U → Option R) : evC X Lg an28 (lpL ((0, lc28a) :: q)) DA 0 (mkS 165 [(0, t.tv)] [] 0) K =
  if Sn t.G.length then if Sn t.F.length then if Sn t.G.length then if Sn t.F.length then if P28a t.N.length 0 (t.N.length : Int) 0 0 0 0 then (lpL q).F 2 (S28b (s0 t) false t.N 0) fun ex s' => match ex with
    | .exit i => match Nat.beq i 2 with
      | true => K .normal s'
      | false => K (.exit i) s'
    | e => K e s' else none else none else none else none else none := by kernel_rfl
end Go.Proofs.Ytpkgikchphgfaaa.Lw
/- The program's lowerer: what it comes to. -/
namespace Go.Proofs.Ytpkgikchphgfaaa.Lw
open Go Go.RowKit Go.Proofs.Ytpkgikchphgfaaa.Eng Go.Proofs.Ytpkgikchphgfaaa.Fl
set_option linter.unusedVariables false
set_option linter.unusedSimpArgs false
set_option maxRecDepth 20000
def LB.ir (s : LB) : IRs := ⟨s.G, s.F, s.V, s.Fs, s.C, s.M⟩
theorem eD5 (lp : Lp U) (s : LB) (hs : s.Ok) (mB : Bool) : evC X Lg an28 lp D5 0 (E28 s mB) K28 = some ([], irV s.ir) := by
  obtain ⟨G, F, vB, V, fB, Fs, cB, C, M, a, b, c, d, n⟩ := s
  obtain ⟨h1, h2, h3⟩ := hs
  cases vB with
  | true =>
    clear h1
    cases fB with
    | true =>
      clear h2
      cases cB with
      | true =>
        clear h3
        cases mB <;> (show _ = _; kernel_rfl)
      | false =>
        obtain rfl : C = [] := h3 rfl
        clear h3
        cases mB <;> (show _ = _; kernel_rfl)
    | false =>
      obtain rfl : Fs = [] := h2 rfl
      clear h2
      cases cB with
      | true =>
        clear h3
        cases mB <;> (show _ = _; kernel_rfl)
      | false =>
        obtain rfl : C = [] := h3 rfl
        clear h3
        cases mB <;> (show _ = _; kernel_rfl)
  | false =>
    obtain rfl : V = [] := h1 rfl
    clear h1
    cases fB with
    | true =>
      clear h2
      cases cB with
      | true =>
        clear h3
        cases mB <;> (show _ = _; kernel_rfl)
      | false =>
        obtain rfl : C = [] := h3 rfl
        clear h3
        cases mB <;> (show _ = _; kernel_rfl)
    | false =>
      obtain rfl : Fs = [] := h2 rfl
      clear h2
      cases cB with
      | true =>
        clear h3
        cases mB <;> (show _ = _; kernel_rfl)
      | false =>
        obtain rfl : C = [] := h3 rfl
        clear h3
        cases mB <;> (show _ = _; kernel_rfl)
noncomputable def q28 : List (Nat × LC U) := [(2, LC.run X Lg an28 in28 Try.f28 2), (4, LC.run X Lg an28 [] Try.f28 4)]
noncomputable def lp28 : Lp U := lpL ((0, lc28a) :: q28)
theorem lp28_ok : ∀ c, Try.f28.body = some c → LpOk X Lg an28 lp28 (loops c 0) := lpL_ok (by kernel_rfl) fun b L hm st p hs => by
  cases hm with
  | head => exact l28a_ok hs
  | tail _ hm => cases hm with
    | head => exact run_ok (ag_of (bs := [4]) (by kernel_rfl) fun i hi R s K => by
        cases hi with
        | head => rfl
        | tail _ hi => cases hi) hs
    | tail _ hm => cases hm with
      | head => exact run_ok (ag_of (bs := []) (by kernel_rfl) fun i hi => by cases hi) hs
      | tail _ hm => cases hm
theorem evD0 {R : Type} (s : TS U) (K : Exit → TS U → Option R) (lp : Lp U) : evC X Lg an28 lp D0 0 s K = evC X Lg an28 lp (.seq DA D5) 0 s K := by
  conv => lhs; rw [hD0]
  have h5 := fun (s : TS U) (K : Exit → TS U → Option R) => evC_as (E := Lg) (an := an28) (lp := lp) (x := sL (sR (sR (sR (sR D0))))) (y := sL (sR (sR (sR (sR (sR D0)))))) (z := D5) (b := 0) s K
  have h4 := fun (s : TS U) (K : Exit → TS U → Option R) => (evC_cg (x := sL (sR (sR (sR D0)))) h5 s K).trans (evC_as s K)
  have h3 := fun (s : TS U) (K : Exit → TS U → Option R) => (evC_cg (x := sL (sR (sR D0))) h4 s K).trans (evC_as s K)
  have h2 := fun (s : TS U) (K : Exit → TS U → Option R) => (evC_cg (x := sL (sR D0)) h3 s K).trans (evC_as s K)
  have h1 := fun (s : TS U) (K : Exit → TS U → Option R) => (evC_cg (x := sL D0) h2 s K).trans (evC_as s K)
  exact h1 s K
theorem lwP_ok : ∀ (r : List R90) (s : LB) (v : Int), s.Ok → Bd s r → (lwP r s v).Ok
  | [], s, v, hs, hb => hs
  | z :: r, s, v, hs, hb => by
    obtain ⟨n1, n2⟩ := nxt_ok (v := v) hs hb
    rw [lwP]
    exact lwP_ok r _ _ n1 n2
/-- What the program lowers. -/
def lowP (t : TR) : IRs := (lwP t.N (s0 t) 0).ir
theorem e28 {t : TR} (ht : TrOk t) : evFn X Lg an28 lp28 Try.f28 [] [t.tv] (fun o v => some (o, wkIR.f v)) = some ([], irV (lowP t)) := by
  obtain ⟨t1, t2, t3⟩ := ht
  have hN := fnsW_len t.N
  have h0 : (s0 t).Ok := ⟨fun _ => rfl, fun _ => rfl, fun _ => rfl⟩
  have hb : Bd (s0 t) t.N := ⟨by show 0 + _ ≤ _; omega, by show 0 + _ ≤ _; omega, by show 0 + _ ≤ _; omega⟩
  have e2 : ∀ (K : Exit → TS U → Option (List (TO U) × TV U)), (lpL q28).F 2 (S28b (s0 t) false t.N 0) K = K (.exit 2) (E28 (lwP t.N (s0 t) 0) (false || !t.N.isEmpty)) := fun K => run_F (X := X) Lg_ok (rounds2 t.N (by omega) t.N (s0 t) false 0 (Int.le_refl 0) rfl h0 hb) K
  rw [w28, evD0, evC_seq]
  unfold lp28
  rw [eDA, if_pos (by unfold Sn; omega), if_pos (by unfold Sn; omega), if_pos (by unfold Sn; omega), if_pos (by unfold Sn; omega), if_pos ⟨by unfold Sn; omega, rfl, rfl, rfl, rfl, rfl, rfl⟩, e2]
  exact eD5 _ _ (lwP_ok t.N (s0 t) 0 h0 hb) _
noncomputable def sLowP : Spc U := .of dT (fun t => TrOk t) (fun _ => []) fun t => irV (lowP t)
theorem sLowP_ok : SpecOk Try.prog 28 sLowP := by
  refine fn_okw wkIR X_ok mixed Lg_ok an28 lp28 Try.func28 (by kernel_rfl) (by kernel_rfl) lp28_ok fun objs args t hx hp => ?_
  obtain ⟨rfl, rfl⟩ := dT_ok hx
  exact e28 hp
end Go.Proofs.Ytpkgikchphgfaaa.Lw
/- Numbers of a program that is read have 64 bits. -/
namespace Go.Proofs.Ytpkgikchphgfaaa.Ic
open Go Go.RowKit Go.Proofs.Ytpkgikchphgfaaa.Eng Go.Proofs.Ytpkgikchphgfaaa.Fl
set_option linter.unusedVariables false
set_option linter.unusedSimpArgs false
theorem R64.z : R64 0 := ⟨by decide, by decide⟩
theorem R64.small {x : Int} (h0 : -1 ≤ x) (h1 : x ≤ 4000000) : R64 x := ⟨by omega, by omega⟩
def TkR (t : R53) : Prop := R64 t.At ∧ R64 t.N ∧ t.S.size ≤ 100000
def PR (p : PS) : Prop := ∀ t ∈ p.L, TkR t
theorem getI_mem' {l : List R53} {v : Int} {x : R53} (h : getI l v = some x) : x ∈ l := by
  unfold getI at h
  by_cases hc : 0 ≤ v
  · rw [if_pos hc] at h
    exact List.mem_of_getElem? h
  · rw [if_neg hc] at h
    cases h
theorem PR.now {p : PS} (h : PR p) : TkR p.now := by
  unfold PS.now
  split
  · cases hg : getI p.L p.At with
    | none => exact ⟨R64.z, R64.z, Nat.zero_le _⟩
    | some t => exact h t (getI_mem' hg)
  · exact ⟨R64.z, R64.z, Nat.zero_le _⟩
theorem PR.next {p : PS} (h : PR p) : PR p.next := by unfold PS.next; split <;> exact h
theorem PR.fail {p : PS} (h : PR p) (c a : Int) : PR (p.fail c a) := by unfold PS.fail; split <;> exact h
theorem PR.most {p : PS} (h : PR p) (n m : Int) : PR (p.most n m) := by unfold PS.most; split; exact h.fail _ _; exact h
theorem PR.must {p : PS} (h : PR p) (s : ByteArray) : PR (p.must s) := by unfold PS.must; split; exact h.next; exact h.fail _ _
theorem PR.name {p : PS} (h : PR p) : PR p.name.1 := by unfold PS.name; split; exact h.next; exact h.fail _ _
theorem PR.nameS {p : PS} (h : PR p) : p.name.2.size ≤ 100000 := by unfold PS.name; split; exact h.now.2.2; exact Nat.zero_le _
theorem PR.cond {b : Bool} {p q : PS} (h : PR p) (h2 : PR q) : PR (cond b p q) := by cases b <;> assumption
theorem rfl3 (k : Int) (h : 0 ≤ k ∧ k ≤ 3) : 0 ≤ k ∧ k ≤ 3 := h
theorem PR.typ {p : PS} (h : PR p) : PR p.typ.1 ∧ 0 ≤ p.typ.2 ∧ p.typ.2 ≤ 3 := by
  unfold PS.typ
  cases p.is bInt with
  | true => exact ⟨h.next, rfl3 1 (by decide)⟩
  | false =>
    cases p.is bRef with
    | true => exact ⟨h.next, rfl3 2 (by decide)⟩
    | false =>
      cases p.is bFun with
      | true => exact ⟨h.next, rfl3 3 (by decide)⟩
      | false => exact ⟨h.fail _ _, rfl3 0 (by decide)⟩
def DR (d : R82) : Prop := R64 d.Type_ ∧ R64 d.At
theorem PR.decl {p : PS} (h : PR p) : PR p.decl.1 ∧ DR p.decl.2 := by
  have h1 := (h.name.must ⟨#[58]⟩).typ
  exact ⟨h1.1, R64.small (by have := h1.2.1; show -1 ≤ ((p.name.1.must ⟨#[58]⟩).typ.2 : Int); omega) (by have := h1.2.2; show ((p.name.1.must ⟨#[58]⟩).typ.2 : Int) ≤ _; omega), h.now.1⟩
theorem PR.argsL : ∀ (N : Nat) {q : PS} (out : List ByteArray), PR q → PR (argsL N q out).1 := by
  intro N
  induction N with
  | zero => intro q out h; exact h
  | succ N ih =>
    intro q out h
    unfold Fl.argsL
    cases decide (q.Code = 0) with
    | false => exact h
    | true =>
      cases !q.is ⟨#[41]⟩ with
      | false => exact h
      | true => exact ih _ (((PR.cond (h.must _) h).most _ _).name)
theorem PR.args {p : PS} (h : PR p) : PR p.args.1 := by
  unfold PS.args
  exact .cond (PR.argsL _ _ (h.must _)).next (PR.argsL _ _ (h.must _))
theorem PR.number {p : PS} (h : PR p) : PR p.number.1 ∧ R64 p.number.2.1 := by
  unfold PS.number
  cases p.is ⟨#[45]⟩ with
  | true =>
    cases !decide (p.next.now.Kind = 2) with
    | true => exact ⟨h.next.fail _ _, R64.z⟩
    | false => exact ⟨h.next.next, R64.of_wrap _⟩
  | false =>
    rw [cond_false]
    cases !decide (p.now.Kind = 2) with
    | true => exact ⟨h, R64.z⟩
    | false => exact ⟨h.next, h.now.2.1⟩
def ER (e : R112) : Prop := R64 e.Op ∧ R64 e.N ∧ (e.Args = [] ∨ e.Kind = 10 ∨ e.Kind = 11)
theorem ER.z {k : Int} {a b : ByteArray} : ER ⟨k, a, b, 0, 0, []⟩ := ⟨R64.z, R64.z, .inl rfl⟩
theorem ER.c {a b : ByteArray} {l : List ByteArray} : ER ⟨10, a, b, 0, 0, l⟩ := ⟨R64.z, R64.z, .inr (.inl rfl)⟩
theorem ER.d {a b : ByteArray} {l : List ByteArray} : ER ⟨11, a, b, 0, 0, l⟩ := ⟨R64.z, R64.z, .inr (.inr rfl)⟩
theorem PR.op {p : PS} (h : PR p) (s : ByteArray) (k : Int) (hk : R64 k) : PR (p.op s k).1 ∧ ER (p.op s k).2 := by
  unfold PS.op
  cases p.next.number.2.2 with
  | true => exact ⟨h.next.number.1, hk, h.next.number.2, .inl rfl⟩
  | false => exact ⟨h.next.name, hk, R64.z, .inl rfl⟩
theorem PR.bh {p : PS} (h : PR p) (s : ByteArray) : PR (p.bh s).1 ∧ ER (p.bh s).2 := by
  unfold PS.bh
  simp only [Bool.cond_eq_ite]
  repeat' split
  all_goals first | exact ⟨h.args, ER.c⟩ | exact ⟨h.next.name, ER.z⟩ | exact ⟨h, ER.z⟩ | exact h.op s _ ⟨by decide, by decide⟩
theorem PR.expr {p : PS} (h : PR p) : PR p.expr.1 ∧ ER p.expr.2 := by
  unfold PS.expr
  simp only [Bool.cond_eq_ite]
  repeat' split
  all_goals first | exact ⟨h.next, ER.z⟩ | exact ⟨h.next.name, ER.z⟩ | exact ⟨h.next.name.args, ER.d⟩ | exact h.next.bh _ | exact ⟨h.fail _ _, ER.z⟩ | exact ⟨h.number.1, R64.z, h.number.2, .inl rfl⟩
mutual
def SR : R114 → Prop
  | .mk k a to fi fr e b l => R64 a ∧ ER e ∧ SRL b ∧ SRL l ∧ (k ≠ 4 → l = []) ∧ (k ≠ 4 → k ≠ 5 → b = [])
def SRL : List R114 → Prop
  | [] => True
  | x :: l => SR x ∧ SRL l
end
theorem SRL.app : ∀ {l m : List R114}, SRL l → SRL m → SRL (l ++ m)
  | [], m, _, h => h
  | x :: l, m, h, h2 => by
    have h : SR x ∧ SRL l := h
    exact ⟨h.1, SRL.app h.2 h2⟩
theorem PR.called {p : PS} (h : PR p) (k : Int) {a : Int} (ha : R64 a) : PR (p.called k a).1 ∧ SR (p.called k a).2 := by
  unfold PS.called
  exact ⟨.cond (h.expr.1.fail _ _) h.expr.1, by rw [SR]; exact ⟨ha, h.expr.2, trivial, trivial, fun _ => rfl, fun _ _ => rfl⟩⟩
theorem PR.sets {p : PS} (h : PR p) {a : Int} (ha : R64 a) : PR (p.sets a).1 ∧ SR (p.sets a).2 := by
  unfold PS.sets
  have e0 : ER e0x := ER.z
  simp only [Bool.cond_eq_ite]
  repeat' split
  all_goals first | exact h.next.called 8 ha | exact h.called 9 ha | exact ⟨(h.next.name.must _).name, by rw [SR]; exact ⟨ha, e0, trivial, trivial, fun _ => rfl, fun _ _ => rfl⟩⟩ | exact ⟨(h.name.bh _).1, by rw [SR]; exact ⟨ha, (h.name.bh _).2, trivial, trivial, fun _ => rfl, fun _ _ => rfl⟩⟩ |
    exact ⟨(h.name.next.name.must _).name, by rw [SR]; exact ⟨ha, e0, trivial, trivial, fun _ => rfl, fun _ _ => rfl⟩⟩ | exact ⟨(h.name.must _).expr.1, by rw [SR]; exact ⟨ha, (h.name.must _).expr.2, trivial, trivial, fun _ => rfl, fun _ _ => rfl⟩⟩
theorem PR.stmtsL {st : PS → PS × R114} (hst : ∀ q, PR q → PR (st q).1 ∧ SR (st q).2) : ∀ (N : Nat) {q : PS} {out : List R114}, PR q → SRL out → PR (stmtsL st N q out).1 ∧ SRL (stmtsL st N q out).2 := by
  intro N
  induction N with
  | zero => intro q out h h2; exact ⟨h, h2⟩
  | succ N ih =>
    intro q out h h2
    unfold Fl.stmtsL
    cases decide (q.Code = 0) with
    | false => exact ⟨h, h2⟩
    | true =>
      cases !q.is ⟨#[125]⟩ with
      | false => exact ⟨h, h2⟩
      | true =>
        have h3 : PR (q.most q.Many 2048).mm := h.most _ _
        exact ih (hst _ h3).1 (h2.app ⟨(hst _ h3).2, trivial⟩)
theorem PR.stmtsW {st : PS → PS × R114} (hst : ∀ q, PR q → PR (st q).1 ∧ SR (st q).2) {p : PS} (h : PR p) : PR (stmtsW st p).1 ∧ SRL (stmtsW st p).2 := by
  have h1 := PR.stmtsL hst (p.left + 1) h (out := []) trivial
  exact ⟨.cond h1.1.next h1.1, h1.2⟩
theorem PR.stmtW {blk : PS → PS × List R114} (hb : ∀ q, PR q → PR (blk q).1 ∧ SRL (blk q).2) {p : PS} (h : PR p) : PR (stmtW blk p).1 ∧ SR (stmtW blk p).2 := by
  have ha := h.now.1
  have e0 : ER e0x := ER.z
  have hs := h.sets ha
  have h1 := hb _ h.next.name
  have h2 := hb _ h1.1.next
  unfold Fl.stmtW ifW
  simp only [Bool.cond_eq_ite]
  repeat' split
  all_goals first | exact ⟨h.next.name.must _, by rw [SR]; exact ⟨ha, e0, trivial, trivial, fun _ => rfl, fun _ _ => rfl⟩⟩ | exact ⟨h.next.must _, by rw [SR]; exact ⟨ha, e0, trivial, trivial, fun _ => rfl, fun _ _ => rfl⟩⟩ | exact ⟨hs.1.must _, hs.2⟩ | exact ⟨h1.1, by rw [SR]; exact ⟨ha, e0, h1.2, trivial, fun _ => rfl, fun h => absurd rfl h⟩⟩ | exact ⟨h1.1, by rw [SR]; exact ⟨ha, e0, h1.2, trivial, fun _ => rfl, fun _ h => absurd rfl h⟩⟩ | exact ⟨h2.1, by rw [SR]; exact ⟨ha, e0, h1.2, h2.2, fun h => absurd rfl h, fun h => absurd rfl h⟩⟩
theorem PR.blockN : ∀ (N : Nat) {p : PS}, PR p → PR (blockN N p).1 ∧ SRL (blockN N p).2 := by
  intro N
  induction N with
  | zero => intro p h; exact ⟨h, trivial⟩
  | succ N ih =>
    intro p h
    have h1 : PR ((p.must ⟨#[123]⟩).most (p.must ⟨#[123]⟩).Deep 64).up := (h.must _).most _ _
    have h2 := PR.stmtsW (fun q hq => PR.stmtW (fun q hq => ih hq) hq) h1
    exact h2
theorem PR.stmts {p : PS} (h : PR p) : PR p.stmts.1 ∧ SRL p.stmts.2 := PR.stmtsW (fun q hq => PR.stmtW (fun q hq => PR.blockN _ hq) hq) h
theorem PR.declsL : ∀ (N : Nat) {q : PS} {out : List R82}, PR q → (∀ d ∈ out, DR d) → PR (declsL N q out).1 ∧ ∀ d ∈ (declsL N q out).2, DR d := by
  intro N
  induction N with
  | zero => intro q out h h2; exact ⟨h, h2⟩
  | succ N ih =>
    intro q out h h2
    unfold Fl.declsL
    cases decide (q.Code = 0) with
    | false => exact ⟨h, h2⟩
    | true =>
      cases !q.is ⟨#[41]⟩ with
      | false => exact ⟨h, h2⟩
      | true =>
        have h3 := ((PR.cond (b := decide (0 < (out.length : Int))) (h.must ⟨#[44]⟩) h).most out.length 8).decl
        exact ih h3.1 fun d hd => by
          rcases List.mem_append.1 hd with hd | hd
          · exact h2 d hd
          · rw [List.mem_singleton.1 hd]; exact h3.2
theorem PR.varsL : ∀ (N : Nat) {q : PS} {out : List R82}, PR q → (∀ d ∈ out, DR d) → PR (varsL N q out).1 ∧ ∀ d ∈ (varsL N q out).2, DR d := by
  intro N
  induction N with
  | zero => intro q out h h2; exact ⟨h, h2⟩
  | succ N ih =>
    intro q out h h2
    unfold Fl.varsL
    cases q.is ⟨#[118, 97, 114]⟩ with
    | false => exact ⟨h, h2⟩
    | true =>
      have h3 := (h.next.most out.length 128).decl
      exact ih (h3.1.must _) fun d hd => by
        rcases List.mem_append.1 hd with hd | hd
        · exact h2 d hd
        · rw [List.mem_singleton.1 hd]; exact h3.2
def FR (f : R90) : Prop := f.Name.size ≤ 100000 ∧ R64 f.At ∧ R64 f.Ret ∧ (∀ d ∈ f.Params, DR d) ∧ (∀ d ∈ f.Vars, DR d) ∧ SRL f.Body
theorem PR.fn {p : PS} (h : PR p) {a : Int} (ha : R64 a) : PR (p.fn a).1 ∧ FR (p.fn a).2 := by
  have hA := PR.declsL ((p.name.1.must ⟨#[40]⟩).left + 1) (h.name.must ⟨#[40]⟩) (out := []) (fun d hd => by cases hd)
  have hB : PR (Fl.fnB p) := .cond hA.1.next hA.1
  have hC : PR (fnC p).1 ∧ R64 (fnC p).2 := by
    unfold fnC
    cases (Fl.fnB p).is ⟨#[58]⟩ with
    | true =>
      have ht := hB.next.typ
      exact ⟨ht.1, R64.small (by have := ht.2.1; show -1 ≤ ((Fl.fnB p).next.typ.2 : Int); omega) (by have := ht.2.2; show ((Fl.fnB p).next.typ.2 : Int) ≤ _; omega)⟩
    | false => exact ⟨hB, R64.z⟩
  have hD := PR.varsL (((fnC p).1.must ⟨#[123]⟩).left + 1) (hC.1.must ⟨#[123]⟩) (out := []) (fun d hd => by cases hd)
  have hS := PR.stmts (p := (fnD p).1) hD.1
  exact ⟨hS.1, h.nameS, ha, hC.2, hA.2, hD.2, hS.2⟩
def TrR (t : TR) : Prop := (∀ d ∈ t.G, DR d) ∧ (∀ d ∈ t.F, DR d) ∧ ∀ f ∈ t.N, FR f
theorem snoc_all {α : Type} {P : α → Prop} {l : List α} {x : α} (h : ∀ y ∈ l, P y) (hx : P x) : ∀ y ∈ l ++ [x], P y := fun y hy => by
  rcases List.mem_append.1 hy with hy | hy
  · exact h y hy
  · rw [List.mem_singleton.1 hy]; exact hx
theorem progL_R : ∀ (N : Nat) {q : PS} {g f : List R82} {n : List R90}, PR q → (∀ d ∈ g, DR d) → (∀ d ∈ f, DR d) → (∀ z ∈ n, FR z) → (∀ d ∈ (progL N q g f n).g, DR d) ∧ (∀ d ∈ (progL N q g f n).f, DR d) ∧ ∀ z ∈ (progL N q g f n).n, FR z := by
  intro N
  induction N with
  | zero => intro q g f n h h1 h2 h3; exact ⟨h1, h2, h3⟩
  | succ N ih =>
    intro q g f n h h1 h2 h3
    unfold progL
    cases decide (q.Code = 0) with
    | false => exact ⟨h1, h2, h3⟩
    | true =>
      cases !decide (q.now.Kind = 0) with
      | false => exact ⟨h1, h2, h3⟩
      | true =>
        rw [cond_true, cond_true]
        cases q.is ⟨#[103, 108, 111, 98, 97, 108]⟩ with
        | true =>
          have hd := (h.next.most g.length 128).decl
          exact ih (hd.1.must _) (snoc_all h1 hd.2) h2 h3
        | false =>
          rw [cond_false]
          cases q.is ⟨#[102, 105, 101, 108, 100]⟩ with
          | true =>
            have hd := (h.next.most f.length 128).decl
            exact ih (hd.1.must _) h1 (snoc_all h2 hd.2) h3
          | false =>
            rw [cond_false]
            cases q.is ⟨#[102, 110]⟩ with
            | true =>
              have hf := (h.next.most n.length 128).fn h.now.1
              exact ih hf.1 h1 h2 (snoc_all h3 hf.2)
            | false => exact ih (h.fail _ _) h1 h2 h3
/-! ### The words -/
theorem cutS_size {s : ByteArray} (i j : Int) (hs : s.size ≤ 100000) : (Fl.cutS s i j).size ≤ 100000 := by
  unfold Fl.cutS cutB
  dsimp only
  split
  · show (s.extract _ _).size ≤ _
    rw [ByteArray.size_extract]
    omega
  · exact Nat.zero_le _
theorem nb_R (s : ByteArray) : ∀ (N : Nat) (i n : Int), R64 n → R64 (nb s N i n).2.1 := by
  intro N
  induction N with
  | zero => intro i n h; exact h
  | succ N ih =>
    intro i n h
    unfold nb
    split
    · split
      · split
        · split
          · exact R64.of_wrap _
          · exact ih _ _ (R64.of_wrap _)
        · exact h
      · exact h
    · exact h
theorem wd1_R {s : ByteArray} (hs : s.size ≤ 100000) {i : Int} (hi : i < s.size) {t : R53} {j : Int} (h : wd1 s i = some (t, j)) : TkR t := by
  unfold wd1 at h
  cases hc : getB s i with
  | none => rw [hc] at h; cases h
  | some c =>
    have h0 : 0 ≤ i := by
      unfold getB at hc
      by_cases h0 : 0 ≤ i
      · exact h0
      · simp [h0] at hc
    have hr : R64 i := ⟨by omega, by omega⟩
    rw [hc, Option.bind_some] at h
    split at h
    · cases h; exact ⟨hr, R64.z, cutS_size _ _ hs⟩
    · split at h
      · split at h
        · cases h
        · cases h; exact ⟨hr, nb_R _ _ _ _ R64.z, cutS_size _ _ hs⟩
      · split at h
        · cases h
        · cases h; exact ⟨hr, R64.z, cutS_size _ _ hs⟩
theorem lxs_R {s : ByteArray} (hs : s.size ≤ 100000) : ∀ (N : Nat) (i : Int) (out : List R53), (∀ t ∈ out, TkR t) → ∀ t ∈ (lxs s N i out).1, TkR t := by
  intro N
  induction N with
  | zero => intro i out h; exact h
  | succ N ih =>
    intro i out h
    rw [lxs]
    split
    · rename_i hi
      split
      · rename_i t j hw
        exact ih _ _ (snoc_all h (wd1_R hs hi hw))
      · exact h
    · exact h
theorem ps0_R {s : ByteArray} (hs : s.size ≤ 100000) : PR (ps0 s) := by
  show ∀ t ∈ lexL s, TkR t
  unfold lexL lexP
  exact snoc_all (lxs_R hs _ _ _ fun t h => by cases h) ⟨R64.small (by show -1 ≤ (s.size : Int); omega) (by show (s.size : Int) ≤ _; omega), R64.z, Nat.zero_le _⟩
theorem parse_R {s : ByteArray} (hs : s.size ≤ 100000) : TrR (parseP s).1 := by
  have h1 := progL_R ((ps0 s).left + 1) (ps0_R hs) (g := []) (f := []) (n := []) (fun d h => by cases h) (fun d h => by cases h) (fun d h => by cases h)
  have hz : TrR ⟨[], [], []⟩ := And.intro (by intro d h; cases h) (And.intro (by intro d h; cases h) (by intro d h; cases h))
  unfold parseP
  cases lexF s with
  | true => exact hz
  | false =>
    cases !decide ((progP (ps0 s)).q.Code = 0) with
    | true => exact hz
    | false => exact h1
end Go.Proofs.Ytpkgikchphgfaaa.Ic
/- What the program lowers is what the document lowers: statements. -/
namespace Go.Proofs.Ytpkgikchphgfaaa.Lw
open Go Go.RowKit Go.Proofs.Ytpkgikchphgfaaa.Eng Go.Proofs.Ytpkgikchphgfaaa.Fl
set_option linter.unusedVariables false
set_option linter.unusedSimpArgs false
/-- Names stand for the same. -/
structure Cor (s : LB) (b : BS) : Prop where
  fn : s.fn = b.Fn
  v : ∀ x, fd b.V x → s.v x = b.v x
  g : ∀ x, s.gl x = atP b.G x
  f : ∀ x, s.fl x = atP b.F x
  n : ∀ x, s.fu x = b.fnP x
theorem call_eq {s : LB} {b : BS} (h : Cor s b) {e : R112} (hv : cV b.V e) (op a : Int) : s.call op a e = b.call op a e := by
  have hm : e.Args.map s.v = ag79 b e.Args := by
    unfold ag79
    exact List.map_congr_left fun x hx => h.v x (hv.2 x hx)
  unfold LB.call BS.call
  rw [hm, h.n]
  by_cases hk : e.Kind = 11
  · rw [decide_eq_true hk, h.v _ (hv.1 hk)]
  · rw [decide_eq_false hk]; rfl
theorem set_eq {s : LB} {b : BS} (h : Cor s b) {e : R112} (hv : exV b.V e) (hk : e.Args = [] ∨ e.Kind = 10 ∨ e.Kind = 11) (a : Int) : s.set a e = b.set a e := by
  obtain ⟨v1, v2, v3⟩ := hv
  unfold LB.set BS.set
  by_cases h1 : e.Kind = 1
  · rw [decide_eq_true h1]; rfl
  by_cases h2 : e.Kind = 2
  · rw [decide_eq_false h1, decide_eq_true h2]; rfl
  by_cases h3 : e.Kind = 3
  · rw [decide_eq_false h1, decide_eq_false h2, decide_eq_true h3, h.v _ (v1 (.inl h3))]; rfl
  by_cases h4 : e.Kind = 4
  · rw [decide_eq_false h1, decide_eq_false h2, decide_eq_false h3, decide_eq_true h4, h.g]; rfl
  by_cases h5 : e.Kind = 5
  · rw [decide_eq_false h1, decide_eq_false h2, decide_eq_false h3, decide_eq_false h4, decide_eq_true h5, h.v _ (v1 (.inr (.inl h5))), h.f]; rfl
  by_cases h6 : e.Kind = 6
  · rw [decide_eq_false h1, decide_eq_false h2, decide_eq_false h3, decide_eq_false h4, decide_eq_false h5, decide_eq_true h6]; rfl
  by_cases h7 : e.Kind = 7
  · rw [decide_eq_false h1, decide_eq_false h2, decide_eq_false h3, decide_eq_false h4, decide_eq_false h5, decide_eq_false h6, decide_eq_true h7, h.n]; rfl
  by_cases h8 : e.Kind = 8
  · rw [decide_eq_false h1, decide_eq_false h2, decide_eq_false h3, decide_eq_false h4, decide_eq_false h5, decide_eq_false h6, decide_eq_false h7, decide_eq_true h8, h.v _ (v1 (.inr (.inr (.inl h8)))), h.v _ (v2 h8)]; rfl
  by_cases h9 : e.Kind = 9
  · rw [decide_eq_false h1, decide_eq_false h2, decide_eq_false h3, decide_eq_false h4, decide_eq_false h5, decide_eq_false h6, decide_eq_false h7, decide_eq_false h8, decide_eq_true h9, h.v _ (v1 (.inr (.inr (.inr h9))))]; rfl
  rw [decide_eq_false h1, decide_eq_false h2, decide_eq_false h3, decide_eq_false h4, decide_eq_false h5, decide_eq_false h6, decide_eq_false h7, decide_eq_false h8, decide_eq_false h9]
  simp only [cond_false]
  by_cases hkk : e.Kind = 10 ∨ e.Kind = 11
  · exact call_eq h (v3 hkk) 12 a
  · have ha : e.Args = [] := by
      rcases hk with hk | hk
      · exact hk
      · exact (hkk hk).elim
    exact call_eq h ⟨fun h11 => (hkk (.inr h11)).elim, fun x hx => by rw [ha] at hx; cases hx⟩ 12 a
theorem one_eq {s : LB} {b : BS} (h : Cor s b) : ∀ {z : R114}, stVr b.V z → Ic.SR z → s.one z = b.one z
  | .mk k a to fi fr e bd el, hv, hs => by
    rw [stVr] at hv
    rw [Ic.SR] at hs
    obtain ⟨v1, v2, v3, v4, v5, _⟩ := hv
    have he := hs.2.1.2.2
    unfold LB.one BS.one
    show cond (decide (k = 1)) (s.set (s.v to) e) _ = cond (decide (k = 1)) (b.set (b.v to) e) _
    by_cases h1 : k = 1
    · rw [decide_eq_true h1, h.v _ (v1 (.inl h1)), set_eq h (v4 h1) he]; rfl
    rw [decide_eq_false h1, cond_false, cond_false]
    show cond (decide (k = 2)) (ins3 9 (s.gl to) (s.v fr) 0 0 0) _ = cond (decide (k = 2)) (ins3 9 (atP b.G to) (b.v fr) 0 0 0) _
    by_cases h2 : k = 2
    · rw [decide_eq_true h2, h.g, h.v _ (v2 (.inl h2))]; rfl
    rw [decide_eq_false h2, cond_false, cond_false]
    show cond (decide (k = 3)) (ins3 11 (s.v to) (s.v fr) (s.fl fi) 0 0) _ = cond (decide (k = 3)) (ins3 11 (b.v to) (b.v fr) (atP b.F fi) 0 0) _
    by_cases h3 : k = 3
    · rw [decide_eq_true h3, h.f, h.v _ (v1 (.inr h3)), h.v _ (v2 (.inr (.inl h3)))]; rfl
    rw [decide_eq_false h3, cond_false, cond_false]
    show cond (decide (k = 6)) (ins3 14 (s.v fr) 0 0 0 0) _ = cond (decide (k = 6)) (ins3 14 (b.v fr) 0 0 0 0) _
    by_cases h6 : k = 6
    · rw [decide_eq_true h6, h.v _ (v2 (by omega))]; rfl
    rw [decide_eq_false h6, cond_false, cond_false]
    show cond (decide (k = 7)) (ins3 15 (s.v fr) 0 0 0 0) _ = cond (decide (k = 7)) (ins3 15 (b.v fr) 0 0 0 0) _
    by_cases h7 : k = 7
    · rw [decide_eq_true h7, h.v _ (v2 (by omega))]; rfl
    rw [decide_eq_false h7, cond_false, cond_false]
    show cond (decide (k = 8)) (s.call 13 (-1) e) _ = cond (decide (k = 8)) (b.call 13 (-1) e) _
    by_cases h8 : k = 8
    · rw [decide_eq_true h8, call_eq h (v5 (.inl h8))]; rfl
    rw [decide_eq_false h8, cond_false, cond_false]
    show cond (decide (k = 9)) (s.call 12 (-1) e) _ = cond (decide (k = 9)) (b.call 12 (-1) e) _
    by_cases h9 : k = 9
    · rw [decide_eq_true h9, call_eq h (v5 (.inr h9))]; rfl
    rw [decide_eq_false h9, cond_false, cond_false]
    show cond (decide (k = 10)) (cond (!(fr.toList == (⟨#[]⟩ : ByteArray).toList)) (ins3 16 (s.v fr) 0 0 0 0) (ins3 16 (-1) 0 0 0 0)) _ = cond (decide (k = 10)) (cond (fr.toList == (⟨#[]⟩ : ByteArray).toList) (ins3 16 (-1) 0 0 0 0) (ins3 16 (b.v fr) 0 0 0 0)) _
    by_cases h10 : k = 10
    · rw [decide_eq_true h10, cond_true, cond_true]
      cases hf : (fr.toList == (⟨#[]⟩ : ByteArray).toList) with
      | true => rfl
      | false => rw [h.v _ (v3 h10 hf)]; rfl
    rw [decide_eq_false h10]
    rfl
/-! ### Instructions, by where they begin -/
def at18 (s : LB) (a : Int) (fr : ByteArray) (x y : Nat) : R65 := ⟨s.fn, a, 18, s.v fr, x, y, 0, 0, []⟩
def at17 (s : LB) (a : Int) (x : Nat) : R65 := ⟨s.fn, a, 17, 0, x, 0, 0, 0, []⟩
mutual
def cdS (s : LB) : R114 → Nat → List R65
  | .mk k a to fi fr e b l, n => cond (decide (k = 4)) (cond (decide ((l.length : Int) = 0))
      (at18 s a fr (n + 1) (n + 1 + (cdL s b (n + 1)).length) :: cdL s b (n + 1))
      (at18 s a fr (n + 1) (n + 1 + (cdL s b (n + 1)).length + 1) :: (cdL s b (n + 1) ++ at17 s a (n + 1 + (cdL s b (n + 1)).length + 1 + (cdL s l (n + 1 + (cdL s b (n + 1)).length + 1)).length) :: cdL s l (n + 1 + (cdL s b (n + 1)).length + 1))))
    (cond (decide (k = 5)) (at18 s a fr (n + 1) (n + 1 + (cdL s b (n + 1)).length + 1) :: (cdL s b (n + 1) ++ [at17 s a n])) [atI s.fn a (s.one (.mk k a to fi fr e b l))])
def cdL (s : LB) : List R114 → Nat → List R65
  | [], n => []
  | x :: l, n => cdS s x n ++ cdL s l (n + (cdS s x n).length)
end
theorem setBx_at (C D : List R65) (x : R65) (v : Int) : setBx (C ++ x :: D) C.length v = C ++ { x with B := v } :: D := by
  unfold setBx
  rw [List.getElem?_append_right (Nat.le_refl _), Nat.sub_self]
  simp
theorem setCx_at (C D : List R65) (x : R65) (v : Int) : setCx (C ++ x :: D) C.length v = C ++ { x with C := v } :: D := by
  unfold setCx
  rw [List.getElem?_append_right (Nat.le_refl _), Nat.sub_self]
  simp
theorem hd_eq (s : LB) (a : Int) (fr : ByteArray) (C : List R65) : s.hd a fr C = C ++ [at18 s a fr (C.length + 1) 0] := by
  unfold LB.hd
  rw [setBx_at]
  rfl
mutual
theorem pS_cd (s : LB) : ∀ (z : R114) (C : List R65), pS s z C = C ++ cdS s z C.length
  | .mk k a to fi fr e b l, C => by
    have hb := pL_cd s b (s.hd a fr C)
    rw [hd_eq, List.length_append, List.length_singleton, List.append_assoc, List.singleton_append] at hb
    rw [pS, cdS]
    cases decide (k = 4) with
    | true =>
      rw [cond_true, cond_true]
      cases decide ((l.length : Int) = 0) with
      | true =>
        rw [cond_true, cond_true, hd_eq, hb, setCx_at, List.length_append, List.length_cons]
        unfold at18
        congr 3
        omega
      | false =>
        rw [cond_false, cond_false, hd_eq, hb]
        have hm : s.md a C.length (C ++ at18 s a fr (C.length + 1) 0 :: cdL s b (C.length + 1)) = C ++ at18 s a fr (C.length + 1) (C.length + 1 + (cdL s b (C.length + 1)).length + 1) :: (cdL s b (C.length + 1) ++ [at17 s a 0]) := by
          unfold LB.md
          rw [List.append_assoc, List.cons_append, setCx_at, List.length_append, List.length_cons]
          unfold at18 at17 atI ins3
          congr 3
          omega
        rw [hm]
        have hl := pL_cd s l (C ++ at18 s a fr (C.length + 1) (C.length + 1 + (cdL s b (C.length + 1)).length + 1) :: (cdL s b (C.length + 1) ++ [at17 s a 0]))
        rw [hl]
        have e1 : (C ++ at18 s a fr (C.length + 1) (C.length + 1 + (cdL s b (C.length + 1)).length + 1) :: (cdL s b (C.length + 1) ++ [at17 s a 0])).length = C.length + 1 + (cdL s b (C.length + 1)).length + 1 := by
          rw [List.length_append, List.length_cons, List.length_append, List.length_singleton]
          omega
        rw [e1]
        generalize cdL s l (C.length + 1 + (cdL s b (C.length + 1)).length + 1) = D
        have e2 : C ++ at18 s a fr (C.length + 1) (C.length + 1 + (cdL s b (C.length + 1)).length + 1) :: (cdL s b (C.length + 1) ++ [at17 s a 0]) ++ D = (C ++ at18 s a fr (C.length + 1) (C.length + 1 + (cdL s b (C.length + 1)).length + 1) :: cdL s b (C.length + 1)) ++ at17 s a 0 :: D := by
          simp
        have e3 : (C ++ at18 s a fr (C.length + 1) 0 :: cdL s b (C.length + 1)).length = (C ++ at18 s a fr (C.length + 1) (C.length + 1 + (cdL s b (C.length + 1)).length + 1) :: cdL s b (C.length + 1)).length := by
          rw [List.length_append, List.length_append, List.length_cons, List.length_cons]
        rw [e2, e3, setBx_at, List.append_assoc, List.cons_append]
        have e4 : ((C ++ at18 s a fr (C.length + 1) (C.length + 1 + (cdL s b (C.length + 1)).length + 1) :: cdL s b (C.length + 1)) ++ at17 s a 0 :: D).length = C.length + 1 + (cdL s b (C.length + 1)).length + 1 + D.length := by
          rw [List.length_append, List.length_append, List.length_cons, List.length_cons]
          omega
        rw [e4]
        rfl
    | false =>
      rw [cond_false, cond_false]
      cases decide (k = 5) with
      | true =>
        rw [cond_true, cond_true, hd_eq, hb]
        unfold LB.bk
        rw [List.append_assoc, List.cons_append, setCx_at, List.length_append, List.length_cons]
        unfold at18 at17 atI ins3
        congr 3
        omega
      | false => rfl
theorem pL_cd (s : LB) : ∀ (l : List R114) (C : List R65), pL s l C = C ++ cdL s l C.length
  | [], C => by rw [pL, cdL, List.append_nil]
  | x :: l, C => by
    rw [pL, cdL, pL_cd s l, pS_cd s x, List.length_append, List.append_assoc]
end
/-! ### The document's -/
mutual
theorem cdS_sz (s : LB) : ∀ (z : R114) (n : Nat), Ic.SR z → ((cdS s z n).length : Int) = szS z
  | .mk k a to fi fr e b l, n, hs => by
    rw [Ic.SR] at hs
    obtain ⟨_, _, s1, s2, s3, s4⟩ := hs
    have hb := fun m => cdL_sz s b m s1
    have hl := fun m => cdL_sz s l m s2
    rw [cdS, szS]
    by_cases h4 : k = 4
    · rw [decide_eq_true h4]
      simp only [cond_true, Bool.true_and]
      rw [decide_eq_false (show ¬ k = 5 by omega), Bool.false_or]
      by_cases hl0 : (l.length : Int) = 0
      · rw [decide_eq_true hl0, decide_eq_false (by omega), cond_true, cond_false, List.length_cons]
        have h1 := hb (n + 1)
        have h2 := hl 0
        have : szL l = 0 := by
          have : l = [] := List.eq_nil_of_length_eq_zero (by omega)
          rw [this, szL]
        omega
      · rw [decide_eq_false hl0, decide_eq_true (by omega), cond_true, cond_false, List.length_cons, List.length_append, List.length_cons]
        have h1 := hb (n + 1)
        have h2 := hl (n + 1 + (cdL s b (n + 1)).length + 1)
        omega
    · rw [decide_eq_false h4]
      have e2 : szL l = 0 := by rw [s3 h4, szL]
      by_cases h5 : k = 5
      · rw [decide_eq_true h5]
        simp only [cond_true, cond_false, Bool.true_or]
        rw [List.length_cons, List.length_append, List.length_singleton]
        have h1 := hb (n + 1)
        omega
      · rw [decide_eq_false h5]
        have e1 : szL b = 0 := by rw [s4 h4 h5, szL]
        simp only [cond_false, Bool.false_or, Bool.false_and]
        rw [List.length_singleton]
        omega
theorem cdL_sz (s : LB) : ∀ (l : List R114) (n : Nat), Ic.SRL l → ((cdL s l n).length : Int) = szL l
  | [], n, _ => by rw [cdL, szL]; rfl
  | x :: l, n, hs => by
    rw [Ic.SRL] at hs
    have h1 := cdS_sz s x n hs.1
    have h2 := cdL_sz s l (n + (cdS s x n).length) hs.2
    rw [cdL, szL, List.length_append]
    omega
end
theorem Cor.c {s : LB} {b : BS} (h : Cor s b) (C : List R65) : Cor s { b with C := C } := ⟨h.fn, h.v, h.g, h.f, h.n⟩
theorem put_eq (b : BS) (a : Int) (x : R65) : b.put a x = { b with C := b.C ++ [⟨b.Fn, a, x.Op, x.A, x.B, x.C, x.Do, x.N, x.Args⟩] } := by
  unfold BS.put
  rw [List.nil_append]
theorem here_eq {b : BS} {n : Nat} (h : b.First + b.C.length = (n : Int)) (hn : n ≤ 4000000) : b.here = n := by
  unfold BS.here
  rw [h]
  exact wrap_i64 (by omega) (by omega)
theorem wS {x : Int} {n : Nat} (h : x = n) (hn : n ≤ 40000000) : IntKind.i64.wrap x = n := by
  rw [h]
  exact wrap_i64 (by omega) (by omega)
mutual
theorem blS_cd {s : LB} : ∀ (z : R114) (b : BS) (n : Nat), Cor s b → stVr b.V z → Ic.SR z → b.First + b.C.length = (n : Int) → n + 2 * cntS z ≤ 3000000 → blS z b = { b with C := b.C ++ cdS s z n }
  | .mk k a to fi fr e bd l, b, n, hc, hv, hs, hn, hk => by
    have hone := one_eq hc hv hs
    rw [stVr] at hv
    rw [Ic.SR] at hs
    rw [cntS] at hk
    obtain ⟨v1, v2, v3, v4, v5, v6⟩ := hv
    obtain ⟨_, _, s1, s2, s3, s4⟩ := hs
    have hh := here_eq hn (by omega)
    have hzb := szL_le bd
    have hzl := szL_le l
    have hcb := cdL_sz s bd (n + 1) s1
    have hcl := cdL_sz s l (n + 1 + (cdL s bd (n + 1)).length + 1) s2
    have hB : ∀ x : R65, stVrL b.V bd → blL bd (b.put a x) = { b with C := b.C ++ ⟨b.Fn, a, x.Op, x.A, x.B, x.C, x.Do, x.N, x.Args⟩ :: cdL s bd (n + 1) } := fun x hvb => by
      have := blL_cd bd (b.put a x) (n + 1) (by rw [put_eq]; exact hc.c _) (by rw [put_eq]; exact hvb) s1 (by rw [put_eq]; show b.First + ((b.C ++ [_]).length : Int) = _; rw [List.length_append, List.length_singleton]; omega) (by omega)
      rw [this, put_eq]
      show ({ b with C := b.C ++ [_] ++ cdL s bd (n + 1) } : BS) = _
      rw [List.append_assoc, List.singleton_append]
    rw [blS, cdS]
    by_cases h4 : k = 4
    · rw [decide_eq_true h4, cond_true, cond_true]
      have hvf := hc.v fr (v2 (by omega))
      obtain ⟨vb, vl⟩ := v6 (.inl h4)
      have w1 : IntKind.i64.wrap (b.here + 1) = ((n + 1 : Nat) : Int) := wS (by rw [hh]; rfl) (by omega)
      have w2 : IntKind.i64.wrap (IntKind.i64.wrap (b.here + 1) + szL bd) = ((n + 1 + (cdL s bd (n + 1)).length : Nat) : Int) := by rw [w1]; exact wS (by omega) (by omega)
      by_cases hl0 : (l.length : Int) = 0
      · rw [decide_eq_true hl0, cond_true, cond_true, hB _ vb, w2, w1]
        unfold i18 ins3 at18
        rw [hvf, hc.fn]
      · rw [decide_eq_false hl0, cond_false, cond_false, hB _ vb, w2]
        have w3 : IntKind.i64.wrap (((n + 1 + (cdL s bd (n + 1)).length : Nat) : Int) + 1) = ((n + 1 + (cdL s bd (n + 1)).length + 1 : Nat) : Int) := wS rfl (by omega)
        have w4 : IntKind.i64.wrap (((n + 1 + (cdL s bd (n + 1)).length + 1 : Nat) : Int) + szL l) = ((n + 1 + (cdL s bd (n + 1)).length + 1 + (cdL s l (n + 1 + (cdL s bd (n + 1)).length + 1)).length : Nat) : Int) := wS (by omega) (by omega)
        rw [w1, w3, w4, put_eq]
        have hL : ∀ D : List R65, b.First + (D.length : Int) = ((n + 1 + (cdL s bd (n + 1)).length + 1 : Nat) : Int) → blL l ({ b with C := D } : BS) = { b with C := D ++ cdL s l (n + 1 + (cdL s bd (n + 1)).length + 1) } := fun D hD => blL_cd l _ _ (hc.c _) vl s2 hD (by omega)
        refine (hL (b.C ++ _ :: cdL s bd (n + 1) ++ [_]) (by
          rw [List.length_append, List.length_append, List.length_cons, List.length_singleton]
          omega)).trans ?_
        unfold i18 i17 ins3 at18 at17
        rw [hvf, hc.fn]
        simp
    · rw [decide_eq_false h4, cond_false, cond_false]
      by_cases h5 : k = 5
      · rw [decide_eq_true h5, cond_true, cond_true]
        have hvf := hc.v fr (v2 (by omega))
        obtain ⟨vb, vl⟩ := v6 (.inr h5)
        have w1 : IntKind.i64.wrap (b.here + 1) = ((n + 1 : Nat) : Int) := wS (by rw [hh]; rfl) (by omega)
        have w2 : IntKind.i64.wrap (IntKind.i64.wrap (b.here + 2) + szL bd) = ((n + 1 + (cdL s bd (n + 1)).length + 1 : Nat) : Int) := by
          rw [show IntKind.i64.wrap (b.here + 2) = ((n + 2 : Nat) : Int) from wS (by rw [hh]; rfl) (by omega)]
          exact wS (by omega) (by omega)
        rw [hB _ vb, w1, w2, put_eq, hh]
        unfold i18 i17 ins3 at18 at17
        rw [hvf, hc.fn]
        simp
      · rw [decide_eq_false h5, cond_false, cond_false, put_eq, hone, atI, hc.fn]
theorem blL_cd {s : LB} : ∀ (l : List R114) (b : BS) (n : Nat), Cor s b → stVrL b.V l → Ic.SRL l → b.First + b.C.length = (n : Int) → n + 2 * cntL l ≤ 3000000 → blL l b = { b with C := b.C ++ cdL s l n }
  | [], b, n, _, _, _, _, _ => by rw [blL, cdL, List.append_nil]
  | x :: l, b, n, hc, hv, hs, hn, hk => by
    rw [stVrL] at hv
    rw [Ic.SRL] at hs
    rw [cntL] at hk
    have hsz := cdS_sz s x n hs.1
    have hle := szS_le x
    rw [blL, cdL, blS_cd x b n hc hv.1 hs.1 hn (by omega)]
    have hL : ∀ D : List R65, b.First + (D.length : Int) = ((n + (cdS s x n).length : Nat) : Int) → blL l ({ b with C := D } : BS) = { b with C := D ++ cdL s l (n + (cdS s x n).length) } := fun D hD => blL_cd l _ _ (hc.c _) hv.2 hs.2 hD (by omega)
    refine (hL (b.C ++ cdS s x n) (by rw [List.length_append]; omega)).trans ?_
    rw [List.append_assoc]
end
end Go.Proofs.Ytpkgikchphgfaaa.Lw
/- Programs as bytes: the bytes tell the program. -/
namespace Go.Proofs.Ytpkgikchphgfaaa.Ic
open Go Go.RowKit Go.Proofs.Ytpkgikchphgfaaa.Eng Go.Proofs.Ytpkgikchphgfaaa.Fl
set_option linter.unusedVariables false
set_option linter.unusedSimpArgs false
def uL (x : Int) : List UInt8 := bL (IntKind.u64.wrap x).toNat
def fL (z : R69) : List UInt8 := xL z.Name ++ (rL z.Params ++ (uL z.Ret ++ (uL z.First ++ uL z.Last)))
def cL (z : R65) : List UInt8 := rL [z.Fn, z.At, z.Op, z.A, z.B, z.C, z.Do] ++ (bL (zig z.N).toNat ++ rL z.Args)
def pL (o : IRs) : List UInt8 := rL o.G ++ (rL o.F ++ (rL o.V ++ (uL o.Main ++ (uL o.Fs.length ++ (o.Fs.flatMap fL ++ (uL o.C.length ++ o.C.flatMap cL))))))
def RowR (l : List Int) : Prop := l.length ≤ 100000000 ∧ ∀ x ∈ l, R64 x
def R69R (z : R69) : Prop := z.Name.size ≤ 100000000 ∧ RowR z.Params ∧ R64 z.Ret ∧ R64 z.First ∧ R64 z.Last
def R65R (z : R65) : Prop := (R64 z.Fn ∧ R64 z.At ∧ R64 z.Op ∧ R64 z.A ∧ R64 z.B ∧ R64 z.C ∧ R64 z.Do) ∧ R64 z.N ∧ RowR z.Args
def IRR (o : IRs) : Prop := RowR o.G ∧ RowR o.F ∧ RowR o.V ∧ R64 o.Main ∧ (o.Fs.length ≤ 100000000 ∧ ∀ z ∈ o.Fs, R69R z) ∧ o.C.length ≤ 100000000 ∧ ∀ z ∈ o.C, R65R z
end Go.Proofs.Ytpkgikchphgfaaa.Ic
/- Numbers of a program that is given have 64 bits. -/
namespace Go.Proofs.Ytpkgikchphgfaaa.Ic
open Go Go.RowKit Go.Proofs.Ytpkgikchphgfaaa.Eng Go.Proofs.Ytpkgikchphgfaaa.Fl
set_option linter.unusedVariables false
set_option linter.unusedSimpArgs false
def CR (z : R65) : Prop := R65R z ∧ Sn z.Args.length
theorem fnI_in' (l : List R90) (s : ByteArray) : fnI l s = -1 ∨ 0 ≤ fnI l s ∧ fnI l s < l.length := upx_in _ _ _ _ _ _ (Int.le_refl 0)
theorem atP_R {l : List R82} (h : Sn l.length) (s : ByteArray) : R64 (atP l s) := by
  unfold Sn at h
  have := atP_in l s
  exact ⟨by omega, by omega⟩
theorem fnP_R {b : BS} (h : Sn b.N.length) (s : ByteArray) : R64 (b.fnP s) := by
  unfold Sn at h
  unfold BS.fnP
  rcases fnI_in' b.N s with h1 | h1
  · rw [h1]; exact R64.z
  · rw [decide_eq_true h1.1]; exact ⟨by show _ ≤ fnI b.N s; omega, by show fnI b.N s < _; omega⟩
theorem v_R (b : BS) (s : ByteArray) : R64 (b.v s) := R64.of_wrap _
theorem m1_R : R64 (-1) := ⟨by decide, by decide⟩
theorem ins3_R {op a b c d n : Int} (h1 : R64 op) (h2 : R64 a) (h3 : R64 b) (h4 : R64 c) (h5 : R64 d) (h6 : R64 n) : CR (ins3 op a b c d n) :=
  ⟨⟨⟨R64.z, R64.z, h1, h2, h3, h4, h5⟩, h6, ⟨Nat.zero_le _, fun x h => by cases h⟩⟩, Nat.zero_le _⟩
theorem kR (k : Int) (h0 : 0 ≤ k) (h1 : k ≤ 100) : R64 k := ⟨by omega, by omega⟩
theorem call_R {b : BS} (hb : BSz b) {op a : Int} (h1 : R64 op) (h2 : R64 a) {e : R112} (he : Sn e.Args.length) : CR (b.call op a e) := by
  have hl : Sn (ag79 b e.Args).length := by unfold ag79; rw [List.length_map]; exact he
  have hr : RowR (ag79 b e.Args) := ⟨by unfold Sn at hl; omega, fun x hx => by
    unfold ag79 at hx
    obtain ⟨y, _, rfl⟩ := List.mem_map.1 hx
    exact v_R _ _⟩
  unfold BS.call
  cases decide (e.Kind = 11) with
  | true => exact ⟨⟨⟨R64.z, R64.z, h1, h2, m1_R, v_R _ _, R64.z⟩, R64.z, hr⟩, hl⟩
  | false => exact ⟨⟨⟨R64.z, R64.z, h1, h2, fnP_R hb.2.2.1 _, m1_R, R64.z⟩, R64.z, hr⟩, hl⟩
theorem set_R {b : BS} (hb : BSz b) {a : Int} (ha : R64 a) {e : R112} (he : ER e) (hl : Sn e.Args.length) : CR (b.set a e) := by
  have hv := v_R b
  have hg := atP_R hb.1
  have hf := atP_R hb.2.1
  have hn := fnP_R hb.2.2.1
  have hz := R64.z
  obtain ⟨h1, h2, _⟩ := he
  unfold BS.set
  simp only [Bool.cond_eq_ite]
  repeat' split
  all_goals first
    | exact call_R hb (kR _ (by decide) (by decide)) ha hl
    | exact ins3_R (kR _ (by decide) (by decide)) ha (by first | exact hv _ | exact hg _ | exact hf _ | exact hn _ | exact hz | exact h1 | exact h2) (by first | exact hv _ | exact hf _ | exact hz) (by first | exact hz | exact h1) (by first | exact hz | exact h2)
theorem one_R {b : BS} (hb : BSz b) : ∀ {z : R114}, SR z → Sn (cntS z) → CR (b.one z)
  | .mk k a to fi fr e bd el, hs, hl => by
    rw [SR] at hs
    have he : Sn e.Args.length := by rw [cntS] at hl; unfold Sn at hl ⊢; omega
    have hv := v_R b
    have hg := atP_R hb.1
    have hf := atP_R hb.2.1
    have hz := R64.z
    have hm := m1_R
    unfold BS.one
    simp only [Bool.cond_eq_ite]
    repeat' split
    all_goals first
      | exact call_R hb (kR _ (by decide) (by decide)) hm he
      | exact set_R hb (hv _) hs.2.1 he
      | exact ins3_R (kR _ (by decide) (by decide)) (by first | exact hv _ | exact hg _ | exact hm | exact hz) (by first | exact hv _ | exact hz) (by first | exact hf _ | exact hz) hz hz
def BR (b : BS) : Prop := BSz b ∧ R64 b.Fn ∧ ∀ z ∈ b.C, CR z
theorem BR.put {b : BS} (h : BR b) {a : Int} (ha : R64 a) {x : R65} (hx : CR x) : BR (b.put a x) := by
  obtain ⟨⟨⟨x1, x2, x3, x4, x5, x6, x7⟩, x8, x9⟩, x0⟩ := hx
  exact ⟨h.1, h.2.1, snoc_all h.2.2 ⟨⟨⟨h.2.1, ha, x3, x4, x5, x6, x7⟩, x8, x9⟩, x0⟩⟩
theorem i18_R {a b c : Int} (h1 : R64 a) (h2 : R64 b) (h3 : R64 c) : CR (i18 a b c) := ins3_R (kR _ (by decide) (by decide)) h1 h2 h3 R64.z R64.z
theorem i17_R {b : Int} (h : R64 b) : CR (i17 b) := ins3_R (kR _ (by decide) (by decide)) R64.z h R64.z R64.z R64.z
mutual
theorem blS_R : ∀ (z : R114) (b : BS), SR z → Sn (cntS z) → BR b → BR (blS z b)
  | .mk k a to fi fr e bd l, b, hs, hc, hb => by
    have hone := one_R hb.1 hs hc
    rw [SR] at hs
    rw [cntS] at hc
    have h1 := fun d => blL_R bd d hs.2.2.1 (by unfold Sn at hc ⊢; omega)
    have h2 := fun d => blL_R l d hs.2.2.2.1 (by unfold Sn at hc ⊢; omega)
    rw [blS]
    cases decide (k = 4) with
    | true =>
      cases decide ((l.length : Int) = 0) with
      | true => exact h1 _ (hb.put hs.1 (i18_R (v_R _ _) (R64.of_wrap _) (R64.of_wrap _)))
      | false => exact h2 _ ((h1 _ (hb.put hs.1 (i18_R (v_R _ _) (R64.of_wrap _) (R64.of_wrap _)))).put hs.1 (i17_R (R64.of_wrap _)))
    | false =>
      cases decide (k = 5) with
      | true => exact (h1 _ (hb.put hs.1 (i18_R (v_R _ _) (R64.of_wrap _) (R64.of_wrap _)))).put hs.1 (i17_R (R64.of_wrap _))
      | false => exact hb.put hs.1 hone
theorem blL_R : ∀ (l : List R114) (b : BS), SRL l → Sn (cntL l) → BR b → BR (blL l b)
  | [], b, hs, hc, hb => by rw [blL]; exact hb
  | x :: l, b, hs, hc, hb => by
    rw [SRL] at hs
    rw [cntL] at hc
    rw [blL]
    exact blL_R l _ hs.2 (by unfold Sn at hc ⊢; omega) (blS_R x b hs.1 (by unfold Sn at hc ⊢; omega) hb)
end
theorem fnsW_len : ∀ l : List R90, l.length ≤ fnsW l
  | [] => Nat.zero_le _
  | x :: l => by have := fnsW_len l; rw [List.length_cons, fnsW, fnW]; omega
theorem parI_R (o : IRs) (z : R90) (h : Sn z.Params.length) : (parI o z).length ≤ z.Params.length ∧ ∀ x ∈ parI o z, R64 x := by
  have key : ∀ (N : Nat) (ps : List Int) (i : Int), 0 ≤ i → (ps.length : Int) = i → i ≤ (z.Params.length : Int) → (∀ x ∈ ps, R64 x) → (ixL z.Params.length (st6 o.V.length) N ps i).length ≤ z.Params.length ∧ ∀ x ∈ ixL z.Params.length (st6 o.V.length) N ps i, R64 x := by
    intro N
    induction N with
    | zero => intro ps i h0 h1 h2 h3; unfold ixL; exact ⟨by omega, h3⟩
    | succ N ih =>
      intro ps i h0 h1 h2 h3
      unfold ixL
      split
      · exact ih _ _ (by omega) (by unfold st6; rw [List.length_append]; simp only [List.length_singleton]; omega) (by omega) (snoc_all h3 (R64.of_wrap _))
      · exact ⟨by omega, h3⟩
  exact key _ [] 0 (Int.le_refl 0) rfl (by omega) fun x h => by cases h
def FnR (z : R69) : Prop := R69R z ∧ Sn z.Params.length
def OR' (o : IRs) : Prop := (∀ x ∈ o.V, R64 x) ∧ R64 o.Main ∧ (∀ z ∈ o.Fs, FnR z) ∧ ∀ z ∈ o.C, CR z
theorem app_all {α : Type} {P : α → Prop} {l m : List α} (h : ∀ x ∈ l, P x) (h2 : ∀ x ∈ m, P x) : ∀ x ∈ l ++ m, P x := fun x hx => by
  rcases List.mem_append.1 hx with hx | hx
  · exact h x hx
  · exact h2 x hx
theorem lwL_R {t : TR} (ht : TrOk t) (hr : TrR t) : ∀ (r : List R90) (o : IRs) (v : Int), 0 ≤ v → t.N.drop v.toNat = r → IrB t o r → OR' o → OR' (lwL t r o v)
  | [], o, v, h0, hd, ho, h => h
  | z :: r, o, v, h0, hd0, ho, h => by
    have hlen : v < (t.N.length : Int) := by
      have := congrArg List.length hd0
      rw [List.length_drop, List.length_cons] at this
      omega
    have hx : t.N[v.toNat]? = some t.N[v.toNat] := List.getElem?_eq_getElem (by omega)
    have hd : t.N.drop v.toNat = t.N[v.toNat] :: t.N.drop (v.toNat + 1) := List.drop_eq_getElem_cons (by omega)
    rw [hd] at hd0
    injection hd0 with hz hd0
    have hg : getI t.N v = some z := by unfold getI; rw [if_pos h0, hx, hz]
    have hfw : fnW z ≤ 1000000 := by
      have := fnsW_at t.N v.toNat z (by rw [hx, hz])
      have := ht.2.2
      omega
    have hb := (round4 (R := Unit) (K := fun _ _ => none) ht h0 hlen hg ho hfw).2
    rw [lwL]
    refine lwL_R ht hr r _ (v + 1) (by omega) (by rw [show (v + 1).toNat = v.toNat + 1 by omega]; exact hd0) hb ?_
    have hzm : z ∈ t.N := getI_mem hg
    obtain ⟨f1, f2, f3, f4, f5, f6⟩ := hr.2.2 z hzm
    have hnl := fnsW_len t.N
    have htN := ht.2.2
    have hw : z.Params.length + (z.Vars.length + cntL z.Body) ≤ 1000000 := by unfold fnW at hfw; omega
    have hvR : R64 v := ⟨by omega, by omega⟩
    have hB0 : BR (lb0 t o v z) := ⟨⟨by have := ht.1; show t.G.length ≤ _; omega, by have := ht.2.1; show t.F.length ≤ _; omega, by show t.N.length ≤ _; omega, by show ([] ++ z.Params ++ z.Vars).length ≤ _; rw [List.nil_append, List.length_append]; omega⟩, hvR, fun z h => by cases h⟩
    have hB1 := (blL_R z.Body _ f6 (by unfold Sn; omega) hB0).put f2 (ins3_R (kR 16 (by decide) (by decide)) m1_R R64.z R64.z R64.z R64.z)
    have hC : ∀ x ∈ codI t o v z, CR x := hB1.2.2
    obtain ⟨p1, p2⟩ := parI_R o z (by unfold Sn; omega)
    have hlast : (o.C ++ codI t o v z).length ≤ 3000000 := by
      have := hb.2.1
      have e : (lwF t o v z).C = o.C ++ codI t o v z := rfl
      rw [e] at this
      omega
    have hfirst : o.C.length ≤ 3000000 := by have := ho.2.1; omega
    refine ⟨app_all h.1 fun x hx => ?_, ?_, snoc_all h.2.2.1 ⟨⟨by show z.Name.size ≤ _; omega, ⟨by show (parI o z).length ≤ _; omega, p2⟩, f3, ⟨by show _ ≤ (o.C.length : Int); omega, by show (o.C.length : Int) < _; omega⟩, ⟨by show _ ≤ ((o.C ++ codI t o v z).length : Int); omega, by show ((o.C ++ codI t o v z).length : Int) < _; omega⟩⟩, by show (parI o z).length ≤ _; omega⟩, app_all h.2.2.2 hC⟩
    · obtain ⟨d, hd, rfl⟩ := List.mem_map.1 hx
      rw [List.nil_append] at hd
      rcases List.mem_append.1 hd with hd | hd
      · exact (f4 d hd).1
      · exact (f5 d hd).1
    · show R64 (cond (z.Name.toList == bMain.toList) v o.Main)
      cases z.Name.toList == bMain.toList with
      | true => exact hvR
      | false => exact h.2.1
theorem lwL_GF (t : TR) : ∀ (r : List R90) (o : IRs) (v : Int), (lwL t r o v).G = o.G ∧ (lwL t r o v).F = o.F
  | [], o, v => ⟨rfl, rfl⟩
  | z :: r, o, v => by rw [lwL]; exact lwL_GF t r _ _
def GvR (o : IRs) : Prop := PutOk o ∧ SameOk o ∧ IRR o
theorem lower_R {t : TR} (ht : TrOk t) (hr : TrR t) : GvR (lower t) := by
  have hb : IrB t ⟨t.G.map R82.Type_, t.F.map R82.Type_, [], [], [], 0⟩ t.N := by
    have := ht.2.2
    exact ⟨by show 0 + _ ≤ _; omega, by show 0 + _ ≤ _; omega, by show 0 + _ ≤ _; omega⟩
  obtain ⟨h1, h2, h3, h4⟩ := lwL_R ht hr t.N _ 0 (Int.le_refl 0) rfl hb ⟨fun x h => (by cases h), R64.z, fun x h => (by cases h), fun x h => by cases h⟩
  obtain ⟨a, b, c⟩ := lower_B ht
  obtain ⟨e1, e2⟩ := lwL_GF t t.N ⟨t.G.map R82.Type_, t.F.map R82.Type_, [], [], [], 0⟩ 0
  have eG : (lower t).G = t.G.map R82.Type_ := e1
  have eF : (lower t).F = t.F.map R82.Type_ := e2
  have lG : (lower t).G.length ≤ 1000000 := by rw [eG, List.length_map]; exact ht.1
  have lF : (lower t).F.length ≤ 1000000 := by rw [eF, List.length_map]; exact ht.2.1
  have rG : ∀ x ∈ (lower t).G, R64 x := by rw [eG]; intro x hx; obtain ⟨d, hd, rfl⟩ := List.mem_map.1 hx; exact (hr.1 d hd).1
  have rF : ∀ x ∈ (lower t).F, R64 x := by rw [eF]; intro x hx; obtain ⟨d, hd, rfl⟩ := List.mem_map.1 hx; exact (hr.2.1 d hd).1
  change ∀ x ∈ (lower t).V, R64 x at h1
  change R64 (lower t).Main at h2
  change ∀ z ∈ (lower t).Fs, FnR z at h3
  change ∀ z ∈ (lower t).C, CR z at h4
  refine ⟨⟨⟨by unfold Sm; omega, by unfold Sm; omega, by unfold Sm; omega⟩, ⟨by unfold Sm; omega, by unfold Sm; omega⟩, fun z hz => ⟨(h3 z hz).1.1, by have := (h3 z hz).2; unfold Sn at this; unfold Sm; omega⟩, fun z hz => by have := (h4 z hz).2; unfold Sn at this; unfold Sm; omega⟩,
    ⟨⟨by unfold Sn; omega, by unfold Sn; omega, by unfold Sn; omega⟩, ⟨by unfold Sm; omega, by unfold Sm; omega⟩, fun z hz => (h3 z hz).2, fun z hz => (h4 z hz).2⟩,
    ⟨by omega, rG⟩, ⟨by omega, rF⟩, ⟨by omega, h1⟩, h2, ⟨by omega, fun z hz => (h3 z hz).1⟩, by omega, fun z hz => (h4 z hz).1⟩
end Go.Proofs.Ytpkgikchphgfaaa.Ic
/- What the program lowers is what the document lowers: all of it. -/
namespace Go.Proofs.Ytpkgikchphgfaaa.Lw
open Go Go.RowKit Go.Proofs.Ytpkgikchphgfaaa.Eng Go.Proofs.Ytpkgikchphgfaaa.Fl
set_option linter.unusedVariables false
set_option linter.unusedSimpArgs false
/-- Which ones are handed over; the map of the variables. -/
theorem ft_all (np : Int) : ∀ (d : List R82) (i : Int) (s : LB) (pB : Bool) (ps : List Int), (ft np d i (s, pB, ps)).1.mV = mkM R82.Name (fun j => s.V.length + j) d 0 s.mV
  | [], i, s, pB, ps => rfl
  | x :: d, i, s, pB, ps => by
    rw [ft, mkM]
    have key : ∀ (m : Mp) (k : Int), mkM R82.Name (fun j => ((s.V ++ [x.Type_]).length : Int) + j) d k m = mkM R82.Name (fun j => (s.V.length : Int) + j) d (k + 1) m := by
      have hl : ((s.V ++ [x.Type_]).length : Int) = s.V.length + 1 := by rw [List.length_append]; rfl
      rw [hl]
      clear hl
      induction d with
      | nil => intro m k; rfl
      | cons y d ih =>
        intro m k
        rw [mkM, mkM, ih _ (k + 1)]
        congr 2
        omega
    have hz : (s.V.length : Int) + 0 = s.V.length := by omega
    cases decide (i < np) with
    | true =>
      rw [cond_true, ft_all np d]
      show mkM R82.Name (fun j => ((s.V ++ [x.Type_]).length : Int) + j) d 0 (aset keS s.mV x.Name s.V.length) = _
      rw [key, hz]
    | false =>
      rw [cond_false, ft_all np d]
      show mkM R82.Name (fun j => ((s.V ++ [x.Type_]).length : Int) + j) d 0 (aset keS s.mV x.Name s.V.length) = _
      rw [key, hz]
def upf : Int → Nat → List Int
  | _, 0 => []
  | x, n + 1 => x :: upf (x + 1) n
theorem ft_ps (np : Int) : ∀ (d : List R82) (i : Int) (s : LB) (pB : Bool) (ps : List Int), 0 ≤ i → (ft np d i (s, pB, ps)).2.2 = ps ++ upf s.V.length (min d.length (np - i).toNat)
  | [], i, s, pB, ps, h0 => by rw [ft, List.length_nil, Nat.zero_min, upf, List.append_nil]
  | x :: d, i, s, pB, ps, h0 => by
    have hl : ((s.addV x).V.length : Int) = s.V.length + 1 := by
      show ((s.V ++ [x.Type_]).length : Int) = _
      rw [List.length_append]
      rfl
    rw [ft]
    by_cases hi : i < np
    · rw [decide_eq_true hi, cond_true, ft_ps np d (i + 1) _ _ _ (by omega), hl, List.length_cons, show min (d.length + 1) (np - i).toNat = min d.length (np - (i + 1)).toNat + 1 by omega, upf, List.append_assoc]
      rfl
    · rw [decide_eq_false hi, cond_false, ft_ps np d (i + 1) _ _ _ (by omega), show (np - (i + 1)).toNat = 0 by omega, show (np - i).toNat = 0 by omega, Nat.min_zero, Nat.min_zero, upf, upf]
theorem ixL_up (k np : Int) (hk : 0 ≤ k) (hb : k + np ≤ 4000000) : ∀ (N : Nat) (ps : List Int) (i : Int), 0 ≤ i → np ≤ i + N → ixL np (st6 k) N ps i = ps ++ upf (k + i) (np - i).toNat := by
  intro N
  induction N with
  | zero => intro ps i h0 h1; unfold ixL; rw [show (np - i).toNat = 0 by omega, upf, List.append_nil]
  | succ N ih =>
    intro ps i h0 h1
    unfold ixL
    by_cases hi : i < np
    · rw [if_pos hi, ih _ _ (by omega) (by omega), show (np - i).toNat = (np - (i + 1)).toNat + 1 by omega, upf]
      unfold st6
      rw [wrap_i64 (by omega) (by omega), List.append_assoc, show k + (i + 1) = k + i + 1 by omega]
      rfl
    · rw [if_neg hi, show (np - i).toNat = 0 by omega, upf, List.append_nil]
theorem parI_up (o : IRs) (z : R90) (h : o.V.length + z.Params.length ≤ 4000000) : parI o z = upf o.V.length z.Params.length := by
  unfold parI
  rw [ixL_up _ _ (by omega) (by omega) _ _ _ (Int.le_refl 0) (by omega), List.nil_append]
  congr 1
/-- The names of a program, as the program has them. -/
structure Nm (s : LB) (t : TR) : Prop where
  g : s.mG = mkM R82.Name id t.G 0 []
  f : s.mF = mkM R82.Name id t.F 0 []
  n : s.mN = mkM R90.Name id t.N 0 []
theorem look_id {α : Type} {nm : α → ByteArray} {l : List α} (hd : Dn nm l) (x : ByteArray) : (aget keS (mkM nm id l 0 []) x).getD 0 = cond (decide (0 ≤ pl nm l x)) (pl nm l x) 0 := by
  rw [mkM_get id hd]
  cases decide (0 ≤ pl nm l x) <;> rfl
theorem cor_of {s : LB} {t : TR} (hs : s.Ok) (hS : Sound t) (hN : Nm s t) {o : IRs} {v : Int} {z : R90} (hz : z ∈ t.N) (hV : s.V.length = o.V.length) (hb : o.V.length + (z.Params ++ z.Vars).length ≤ 4000000) : Cor (ftZ s z v).1.base (lb0 t o v z) := by
  obtain ⟨i1, i2, i3, i4, i5, i6, i7, i8, i9, i10, i11, i12⟩ := ft_inv z.Params.length (z.Params ++ z.Vars) 0 (s.at0 v) false [] hs (fun _ => rfl)
  have hm : (ftZ s z v).1.mV = mkM R82.Name (fun j => (s.V.length : Int) + j) (z.Params ++ z.Vars) 0 [] := ft_all z.Params.length (z.Params ++ z.Vars) 0 (s.at0 v) false []
  have hd := (hS.v z hz).1
  rw [List.nil_append] at hd
  have e10 : (ftZ s z v).1.mG = s.mG := i10
  have e11 : (ftZ s z v).1.mF = s.mF := i11
  have e12 : (ftZ s z v).1.mN = s.mN := i12
  refine ⟨i5, fun x hx => ?_, fun x => ?_, fun x => ?_, fun x => ?_⟩
  · show (aget keS (ftZ s z v).1.mV x).getD 0 = IntKind.i64.wrap ((o.V.length : Int) + atP ([] ++ z.Params ++ z.Vars) x)
    have h0 := fd_at hx
    change 0 ≤ Fl.atI ([] ++ z.Params ++ z.Vars) x at h0
    have hin := atI_in ([] ++ z.Params ++ z.Vars) x
    unfold atP
    rw [decide_eq_true h0, cond_true]
    rw [List.nil_append] at h0 hin ⊢
    have e : pl R82.Name (z.Params ++ z.Vars) x = Fl.atI (z.Params ++ z.Vars) x := rfl
    rw [hm, mkM_get _ hd, e, decide_eq_true h0, cond_true, Option.getD_some, hV, wrap_i64 (by omega) (by omega)]
  · show (aget keS (ftZ s z v).1.mG x).getD 0 = atP t.G x
    rw [e10, hN.g, look_id hS.g]
    rfl
  · show (aget keS (ftZ s z v).1.mF x).getD 0 = atP t.F x
    rw [e11, hN.f, look_id hS.f]
    rfl
  · show (aget keS (ftZ s z v).1.mN x).getD 0 = (lb0 t o v z).fnP x
    rw [e12, hN.n, look_id hS.n]
    rfl
/-- All but which one is main. -/
def Eqv (s : LB) (o : IRs) : Prop := s.G = o.G ∧ s.F = o.F ∧ s.V = o.V ∧ s.Fs = o.Fs ∧ s.C = o.C
theorem nxt_eqv {s : LB} {t : TR} (hs : s.Ok) (hS : Sound t) (hN : Nm s t) {o : IRs} {v : Int} {z : R90} (hz : z ∈ t.N) (he : Eqv s o) (hR : Ic.SRL z.Body) (hb : Bd s [z]) : Eqv (nxt s z v) (lwF t o v z) ∧ Nm (nxt s z v) t ∧ (nxt s z v).M = s.M := by
  obtain ⟨i1, i2, i3, i4, i5, i6, i7, i8, i9, i10, i11, i12⟩ := ft_inv z.Params.length (z.Params ++ z.Vars) 0 (s.at0 v) false [] hs (fun _ => rfl)
  obtain ⟨e1, e2, e3, e4, e5⟩ := he
  obtain ⟨b1, b2, b3⟩ := hb
  simp only [fnsW, fnW] at b1 b2 b3
  have hlen : (z.Params ++ z.Vars).length = z.Params.length + z.Vars.length := List.length_append
  have hc := cor_of (v := v) hs hS hN hz (by rw [e3]) (o := o) (by rw [← e3, hlen]; omega)
  have hv := (hS.v z hz).2
  have hbl := blL_cd z.Body (lb0 t o v z) s.C.length hc hv hR (by show (o.C.length : Int) + (0 : Nat) = _; rw [e5]; omega) (by omega)
  have hcd : codI t o v z = cdL (ftZ s z v).1.base z.Body s.C.length ++ [atI v z.At (ins3 16 (-1) 0 0 0 0)] := by
    unfold codI lb1
    rw [hbl, put_eq]
    show ([] ++ cdL (ftZ s z v).1.base z.Body s.C.length) ++ [_] = _
    rw [List.nil_append]
    rfl
  have hC : pL (ftZ s z v).1.base z.Body s.C ++ [atI v z.At (ins3 16 (-1) 0 0 0 0)] = o.C ++ codI t o v z := by
    rw [hcd, pL_cd, List.append_assoc, e5]
  have hps : (ftZ s z v).2.2 = parI o z := by
    rw [parI_up o z (by rw [← e3]; omega)]
    have := ft_ps z.Params.length (z.Params ++ z.Vars) 0 (s.at0 v) false [] (Int.le_refl 0)
    rw [List.nil_append, hlen, show min (z.Params.length + z.Vars.length) ((z.Params.length : Int) - 0).toNat = z.Params.length by omega] at this
    rw [← e3]
    exact this
  refine ⟨⟨?_, ?_, ?_, ?_, hC⟩, ⟨?_, ?_, ?_⟩, i9⟩
  · exact (show (ftZ s z v).1.G = s.G from i7).trans e1
  · exact (show (ftZ s z v).1.F = s.F from i8).trans e2
  · show (ftZ s z v).1.V = o.V ++ ([] ++ z.Params ++ z.Vars).map R82.Type_
    rw [show (ftZ s z v).1.V = s.V ++ (z.Params ++ z.Vars).map R82.Type_ from i6, e3, List.nil_append]
  · show (ftZ s z v).1.Fs ++ [⟨z.Name, (ftZ s z v).2.2, z.Ret, s.C.length, (pL (ftZ s z v).1.base z.Body s.C ++ [atI v z.At (ins3 16 (-1) 0 0 0 0)]).length⟩] = o.Fs ++ [⟨z.Name, parI o z, z.Ret, o.C.length, (o.C ++ codI t o v z).length⟩]
    rw [show (ftZ s z v).1.Fs = s.Fs from i4, e4, hps, hC, e5]
  · exact (show (ftZ s z v).1.mG = s.mG from i10).trans hN.g
  · exact (show (ftZ s z v).1.mF = s.mF from i11).trans hN.f
  · exact (show (ftZ s z v).1.mN = s.mN from i12).trans hN.n
end Go.Proofs.Ytpkgikchphgfaaa.Lw
/- What the program lowers is what the document lowers. -/
namespace Go.Proofs.Ytpkgikchphgfaaa.Lw
open Go Go.RowKit Go.Proofs.Ytpkgikchphgfaaa.Eng Go.Proofs.Ytpkgikchphgfaaa.Fl
set_option linter.unusedVariables false
set_option linter.unusedSimpArgs false
theorem main_eq (z : R90) : keS bMain z.Name = (z.Name.toList == bMain.toList) := by
  unfold keS
  exact BEq.comm
theorem all_eqv {t : TR} (hS : Sound t) (hR : Ic.TrR t) : ∀ (r : List R90) (s : LB) (o : IRs) (v : Int) (m : Mp), (∀ z ∈ r, z ∈ t.N) → s.Ok → Bd s r → Eqv s o → Nm s t → o.Main = (aget keS m bMain).getD 0 →
    Eqv (lwP r s v) (lwL t r o v) ∧ (lwP r s v).M = s.M ∧ (lwL t r o v).Main = (aget keS (mkM R90.Name id r v m) bMain).getD 0
  | [], s, o, v, m, hm, hs, hb, he, hN, hM => ⟨he, rfl, hM⟩
  | z :: r, s, o, v, m, hm, hs, hb, he, hN, hM => by
    have hz := hm z (.head _)
    obtain ⟨_, _, _, _, _, hB⟩ := hR.2.2 z hz
    have hb1 : Bd s [z] := by
      obtain ⟨b1, b2, b3⟩ := hb
      simp only [fnsW] at b1 b2 b3
      exact ⟨by simp only [fnsW]; omega, by simp only [fnsW]; omega, by simp only [fnsW]; omega⟩
    obtain ⟨n1, n2, n3⟩ := nxt_eqv (v := v) hs hS hN hz he hB hb1
    obtain ⟨k1, k2⟩ := nxt_ok (v := v) hs hb
    have hM' : (lwF t o v z).Main = (aget keS (aset keS m z.Name (id v)) bMain).getD 0 := by
      show cond (z.Name.toList == bMain.toList) v o.Main = _
      rw [aget_aset' keS_iff, main_eq, hM]
      cases z.Name.toList == bMain.toList <;> rfl
    obtain ⟨a1, a2, a3⟩ := all_eqv hS hR r (nxt s z v) (lwF t o v z) (v + 1) (aset keS m z.Name (id v)) (fun y hy => hm y (.tail _ hy)) k1 k2 n1 n2 hM'
    rw [lwP, lwL, mkM]
    exact ⟨a1, a2.trans n3, a3⟩
/-- THE PROGRAM LOWERS AS THE DOCUMENT DOES. -/
theorem lowP_eq {t : TR} (hk : TrOk t) (hS : Sound t) (hR : Ic.TrR t) : lowP t = lower t := by
  have h0 : (s0 t).Ok := ⟨fun _ => rfl, fun _ => rfl, fun _ => rfl⟩
  obtain ⟨t1, t2, t3⟩ := hk
  have hb : Bd (s0 t) t.N := ⟨by show 0 + _ ≤ _; omega, by show 0 + _ ≤ _; omega, by show 0 + _ ≤ _; omega⟩
  obtain ⟨⟨e1, e2, e3, e4, e5⟩, hM, hM2⟩ := all_eqv hS hR t.N (s0 t) ⟨t.G.map R82.Type_, t.F.map R82.Type_, [], [], [], 0⟩ 0 [] (fun z hz => hz) h0 hb ⟨rfl, rfl, rfl, rfl, rfl⟩ ⟨rfl, rfl, rfl⟩ rfl
  have hm : (lwP t.N (s0 t) 0).M = (lower t).Main := hM.trans hM2.symm
  unfold lowP LB.ir
  rw [e1, e2, e3, e4, e5, hm]
  rfl
end Go.Proofs.Ytpkgikchphgfaaa.Lw

/- Code, and functions. -/
import Derived.Test.YtcbbpidnocgoiaaDoorEvH
namespace Go.Proofs.YtcbbpidnocgoiaaDoor.Eng
open Go Go.RowKit
set_option linter.unusedVariables false
set_option linter.unusedSimpArgs false
theorem evCall_path {P : Program} {X : Cx} {E : FuncId → Option (Spc X.U)} (hE : ∀ f S, E f = some S → SpecOk P f S) {s : TS X.U} {f : FuncId} {xs : List Operand} : Path fun k => evCall X E s f xs k := by
  intro R k r h
  unfold evCall at h
  split at h <;> try (cases h; done)
  rename_i S hS
  dsimp only at h
  split at h <;> try (cases h; done)
  rename_i hj
  split at h <;> try (cases h; done)
  rename_i os hos
  split at h <;> try (cases h; done)
  rename_i hchk
  obtain ⟨o, v, hk, hp⟩ := (hE f S hS).path _ _ _ _ h
  refine ⟨_, _, hk, fun k' => ?_⟩
  show evCall X E s f xs k' = _
  unfold evCall
  simp only [hS, hj, hos, hchk]
  exact hp _
theorem ev1_path {P : Program} {X : Cx} {E : FuncId → Option (Spc X.U)} (hE : ∀ f S, E f = some S → SpecOk P f S) {s : TS X.U} {o : Oper} : Path fun k => ev1 X E s o k := by
  intro R k r h
  unfold ev1 at h ⊢
  split at h <;> try (cases h; done)
  · exact evMv_path k r h
  · exact evMv_path k r h
  · exact evPick_path k r h
  · exact evBin_path k r h
  · exact evUn_path k r h
  · exact evConv_path k r h
  · exact evLoad_path k r h
  · exact evStore_path k r h
  · exact evFieldAddr_path k r h
  · exact evField_path k r h
  · exact evNil_path k r h
  · exact evExtract_path k r h
  · exact evIndexAddr_path k r h
  · exact evIndex_path k r h
  · exact evAlloc_path k r h
  · exact evBox_path k r h
  · exact evBuild_path k r h
  · exact evSliceLit_path k r h
  · exact evMake_path k r h
  · exact evCut_path k r h
  · split at h <;> try (cases h; done)
    · exact evCall_path hE k r h
    · unfold evBuiltin at h ⊢
      split at h <;> try (cases h; done)
      · split at h <;> try (cases h; done)
        exact evLen_path k r h
      · split at h <;> try (cases h; done)
        exact evAppend_path k r h
      · split at h <;> try (cases h; done)
        exact evMM_path k r h
      · split at h <;> try (cases h; done)
        exact evMM_path k r h
section
variable {P : Program} {X : Cx} {E : FuncId → Option (Spc X.U)} {R : Type} {r : R}
theorem evOps_path (hE : ∀ f S, E f = some S → SpecOk P f S) {dr : Bool} {al : List Oper} : ∀ {ops : List Oper} {s : TS X.U} {acc : List (List Loc × List Loc)} {k : TS X.U → List (List Loc × List Loc) → Option R},
    evOps X E dr al ops s acc k = some r → ∃ s' l, k s' l = some r ∧ ∀ {R' : Type} (k' : TS X.U → List (List Loc × List Loc) → Option R'), evOps X E dr al ops s acc k' = k' s' l
  | [], s, acc, k, h => ⟨s, acc, h, fun _ => rfl⟩
  | o :: rest, s, acc, k, h => by
    unfold evOps at h
    split at h
    · rename_i hg
      obtain ⟨L, e, hk, hp⟩ := ev1_path hE _ _ h
      obtain ⟨s', l, hk', hp'⟩ := evOps_path hE hk
      refine ⟨s', l, hk', fun k' => ?_⟩
      unfold evOps
      simp only [hg]
      exact (hp _).trans (hp' k')
    · rename_i j b hg
      split at h <;> try (cases h; done)
      rename_i t0 ht
      split at h <;> try (cases h; done)
      rename_i c hs
      cases b with
      | true =>
        cases c with
        | true =>
          obtain ⟨L, e, hk, hp⟩ := ev1_path hE _ _ h
          obtain ⟨s', l, hk', hp'⟩ := evOps_path hE hk
          refine ⟨s', l, hk', fun k' => ?_⟩
          unfold evOps
          simp only [hg, ht, hs]
          exact (hp _).trans (hp' k')
        | false =>
          obtain ⟨s', l, hk', hp'⟩ := evOps_path hE h
          refine ⟨s', l, hk', fun k' => ?_⟩
          unfold evOps
          simp only [hg, ht, hs]
          exact hp' k'
      | false =>
        cases c with
        | false =>
          obtain ⟨L, e, hk, hp⟩ := ev1_path hE _ _ h
          obtain ⟨s', l, hk', hp'⟩ := evOps_path hE hk
          refine ⟨s', l, hk', fun k' => ?_⟩
          unfold evOps
          simp only [hg, ht, hs]
          exact (hp _).trans (hp' k')
        | true =>
          obtain ⟨s', l, hk', hp'⟩ := evOps_path hE h
          refine ⟨s', l, hk', fun k' => ?_⟩
          unfold evOps
          simp only [hg, ht, hs]
          exact hp' k'
theorem evReg_path (hE : ∀ f S, E f = some S → SpecOk P f S) {ops : Array Oper} {dr : Bool} {s : TS X.U} {k : TS X.U → Option R} (h : evReg X E ops dr s k = some r) :
    ∃ s', k s' = some r ∧ ∀ {R' : Type} (k' : TS X.U → Option R'), evReg X E ops dr s k' = k' s' := by
  unfold evReg at h
  obtain ⟨s', l, hk, hp⟩ := evOps_path hE h
  cases dr with
  | false => exact ⟨s', hk, fun k' => by unfold evReg; rw [hp]⟩
  | true =>
    dsimp only at hk
    split at hk <;> try (cases hk; done)
    rename_i hc
    exact ⟨s', hk, fun k' => by unfold evReg; rw [hp]; simp only [hc]⟩
/-! ### Code -/
/-- What is told to the walk: which slots live at the head of a block's loop, and behind it; of which objects a region no longer writes; whether what is handed back is to be one's own. -/
structure Ann where
  live : Nat → Nat
  out : Nat → Nat
  fz : Nat → List Nat
  own : Bool
def evNorm (mask : Nat) (s : TS X.U) : Option (TS X.U) := match norm mask s [] with
  | some (s1, _) => some s1
  | none => none
/-- A loop, so many rounds at most: by which exit it ends, and what is told then. -/
def loopR (live out : Nat) (body : TS X.U → (Exit → TS X.U → Option (Exit × TS X.U)) → Option (Exit × TS X.U)) : Nat → TS X.U → Option (Exit × TS X.U)
  | 0, _ => none
  | n + 1, s => body s fun ex s' => match ex with
    | .normal => match evNorm live s' with
      | some s1 => loopR live out body n s1
      | none => none
    | e => match evNorm out s' with
      | some s1 => some (e, s1)
      | none => none
/-- What is told of loops, block by block. -/
structure Lp (U : Univ) where
  F : {R : Type} → Nat → TS U → (Exit → TS U → Option R) → Option R
def refineS {U : Univ} (s : TS U) (c : Operand) (b : Bool) : TS U := match c with
  | .tmp t => ⟨setN s.slots t (.v (.bool b)), s.objs, s.hin⟩
  | _ => s
/-- The objects that slots lead to. -/
def fzIds {U : Univ} (s : TS U) (l : List Nat) : List Nat := match l with
  | [] => []
  | l => reach s.objs 1000 (idsL (l.map (getN s.slots))) []
/-- Behind a region what is told may be cut down: by the mask at a thousand and its number. -/
def cutS {X : Cx} (mask : Nat) (s : TS X.U) : TS X.U := match mask with
  | 0 => s
  | m + 1 => match evNorm (m + 1) s with
    | some s1 => s1
    | none => s
def evC (X : Cx) (E : FuncId → Option (Spc X.U)) (an : Ann) (lp : Lp X.U) : Code → Nat → TS X.U → (Exit → TS X.U → Option R) → Option R
  | .skip, _, s, K => K .normal s
  | .region id ops dr, _, s, K => evReg X E ops dr (frzs s (fzIds s (an.fz id))) fun s' => K .normal (cutS (an.live (1000 + id)) s')
  | .seq x y, b, s, K => evC X E an lp x b s fun ex s' => match ex with
    | .normal => evC X E an lp y b s' K
    | e => K e s'
  | .cond c x y, b, s, K => match evO s c with
    | .v (.bool p) => cond p (evC X E an lp x b (refineS s c true) K) (evC X E an lp y b (refineS s c false) K)
    | _ => none
  | .block id x, _, s, K => evC X E an lp x id s fun ex s' => match ex with
    | .exit i => match Nat.beq i id with
      | true => K .normal s'
      | false => K (.exit i) s'
    | e => K e s'
  | .loop x, b, s, K => match evNorm (an.live b) s with
    | some s1 => lp.F b s1 K
    | none => none
  | .exit id, _, s, K => K (.exit id) s
  | .ret, _, s, K => K .ret s
  | _, _, _, _ => none
/-- The loops of a text, with their blocks. -/
def loops : Code → Nat → List (Nat × Code)
  | .seq x y, b => loops x b ++ loops y b
  | .cond _ x y, b => loops x b ++ loops y b
  | .block id x, _ => loops x id
  | .loop x, b => (b, x) :: loops x b
  | _, _ => []
/-- What is told of a loop is what its rounds come to. -/
def LpOk (X : Cx) (E : FuncId → Option (Spc X.U)) (an : Ann) (lp : Lp X.U) (l : List (Nat × Code)) : Prop :=
  (∀ q ∈ l, ∀ s p, lp.F q.1 s (fun ex s' => some (ex, s')) = some p → ∃ n, loopR (an.live q.1) (an.out q.1) (fun s K => evC X E an lp q.2 q.1 s K) n s = some p) ∧
  ∀ (b : Nat) (s : TS X.U) (R : Type) (K : Exit → TS X.U → Option R) (r : R), lp.F b s K = some r → ∃ ex s', K ex s' = some r ∧ ∀ {R' : Type} (K' : Exit → TS X.U → Option R'), lp.F b s K' = K' ex s'
theorem LpOk.mono {X : Cx} {E : FuncId → Option (Spc X.U)} {an : Ann} {lp : Lp X.U} {l l' : List (Nat × Code)} (h : LpOk X E an lp l) (hs : ∀ q ∈ l', q ∈ l) : LpOk X E an lp l' := ⟨fun q hq => h.1 q (hs q hq), h.2⟩
theorem evC_path (hE : ∀ f S, E f = some S → SpecOk P f S) {an : Ann} {lp : Lp X.U} (hP : ∀ (b : Nat) (s : TS X.U) (R : Type) (K : Exit → TS X.U → Option R) (r : R), lp.F b s K = some r → ∃ ex s', K ex s' = some r ∧ ∀ {R' : Type} (K' : Exit → TS X.U → Option R'), lp.F b s K' = K' ex s') : ∀ {c : Code} {R : Type} {r : R} {b : Nat} {s : TS X.U} {K : Exit → TS X.U → Option R}, evC X E an lp c b s K = some r →
    ∃ ex s', K ex s' = some r ∧ ∀ {R' : Type} (K' : Exit → TS X.U → Option R'), evC X E an lp c b s K' = K' ex s' := by
  intro c
  induction c with
  | skip => intro R r b s K h; exact ⟨_, _, h, fun _ => rfl⟩
  | exit id => intro R r b s K h; exact ⟨_, _, h, fun _ => rfl⟩
  | ret => intro R r b s K h; exact ⟨_, _, h, fun _ => rfl⟩
  | region id ops dr =>
    intro R r b s K h
    obtain ⟨s', hk, hp⟩ := evReg_path hE h
    exact ⟨_, _, hk, fun K' => hp _⟩
  | seq x y ihx ihy =>
    intro R r b s K h
    obtain ⟨ex, s', hk, hp⟩ := ihx h
    cases ex with
    | normal =>
      obtain ⟨ex2, s2, hk2, hp2⟩ := ihy hk
      exact ⟨ex2, s2, hk2, fun K' => (hp _).trans (hp2 K')⟩
    | _ => exact ⟨_, s', hk, fun K' => hp _⟩
  | cond c x y ihx ihy =>
    intro R r b s K h
    unfold evC at h
    split at h <;> try (cases h; done)
    rename_i p hc
    cases p with
    | true =>
      obtain ⟨ex, s', hk, hp⟩ := ihx h
      exact ⟨ex, s', hk, fun K' => by unfold evC; simp only [hc]; exact hp K'⟩
    | false =>
      obtain ⟨ex, s', hk, hp⟩ := ihy h
      exact ⟨ex, s', hk, fun K' => by unfold evC; simp only [hc]; exact hp K'⟩
  | block id x ih =>
    intro R r b s K h
    obtain ⟨ex, s', hk, hp⟩ := ih h
    cases ex with
    | exit i =>
      dsimp only at hk
      split at hk
      · rename_i e
        exact ⟨_, s', hk, fun K' => by unfold evC; rw [hp]; simp only [e]⟩
      · rename_i e
        exact ⟨_, s', hk, fun K' => by unfold evC; rw [hp]; simp only [e]⟩
    | _ => exact ⟨_, s', hk, fun K' => hp _⟩
  | loop x ih =>
    intro R r b s K h
    unfold evC at h
    split at h <;> try (cases h; done)
    rename_i s1 hs1
    obtain ⟨ex, s', hk, hp⟩ := hP _ _ _ _ _ h
    exact ⟨_, _, hk, fun K' => by unfold evC; simp only [hs1]; exact hp K'⟩
  | _ => intro R r b s K h; cases h
theorem wp_loop_ix {c : Code} {Q : Exit → Act → World → Prop} (I : Nat → Act → World → Prop) {n : Nat} {a : Act} {w : World} (h0 : I n a w) (hr : ∀ n a w, I n a w → c.wp P (fun e a' w' => match e with | .normal => ∃ m, m < n ∧ I m a' w' | e => Q e a' w') a w) : (Code.loop c).wp P Q a w := by
  intro b k cs
  have key : ∀ n a w, I n a w → ∃ e a' w', Q e a' w' ∧ Arrives P (lone (b.at a (.code c :: .inLoop c :: k)) cs w) b k cs e a' w' := by
    intro n
    induction n using Nat.strongRecOn with
    | _ n ih =>
      intro a w hI
      obtain ⟨e, a₁, w₁, hq, harr⟩ := hr n a w hI b (.inLoop c :: k) cs
      cases e with
      | normal =>
        obtain ⟨m, hlt, hI₁⟩ := hq
        obtain ⟨e₂, a₂, w₂, hq₂, harr₂⟩ := ih m hlt a₁ w₁ hI₁
        exact ⟨e₂, a₂, w₂, hq₂, .of_steps (Steps.trans harr (.one step_inLoop)) harr₂⟩
      | exit id => exact ⟨_, a₁, w₁, hq, .pass (x := .inLoop c) rfl (fun _ _ => .inl (by simp)) harr⟩
      | goto l => exact ⟨_, a₁, w₁, hq, .pass (x := .inLoop c) rfl (fun _ _ => .inl (by simp)) harr⟩
      | ret => exact ⟨_, a₁, w₁, hq, .pass (x := .inLoop c) rfl (fun _ _ => .inl (by simp)) harr⟩
      | panic ch => exact ⟨_, a₁, w₁, hq, .pass (x := .inLoop c) rfl (fun _ _ => .inl (by simp)) harr⟩
      | outgrown => exact ⟨_, a₁, w₁, hq, .pass (x := .inLoop c) rfl (fun _ _ => .inl (by simp)) harr⟩
  obtain ⟨e, a', w', hq, harr⟩ := key n a w h0
  exact ⟨e, a', w', hq, .of_steps (.one step_loop) harr⟩
theorem evNorm_ok (hX : CxOk P X) {mask : Nat} {s s1 : TS X.U} (hn : evNorm mask s = some s1) {f : Fr} {a : Act} {w : World} (hT : TR f s a w) : TR f s1 a w := by
  unfold evNorm at hn
  split at hn <;> try (cases hn; done)
  rename_i s2 xs2 hs2
  cases hn
  obtain ⟨⟨σ, hM, g, hR⟩, hin, hg0⟩ := hT
  obtain ⟨g1, σ1, h1, h2, h3, h4, _⟩ := norm_ok hX.closed hs2 hM hR hin hg0
  exact ⟨⟨σ1, h2, g1, h1⟩, h4, fun id b hb => by rw [h3]; exact hg0 id b hb⟩
theorem cutS_ok (hX : CxOk P X) {mask : Nat} {s : TS X.U} {f : Fr} {a : Act} {w : World} (hT : TR f s a w) : TR f (cutS mask s) a w := by
  unfold cutS
  split
  · exact hT
  · split
    · rename_i h; exact evNorm_ok hX h hT
    · exact hT
theorem refineS_ok {s : TS X.U} {c : Operand} {p : Bool} (hc : evO s c = .v (.bool p)) {f : Fr} {a : Act} {w : World} (hT : TR f s a w) : TR f (refineS s c p) a w := by
  cases c with
  | tmp t =>
    obtain ⟨⟨σ, hM, hR⟩, hin, hg0⟩ := hT
    exact ⟨⟨σ, hM.same hc, hR⟩, hin, hg0⟩
  | _ => exact hT
theorem evC_ok (hX : CxOk P X) (hm : P.follows .mixedOrders = true) (hE : ∀ f S, E f = some S → SpecOk P f S) {an : Ann} {lp : Lp X.U} {f : Fr} : ∀ {c : Code} {R : Type} {r : R} {b : Nat} {s : TS X.U} {K : Exit → TS X.U → Option R}, LpOk X E an lp (loops c b) → evC X E an lp c b s K = some r →
    ∀ {a : Act} {w : World}, codeOk f.N c = true → TR f s a w → ∀ {Q : Exit → Act → World → Prop}, (∀ ex s' a' w', K ex s' = some r → TR f s' a' w' → Q ex a' w') → c.wp P Q a w := by
  intro c
  induction c with
  | skip => intro R r b s K hL h a w hok hT Q hQ; exact wp_skip (hQ _ _ _ _ h hT)
  | exit id => intro R r b s K hL h a w hok hT Q hQ; exact wp_exit (hQ _ _ _ _ h hT)
  | ret => intro R r b s K hL h a w hok hT Q hQ; exact wp_ret (hQ _ _ _ _ h hT)
  | region id ops dr =>
    intro R r b s K hL h a w hok hT Q hQ
    exact evReg_ok hX hm hE h hok (frzs_ok hX _ hT) fun s' a' w' hk hT' => hQ _ _ _ _ hk (cutS_ok hX hT')
  | seq x y ihx ihy =>
    intro R r b s K hL h a w hok hT Q hQ
    have hok : (codeOk f.N x && codeOk f.N y) = true := hok
    rw [Bool.and_eq_true] at hok
    refine wp_seq (ihx (hL.mono fun q hq => List.mem_append_left _ hq) h hok.1 hT fun ex s' a' w' hk hT' => ?_)
    cases ex with
    | normal => exact ihy (hL.mono fun q hq => List.mem_append_right _ hq) hk hok.2 hT' hQ
    | _ => exact hQ _ _ _ _ hk hT'
  | cond c x y ihx ihy =>
    intro R r b s K hL h a w hok hT Q hQ
    have hok : (codeOk f.N x && codeOk f.N y) = true := hok
    rw [Bool.and_eq_true] at hok
    unfold evC at h
    split at h <;> try (cases h; done)
    rename_i p hc
    have hT0 := hT
    obtain ⟨⟨σ, hM, g, hR⟩, _, _⟩ := hT0
    refine wp_cond_split (ev_v hR (Agree.refl _ _) (by rw [hM.ev hc (by simp)]; rfl)) (fun e => ?_) (fun e => ?_)
    · subst e; exact ihx (hL.mono fun q hq => List.mem_append_left _ hq) h hok.1 (refineS_ok hc hT) hQ
    · subst e; exact ihy (hL.mono fun q hq => List.mem_append_right _ hq) h hok.2 (refineS_ok hc hT) hQ
  | block id x ih =>
    intro R r b s K hL h a w hok hT Q hQ
    refine wp_block (ih hL h hok hT fun ex s' a' w' hk hT' => ?_)
    cases ex with
    | exit i =>
      dsimp only at hk
      show (if i = id then _ else _)
      split at hk
      · rename_i e
        rw [if_pos (Nat.eq_of_beq_eq_true e)]
        exact hQ _ _ _ _ hk hT'
      · rename_i e
        rw [if_neg (fun h => by rw [h, Nat.beq_refl] at e; cases e)]
        exact hQ _ _ _ _ hk hT'
    | _ => exact hQ _ _ _ _ hk hT'
  | loop x ih =>
    intro R r b s K hL h a w hok hT Q hQ
    unfold evC at h
    split at h <;> try (cases h; done)
    rename_i s1 hs1
    obtain ⟨ex0, s0, hk, hpk⟩ := hL.2 _ _ _ _ _ h
    obtain ⟨p, hpe⟩ : ∃ p : Exit × TS X.U, p = (ex0, s0) := ⟨_, rfl⟩
    obtain ⟨N, hN⟩ := hL.1 (b, x) List.mem_cons_self s1 p (by rw [hpk, hpe])
    have hk : K p.1 p.2 = some r := by rw [hpe]; exact hk
    refine wp_loop_ix (fun n a w => ∃ s, loopR (an.live b) (an.out b) (fun s K => evC X E an lp x b s K) n s = some p ∧ TR f s a w) (n := N) ⟨s1, hN, evNorm_ok hX hs1 hT⟩ fun n a w ⟨s, hs, hT⟩ => ?_
    cases n with
    | zero => cases hs
    | succ n =>
      refine ih (hL.mono fun q hq => List.mem_cons_of_mem _ hq) hs hok hT fun ex s' a' w' hk2 hT' => ?_
      cases ex with
      | normal =>
        dsimp only at hk2
        split at hk2 <;> try (cases hk2; done)
        rename_i s2 hs2
        exact ⟨n, Nat.lt_succ_self n, s2, hk2, evNorm_ok hX hs2 hT'⟩
      | _ =>
        dsimp only at hk2
        split at hk2 <;> try (cases hk2; done)
        rename_i s2 hs2
        cases hk2
        exact hQ _ _ _ _ hk (evNorm_ok hX hs2 hT')
  | _ => intro R r b s K hL h; cases h
end
end Go.Proofs.YtcbbpidnocgoiaaDoor.Eng

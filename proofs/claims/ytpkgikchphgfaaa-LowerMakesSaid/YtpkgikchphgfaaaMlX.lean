/- Texts of this claim, put together: part 24. -/
import Derived.Test.YtpkgikchphgfaaaMlQ
import Derived.Test.YtpkgikchphgfaaaMlW
/- A program without a flaw: its variables are there, its names are told apart. -/
namespace Go.Proofs.Ytpkgikchphgfaaa.Lw
open Go Go.RowKit Go.Proofs.Ytpkgikchphgfaaa.Eng Go.Proofs.Ytpkgikchphgfaaa.Fl
set_option linter.unusedVariables false
set_option linter.unusedSimpArgs false
/-- A name is there. -/
def fd (V : List R82) (s : ByteArray) : Prop := 0 ≤ findD V s
theorem fail0 {c : CS} {k a : Int} (hk : k ≠ 0) (h : (c.fail k a).Code = 0) : False := by
  unfold CS.fail at h
  split at h
  · exact hk h
  · rename_i hc; exact hc h
theorem typ0 {c : CS} {l : List R82} {s : ByteArray} {a : Int} (h : (c.typ l s a).1.Code = 0) : c.Code = 0 ∧ fd l s := by
  unfold CS.typ at h
  by_cases hd : findD l s < 0
  · rw [decide_eq_true hd] at h
    exact (fail0 (by decide) h).elim
  · rw [decide_eq_false hd] at h
    exact ⟨h, by unfold fd; omega⟩
theorem want0 {c : CS} {x y a : Int} (h : (c.want x y a).Code = 0) : c.Code = 0 := by
  unfold CS.want at h
  cases hb : !decide (x = y) with
  | true => rw [hb] at h; exact (fail0 (by decide) h).elim
  | false => rw [hb] at h; exact h
theorem var0 {c : CS} {s : ByteArray} {y a : Int} (h : (c.var s y a).Code = 0) : c.Code = 0 ∧ fd c.V s := typ0 (want0 h)
theorem ixL_Z {len : Int} {step : CS → Int → CS} {Q : Int → Prop} {c0 : CS} (hlk : ∀ (d : CS) (v : Int), d.Lk (step d v)) (h : ∀ (d : CS) (v : Int), c0.Lk d → 0 ≤ v → v < len → (step d v).Code = 0 → d.Code = 0 ∧ Q v) :
    ∀ (N : Nat) (d : CS) (v : Int), c0.Lk d → 0 ≤ v → len ≤ v + N → (ixL len step N d v).Code = 0 → d.Code = 0 ∧ ∀ w, v ≤ w → w < len → Q w := by
  intro N
  induction N with
  | zero => intro d v hl h0 h1 hc; exact ⟨hc, fun w h2 h3 => by omega⟩
  | succ N ih =>
    intro d v hl h0 h1 hc
    unfold ixL at hc
    split at hc
    · rename_i hv
      obtain ⟨h2, h3⟩ := ih _ _ (hl.trans (hlk d v)) (by omega) (by omega) hc
      obtain ⟨h4, h5⟩ := h d v hl h0 hv h2
      refine ⟨h4, fun w hw hw2 => ?_⟩
      by_cases e : w = v
      · rw [e]; exact h5
      · exact h3 w (by omega) hw2
    · exact ⟨hc, fun w h2 h3 => by omega⟩
theorem mem_getI {α : Type} {l : List α} {x : α} (h : x ∈ l) : ∃ v : Int, 0 ≤ v ∧ v < (l.length : Int) ∧ getI l v = some x := by
  obtain ⟨i, hi⟩ := List.mem_iff_getElem?.1 h
  have := (List.getElem?_eq_some_iff.1 hi).1
  refine ⟨i, by omega, by omega, ?_⟩
  unfold getI
  rw [if_pos (by omega)]
  exact hi
theorem allT0 {l : List ByteArray} {a : Int} {c : CS} (h : (allT l a c).Code = 0) : c.Code = 0 ∧ ∀ s ∈ l, fd c.V s := by
  unfold allT at h
  obtain ⟨h1, h2⟩ := ixL_Z (Q := fun v => ∀ s, getI l v = some s → fd c.V s) (fun d v => argsT_lk _ _ _ _) (fun d v hl h0 hv hc => by
    unfold argsT at hc
    cases hg : getI l v with
    | none => rw [hg] at hc; exact ⟨hc, fun s hs => by cases hs⟩
    | some s =>
      rw [hg] at hc
      obtain ⟨h3, h4⟩ := typ0 hc
      rw [hl.V] at h4
      exact ⟨h3, fun s' hs => by cases hs; exact h4⟩) _ c 0 (.refl c) (Int.le_refl 0) (by omega) h
  refine ⟨h1, fun s hs => ?_⟩
  obtain ⟨v, v0, v1, hv⟩ := mem_getI hs
  exact h2 v v0 v1 s hv
theorem allV0 {l : List ByteArray} {ps : List R82} {a : Int} {c : CS} (hlen : ps.length = l.length) (h : (allV l ps a c).Code = 0) : c.Code = 0 ∧ ∀ s ∈ l, fd c.V s := by
  unfold allV at h
  obtain ⟨h1, h2⟩ := ixL_Z (Q := fun v => ∀ s, getI l v = some s → fd c.V s) (fun d v => argsV_lk _ _ _ _ _) (fun d v hl h0 hv hc => by
    unfold argsV at hc
    obtain ⟨s, hg, _⟩ := getI_lt h0 hv
    obtain ⟨p, hp, _⟩ := getI_lt (l := ps) h0 (by omega)
    rw [hg, hp] at hc
    obtain ⟨h3, h4⟩ := var0 hc
    rw [hl.V] at h4
    exact ⟨h3, fun s' hs => by rw [hg] at hs; cases hs; exact h4⟩) _ c 0 (.refl c) (Int.le_refl 0) (by omega) h
  refine ⟨h1, fun s hs => ?_⟩
  obtain ⟨v, v0, v1, hv⟩ := mem_getI hs
  exact h2 v v0 v1 s hv
/-- The variables of a call are there. -/
def cV (V : List R82) (e : R112) : Prop := (e.Kind = 11 → fd V e.A) ∧ ∀ s ∈ e.Args, fd V s
theorem call0 {c : CS} {e : R112} {a : Int} (h : (c.call e a).1.Code = 0) : c.Code = 0 ∧ cV c.V e := by
  unfold CS.call at h
  by_cases hk : e.Kind = 11
  · rw [decide_eq_true hk] at h
    have h : (allT e.Args a (c.var e.A 3 a)).Code = 0 := h
    obtain ⟨h1, h2⟩ := allT0 h
    obtain ⟨h3, h4⟩ := var0 h1
    have hV : (c.var e.A 3 a).V = c.V := (CS.Lk.var c e.A 3 a).V
    rw [hV] at h2
    exact ⟨h3, fun _ => h4, h2⟩
  · rw [decide_eq_false hk, cond_false] at h
    by_cases hf : fnI c.N e.A < 0
    · rw [decide_eq_true hf] at h
      exact (fail0 (by decide) h).elim
    · rw [decide_eq_false hf, cond_false] at h
      have hin := fnI_in c.N e.A
      obtain ⟨z, hz, _⟩ := getI_lt (l := c.N) (v := fnI c.N e.A) (by omega) (by omega)
      rw [hz] at h
      dsimp only at h
      by_cases hl : (z.Params.length : Int) = e.Args.length
      · rw [decide_eq_true hl] at h
        obtain ⟨h1, h2⟩ := allV0 (by omega) (show (allV e.Args z.Params a c).Code = 0 from h)
        exact ⟨h1, fun hk' => (hk hk').elim, h2⟩
      · rw [decide_eq_false hl] at h
        exact (fail0 (by decide) h).elim
/-- The variables of an expression are there. -/
def exV (V : List R82) (e : R112) : Prop := (e.Kind = 3 ∨ e.Kind = 5 ∨ e.Kind = 8 ∨ e.Kind = 9 → fd V e.A) ∧ (e.Kind = 8 → fd V e.B) ∧ (e.Kind = 10 ∨ e.Kind = 11 → cV V e)
theorem expr0 {c : CS} {e : R112} {m a : Int} (h : (c.expr e m a).Code = 0) : c.Code = 0 ∧ exV c.V e := by
  unfold CS.expr at h
  have no : ∀ {k : Int}, e.Kind = k → k ≠ 3 → k ≠ 5 → k ≠ 8 → k ≠ 9 → k ≠ 10 → k ≠ 11 → exV c.V e := fun hk h3 h5 h8 h9 h10 h11 => ⟨fun h => by omega, fun h => by omega, fun h => by omega⟩
  by_cases h2 : e.Kind = 2
  · rw [decide_eq_true h2] at h; exact ⟨want0 h, no h2 (by decide) (by decide) (by decide) (by decide) (by decide) (by decide)⟩
  rw [decide_eq_false h2, cond_false] at h
  by_cases h6 : e.Kind = 6
  · rw [decide_eq_true h6] at h; exact ⟨want0 h, no h6 (by decide) (by decide) (by decide) (by decide) (by decide) (by decide)⟩
  rw [decide_eq_false h6, cond_false] at h
  by_cases h3 : e.Kind = 3
  · rw [decide_eq_true h3] at h
    obtain ⟨a1, a2⟩ := typ0 (want0 (show ((c.typ c.V e.A a).1.want _ m a).Code = 0 from h))
    exact ⟨a1, fun _ => a2, fun h => by omega, fun h => by omega⟩
  rw [decide_eq_false h3, cond_false] at h
  by_cases h4 : e.Kind = 4
  · rw [decide_eq_true h4] at h
    obtain ⟨a1, a2⟩ := typ0 (want0 (show ((c.typ c.G e.A a).1.want _ m a).Code = 0 from h))
    exact ⟨a1, no h4 (by decide) (by decide) (by decide) (by decide) (by decide) (by decide)⟩
  rw [decide_eq_false h4, cond_false] at h
  by_cases h5 : e.Kind = 5
  · rw [decide_eq_true h5] at h
    obtain ⟨a1, _⟩ := typ0 (want0 (show (((c.var e.A 2 a).typ c.F e.B a).1.want _ m a).Code = 0 from h))
    obtain ⟨b1, b2⟩ := var0 a1
    exact ⟨b1, fun _ => b2, fun h => by omega, fun h => by omega⟩
  rw [decide_eq_false h5, cond_false] at h
  by_cases h7 : e.Kind = 7
  · rw [decide_eq_true h7, cond_true] at h
    refine ⟨?_, no h7 (by decide) (by decide) (by decide) (by decide) (by decide) (by decide)⟩
    cases hb : decide (fnI c.N e.A < 0) with
    | true => rw [hb] at h; exact (fail0 (by decide) (want0 h)).elim
    | false => rw [hb] at h; exact want0 h
  rw [decide_eq_false h7, cond_false] at h
  by_cases h8 : e.Kind = 8
  · rw [decide_eq_true h8] at h
    obtain ⟨a1, a2⟩ := var0 (want0 (show (((c.var e.A 1 a).var e.B 1 a).want 1 m a).Code = 0 from h))
    obtain ⟨b1, b2⟩ := var0 a1
    rw [(CS.Lk.var c e.A 1 a).V] at a2
    exact ⟨b1, fun _ => b2, fun _ => a2, fun h => by omega⟩
  rw [decide_eq_false h8, cond_false] at h
  by_cases h9 : e.Kind = 9
  · rw [decide_eq_true h9] at h
    obtain ⟨a1, a2⟩ := var0 (want0 (show ((c.var e.A 1 a).want 1 m a).Code = 0 from h))
    exact ⟨a1, fun _ => a2, fun h => by omega, fun h => by omega⟩
  rw [decide_eq_false h9, cond_false] at h
  by_cases h10 : e.Kind = 10
  · rw [decide_eq_true h10] at h
    obtain ⟨a1, a2⟩ := call0 (want0 (show ((c.call e a).1.want _ m a).Code = 0 from h))
    exact ⟨a1, fun h => by omega, fun h => by omega, fun _ => a2⟩
  rw [decide_eq_false h10, cond_false] at h
  by_cases h11 : e.Kind = 11
  · rw [decide_eq_true h11] at h
    obtain ⟨a1, a2⟩ := call0 (want0 (show ((c.call e a).1.want m m a).Code = 0 from h))
    exact ⟨a1, fun h => by omega, fun h => by omega, fun _ => a2⟩
  rw [decide_eq_false h11, cond_false] at h
  exact ⟨want0 h, fun h => by omega, fun h => by omega, fun h => by omega⟩
mutual
/-- The variables of a statement are there. -/
def stVr (V : List R82) : R114 → Prop
  | .mk k a to fi fr e b l => (k = 1 ∨ k = 3 → fd V to) ∧ (k = 2 ∨ k = 3 ∨ k = 4 ∨ k = 5 ∨ k = 6 ∨ k = 7 → fd V fr) ∧ (k = 10 → (fr.toList == (⟨#[]⟩ : ByteArray).toList) = false → fd V fr) ∧ (k = 1 → exV V e) ∧ (k = 8 ∨ k = 9 → cV V e) ∧ (k = 4 ∨ k = 5 → stVrL V b ∧ stVrL V l)
def stVrL (V : List R82) : List R114 → Prop
  | [] => True
  | x :: l => stVr V x ∧ stVrL V l
end
mutual
theorem stC0 : ∀ (z : R114) (c : CS), (stC z c).Code = 0 → c.Code = 0 ∧ stVr c.V z
  | .mk k a to fi fr e b l, c, h => by
    have hb := fun d => stCL0 b d
    have hl := fun d => stCL0 l d
    rw [stC] at h
    rw [stVr]
    by_cases h1 : k = 1
    · rw [decide_eq_true h1] at h
      obtain ⟨a1, a2⟩ := expr0 (show ((c.typ c.V to a).1.expr e (c.typ c.V to a).2 a).Code = 0 from h)
      rw [(CS.Lk.typ c c.V to a).V] at a2
      obtain ⟨b1, b2⟩ := typ0 a1
      exact ⟨b1, fun _ => b2, fun h => by omega, fun h => by omega, fun _ => a2, fun h => by omega, fun h => by omega⟩
    rw [decide_eq_false h1, cond_false] at h
    by_cases h2 : k = 2
    · rw [decide_eq_true h2] at h
      obtain ⟨a1, a2⟩ := var0 (show ((c.typ c.G to a).1.var fr (c.typ c.G to a).2 a).Code = 0 from h)
      rw [(CS.Lk.typ c c.G to a).V] at a2
      exact ⟨(typ0 a1).1, fun h => by omega, fun _ => a2, fun h => by omega, fun h => by omega, fun h => by omega, fun h => by omega⟩
    rw [decide_eq_false h2, cond_false] at h
    by_cases h3 : k = 3
    · rw [decide_eq_true h3] at h
      obtain ⟨a1, a2⟩ := var0 (show (((c.var to 2 a).typ c.F fi a).1.var fr ((c.var to 2 a).typ c.F fi a).2 a).Code = 0 from h)
      rw [((CS.Lk.var c to 2 a).trans (CS.Lk.typ (c.var to 2 a) c.F fi a)).V] at a2
      obtain ⟨b1, b2⟩ := var0 (typ0 a1).1
      exact ⟨b1, fun _ => b2, fun _ => a2, fun h => by omega, fun h => by omega, fun h => by omega, fun h => by omega⟩
    rw [decide_eq_false h3, cond_false] at h
    have blk : (stCL l (stCL b (c.var fr 1 a))).Code = 0 → c.Code = 0 ∧ fd c.V fr ∧ stVrL c.V b ∧ stVrL c.V l := fun h => by
      obtain ⟨a1, a2⟩ := hl _ h
      obtain ⟨b1, b2⟩ := hb _ a1
      obtain ⟨d1, d2⟩ := var0 b1
      rw [((CS.Lk.var c fr 1 a).trans (stCL_lk b _)).V] at a2
      rw [(CS.Lk.var c fr 1 a).V] at b2
      exact ⟨d1, d2, b2, a2⟩
    by_cases h4 : k = 4
    · rw [decide_eq_true h4] at h
      obtain ⟨a1, a2, a3⟩ := blk h
      exact ⟨a1, fun h => by omega, fun _ => a2, fun h => by omega, fun h => by omega, fun h => by omega, fun _ => a3⟩
    rw [decide_eq_false h4, cond_false] at h
    by_cases h5 : k = 5
    · rw [decide_eq_true h5] at h
      obtain ⟨a1, a2, a3⟩ := blk h
      exact ⟨a1, fun h => by omega, fun _ => a2, fun h => by omega, fun h => by omega, fun h => by omega, fun _ => a3⟩
    rw [decide_eq_false h5, cond_false] at h
    by_cases h6 : k = 6
    · rw [decide_eq_true h6] at h
      obtain ⟨a1, a2⟩ := var0 (show (c.var fr 2 a).Code = 0 from h)
      exact ⟨a1, fun h => by omega, fun _ => a2, fun h => by omega, fun h => by omega, fun h => by omega, fun h => by omega⟩
    rw [decide_eq_false h6, cond_false] at h
    by_cases h7 : k = 7
    · rw [decide_eq_true h7] at h
      obtain ⟨a1, a2⟩ := var0 (show (c.var fr 2 a).Code = 0 from h)
      exact ⟨a1, fun h => by omega, fun _ => a2, fun h => by omega, fun h => by omega, fun h => by omega, fun h => by omega⟩
    rw [decide_eq_false h7, cond_false] at h
    by_cases h8 : k = 8
    · rw [decide_eq_true h8] at h
      obtain ⟨a1, a2⟩ := call0 (show (c.call e a).1.Code = 0 from h)
      exact ⟨a1, fun h => by omega, fun h => by omega, fun h => by omega, fun h => by omega, fun _ => a2, fun h => by omega⟩
    rw [decide_eq_false h8, cond_false] at h
    by_cases h9 : k = 9
    · rw [decide_eq_true h9] at h
      obtain ⟨a1, a2⟩ := call0 (show (c.call e a).1.Code = 0 from h)
      exact ⟨a1, fun h => by omega, fun h => by omega, fun h => by omega, fun h => by omega, fun _ => a2, fun h => by omega⟩
    rw [decide_eq_false h9, cond_false] at h
    by_cases h10 : k = 10
    · rw [decide_eq_true h10, cond_true] at h
      cases he : (fr.toList == (⟨#[]⟩ : ByteArray).toList) with
      | true =>
        rw [he] at h
        exact ⟨want0 (show (c.want 0 c.Ret a).Code = 0 from h), fun h => by omega, fun h => by omega, fun _ h => (by cases h), fun h => by omega, fun h => by omega, fun h => by omega⟩
      | false =>
        rw [he] at h
        obtain ⟨a1, a2⟩ := typ0 (want0 (show ((c.typ c.V fr a).1.want (c.typ c.V fr a).2 (c.typ c.V fr a).1.Ret a).Code = 0 from h))
        exact ⟨a1, fun h => by omega, fun h => by omega, fun _ _ => a2, fun h => by omega, fun h => by omega, fun h => by omega⟩
    rw [decide_eq_false h10, cond_false] at h
    exact ⟨h, fun h => by omega, fun h => by omega, fun h => by omega, fun h => by omega, fun h => by omega, fun h => by omega⟩
theorem stCL0 : ∀ (l : List R114) (c : CS), (stCL l c).Code = 0 → c.Code = 0 ∧ stVrL c.V l
  | [], c, h => ⟨by rw [stCL] at h; exact h, by rw [stVrL]; trivial⟩
  | x :: l, c, h => by
    rw [stCL] at h
    obtain ⟨a1, a2⟩ := stCL0 l _ h
    obtain ⟨b1, b2⟩ := stC0 x c a1
    rw [(stC_lk x c).V] at a2
    exact ⟨b1, by rw [stVrL]; exact ⟨b2, a2⟩⟩
end
end Go.Proofs.Ytpkgikchphgfaaa.Lw
/- A program without a flaw: where its names stand. -/
namespace Go.Proofs.Ytpkgikchphgfaaa.Lw
open Go Go.RowKit Go.Proofs.Ytpkgikchphgfaaa.Eng Go.Proofs.Ytpkgikchphgfaaa.Fl
set_option linter.unusedVariables false
set_option linter.unusedSimpArgs false
theorem aget_aset' {A B : Type} {eq : A → A → Bool} (he : ∀ a b, eq a b = true ↔ a = b) (k : A) (b : B) (s : A) : ∀ l : List (A × B), aget eq (aset eq l k b) s = cond (eq s k) (some b) (aget eq l s)
  | [] => rfl
  | (a, y) :: l => by
    rw [aset]
    cases h : eq k a with
    | true =>
      obtain rfl := (he k a).1 h
      rw [cond_true, aget, aget]
      cases eq s k <;> rfl
    | false =>
      rw [cond_false, aget, aget_aset' he k b s l, aget]
      cases h1 : eq s a with
      | false => rfl
      | true =>
        cases h2 : eq s k with
        | false => rfl
        | true =>
          obtain rfl := (he s a).1 h1
          obtain rfl := (he s k).1 h2
          rw [h1] at h
          cases h
/-- Names, one behind another, each with what it stands for. -/
def mkM {α : Type} (nm : α → ByteArray) (f : Int → Int) : List α → Int → List (ByteArray × Int) → List (ByteArray × Int)
  | [], _, m => m
  | x :: l, i, m => mkM nm f l (i + 1) (aset keS m (nm x) (f i))
section
variable {α : Type} {nm : α → ByteArray}
theorem mkM_append (f : Int → Int) : ∀ (l1 l2 : List α) (i : Int) (m : List (ByteArray × Int)), mkM nm f (l1 ++ l2) i m = mkM nm f l2 (i + l1.length) (mkM nm f l1 i m)
  | [], l2, i, m => by rw [List.nil_append, mkM, List.length_nil]; congr 1; omega
  | x :: l1, l2, i, m => by
    rw [List.cons_append, mkM, mkM_append f l1 l2, mkM, List.length_cons]
    congr 1
    omega
theorem keS_ne {a b : ByteArray} (h : a ≠ b) : keS a b = false := by
  cases hk : keS a b with
  | false => rfl
  | true => exact (h ((keS_iff a b).1 hk)).elim
theorem mkM_abs (f : Int → Int) (s : ByteArray) : ∀ (l : List α) (i : Int) (m : List (ByteArray × Int)), (∀ x ∈ l, nm x ≠ s) → aget keS (mkM nm f l i m) s = aget keS m s
  | [], i, m, _ => rfl
  | x :: l, i, m, h => by
    rw [mkM, mkM_abs f s l _ _ fun y hy => h y (.tail _ hy), aget_aset' keS_iff, keS_ne fun e => h x (.head _) e.symm]
    rfl
/-- Names are told apart. -/
def Dn (nm : α → ByteArray) (l : List α) : Prop := ∀ (i j : Nat) (x y : α), l[i]? = some x → l[j]? = some y → i < j → nm x ≠ nm y
theorem upx_spec (l : List α) (s : ByteArray) : ∀ (N : Nat) (v : Int), 0 ≤ v → (l.length : Int) ≤ v + N →
    (upx nm l s (-1) (N + 1) v = -1 ∧ ∀ (w : Int) (x : α), v ≤ w → getI l w = some x → nm x ≠ s) ∨
    (v ≤ upx nm l s (-1) (N + 1) v ∧ (∃ x, getI l (upx nm l s (-1) (N + 1) v) = some x ∧ nm x = s) ∧ ∀ (w : Int) (x : α), v ≤ w → w < upx nm l s (-1) (N + 1) v → getI l w = some x → nm x ≠ s) := by
  have lt_of : ∀ (w : Int) (x : α), getI l w = some x → w < (l.length : Int) := fun w x h => by
    obtain ⟨h0, h1⟩ := getI_some h
    have := (List.getElem?_eq_some_iff.1 h1).1
    omega
  intro N
  induction N with
  | zero =>
    intro v h0 h1
    refine .inl ⟨?_, fun w x hw hx => ?_⟩
    · rw [upx, if_neg (by omega)]
    · have := lt_of w x hx
      omega
  | succ N ih =>
    intro v h0 h1
    rw [upx]
    by_cases hv : v < (l.length : Int)
    · obtain ⟨z, hz, _⟩ := getI_lt h0 hv
      rw [if_pos hv, hz]
      dsimp only
      cases hs : ((nm z).toList == s.toList) with
      | true =>
        rw [cond_true]
        exact .inr ⟨Int.le_refl _, ⟨z, hz, (keS_iff _ _).1 hs⟩, fun w x h2 h3 => by omega⟩
      | false =>
        rw [cond_false]
        have hne : nm z ≠ s := fun e => by
          have := (keS_iff (nm z) s).2 e
          unfold keS at this
          rw [hs] at this
          cases this
        rcases ih (v + 1) (by omega) (by omega) with ⟨h2, h3⟩ | ⟨h2, h3, h4⟩
        · refine .inl ⟨h2, fun w x hw hx => ?_⟩
          by_cases e : w = v
          · subst e; rw [hz] at hx; cases hx; exact hne
          · exact h3 w x (by omega) hx
        · refine .inr ⟨by omega, h3, fun w x hw hw2 hx => ?_⟩
          by_cases e : w = v
          · subst e; rw [hz] at hx; cases hx; exact hne
          · exact h4 w x (by omega) hw2 hx
    · rw [if_neg hv]
      refine .inl ⟨rfl, fun w x hw hx => ?_⟩
      have := lt_of w x hx
      omega
/-- The place of a name, or -1. -/
def pl (nm : α → ByteArray) (l : List α) (s : ByteArray) : Int := upx nm l s (-1) (l.length + 1) 0
theorem pl_spec (l : List α) (s : ByteArray) : (pl nm l s = -1 ∧ ∀ x ∈ l, nm x ≠ s) ∨ (0 ≤ pl nm l s ∧ (∃ x, getI l (pl nm l s) = some x ∧ nm x = s) ∧ ∀ (w : Int) (x : α), 0 ≤ w → w < pl nm l s → getI l w = some x → nm x ≠ s) := by
  rcases upx_spec (nm := nm) l s l.length 0 (Int.le_refl 0) (by omega) with ⟨h1, h2⟩ | h
  · refine .inl ⟨h1, fun x hx => ?_⟩
    obtain ⟨v, v0, v1, hv⟩ := mem_getI hx
    exact h2 v x v0 hv
  · exact .inr h
theorem mkM_get (f : Int → Int) {l : List α} (hd : Dn nm l) (s : ByteArray) : aget keS (mkM nm f l 0 []) s = cond (decide (0 ≤ pl nm l s)) (some (f (pl nm l s))) none := by
  rcases pl_spec (nm := nm) l s with ⟨h1, h2⟩ | ⟨h1, ⟨x, hx, hs⟩, _⟩
  · rw [h1, mkM_abs f s l 0 [] h2]
    rfl
  · rw [decide_eq_true h1, cond_true]
    obtain ⟨_, hx2⟩ := getI_some hx
    have hlt := (List.getElem?_eq_some_iff.1 hx2).1
    have e : l = l.take (pl nm l s).toNat ++ x :: l.drop ((pl nm l s).toNat + 1) := by
      conv => lhs; rw [← List.take_append_drop (pl nm l s).toNat l]
      rw [List.drop_eq_getElem_cons hlt]
      rw [List.getElem?_eq_getElem hlt] at hx2
      rw [Option.some.inj hx2]
    have hab : ∀ y ∈ l.drop ((pl nm l s).toNat + 1), nm y ≠ s := fun y hy => by
      obtain ⟨j, hj⟩ := List.mem_iff_getElem?.1 hy
      rw [List.getElem?_drop] at hj
      have := hd _ _ x y hx2 hj (by omega)
      rw [hs] at this
      exact fun e => this e.symm
    have key : aget keS (mkM nm f (l.take (pl nm l s).toNat ++ x :: l.drop ((pl nm l s).toNat + 1)) 0 []) s = some (f (pl nm l s)) := by
      rw [mkM_append, mkM, mkM_abs f s _ _ _ hab, aget_aset' keS_iff, hs, (keS_iff s s).2 rfl, cond_true, List.length_take]
      congr 2
      omega
    rw [← e] at key
    exact key
end
theorem fnd_abs (l : List R82) (s : ByteArray) : ∀ N : Nat, N ≤ l.length → fnd l s N < 0 → ∀ (i : Nat) (x : R82), i < N → l[i]? = some x → x.Name ≠ s
  | 0, _, _, i, x, hi, _ => by omega
  | N + 1, hN, h, i, x, hi, hx => by
    rw [fnd] at h
    obtain ⟨z, hz, hz2⟩ := getI_lt (l := l) (v := (N : Int)) (by omega) (by omega)
    rw [hz] at h
    dsimp only at h
    cases hs : (z.Name.toList == s.toList) with
    | true => rw [hs, cond_true] at h; omega
    | false =>
      rw [hs, cond_false] at h
      by_cases e : i = N
      · subst e
        have : l[i]? = some z := by simpa using hz2
        rw [hx] at this
        cases this
        intro e2
        have := (keS_iff x.Name s).2 e2
        unfold keS at this
        rw [hs] at this
        cases this
      · exact fnd_abs l s N (by omega) h i x (by omega) hx
theorem findD_abs {l : List R82} {s : ByteArray} (h : findD l s < 0) : ∀ x ∈ l, x.Name ≠ s := fun x hx => by
  obtain ⟨i, hi⟩ := List.mem_iff_getElem?.1 hx
  exact fnd_abs l s l.length (Nat.le_refl _) h i x (List.getElem?_eq_some_iff.1 hi).1 hi
theorem fnd_pre (l : List R82) (s : ByteArray) : ∀ N : Nat, N ≤ l.length → 0 ≤ fnd l s N → ∃ x ∈ l, x.Name = s
  | 0, _, h => by rw [fnd] at h; omega
  | N + 1, hN, h => by
    rw [fnd] at h
    obtain ⟨z, hz, hz2⟩ := getI_lt (l := l) (v := (N : Int)) (by omega) (by omega)
    rw [hz] at h
    dsimp only at h
    cases hs : (z.Name.toList == s.toList) with
    | true => exact ⟨z, List.mem_of_getElem? hz2, (keS_iff _ _).1 hs⟩
    | false => rw [hs, cond_false] at h; exact fnd_pre l s N (by omega) h
theorem fd_at {l : List R82} {s : ByteArray} (h : fd l s) : 0 ≤ Fl.atI l s := by
  obtain ⟨x, hx, hs⟩ := fnd_pre l s l.length (Nat.le_refl _) h
  rcases pl_spec (nm := R82.Name) l s with ⟨_, h2⟩ | ⟨h1, _⟩
  · exact (h2 x hx hs).elim
  · exact h1
theorem twice0 {c : CS} {l : List R82} (h : (c.twice l).Code = 0) : c.Code = 0 ∧ Dn R82.Name l := by
  unfold CS.twice at h
  obtain ⟨h1, h2⟩ := ixL_Z (c0 := c) (Q := fun v => ∀ z, getI l v = some z → findD (l.take v.toNat) z.Name < 0) (fun d v => by
    unfold step56
    split
    · rename_i z _
      cases decide (0 ≤ findD (l.take v.toNat) z.Name) with
      | true => exact .fail _ _ _
      | false => exact .refl _
    · exact .refl _) (fun d v hl h0 hv hc => by
    unfold step56 at hc
    obtain ⟨z, hz, _⟩ := getI_lt (l := l) h0 hv
    rw [hz] at hc
    dsimp only at hc
    by_cases hf : 0 ≤ findD (l.take v.toNat) z.Name
    · rw [decide_eq_true hf] at hc; exact (fail0 (by decide) hc).elim
    · rw [decide_eq_false hf] at hc
      exact ⟨hc, fun z' hz' => by rw [hz] at hz'; cases hz'; omega⟩) _ c 0 (.refl c) (Int.le_refl 0) (by omega) h
  refine ⟨h1, fun i j x y hx hy hij => ?_⟩
  have hj := (List.getElem?_eq_some_iff.1 hy).1
  have h3 := h2 j (by omega) (by omega) y (by unfold getI; rw [if_pos (by omega)]; exact hy)
  refine findD_abs h3 x ?_
  refine List.mem_of_getElem? (i := i) ?_
  rw [List.getElem?_take, if_pos (by omega)]
  exact hx
/-- A program in which no flaw was found. -/
structure Sound (t : TR) : Prop where
  g : Dn R82.Name t.G
  f : Dn R82.Name t.F
  n : Dn R90.Name t.N
  v : ∀ z ∈ t.N, Dn R82.Name ([] ++ z.Params ++ z.Vars) ∧ stVrL ([] ++ z.Params ++ z.Vars) z.Body
theorem ixL_Z' {len : Int} {step : CS → Int → CS} {Q : Int → Prop} (h : ∀ d v, 0 ≤ v → v < len → (step d v).Code = 0 → d.Code = 0 ∧ Q v) :
    ∀ (N : Nat) (d : CS) (v : Int), 0 ≤ v → len ≤ v + N → (ixL len step N d v).Code = 0 → d.Code = 0 ∧ ∀ w, v ≤ w → w < len → Q w := by
  intro N
  induction N with
  | zero => intro d v h0 h1 hc; exact ⟨hc, fun w h2 h3 => by omega⟩
  | succ N ih =>
    intro d v h0 h1 hc
    unfold ixL at hc
    split at hc
    · rename_i hv
      obtain ⟨h2, h3⟩ := ih _ _ (by omega) (by omega) hc
      obtain ⟨h4, h5⟩ := h d v h0 hv h2
      refine ⟨h4, fun w hw hw2 => ?_⟩
      by_cases e : w = v
      · rw [e]; exact h5
      · exact h3 w (by omega) hw2
    · exact ⟨hc, fun w h2 h3 => by omega⟩
theorem allB0 {t : TR} {c : CS} (h : (allB t c).Code = 0) : c.Code = 0 ∧ ∀ z ∈ t.N, Dn R82.Name ([] ++ z.Params ++ z.Vars) ∧ stVrL ([] ++ z.Params ++ z.Vars) z.Body := by
  unfold allB at h
  obtain ⟨h1, h2⟩ := ixL_Z' (Q := fun v => ∀ z, getI t.N v = some z → Dn R82.Name ([] ++ z.Params ++ z.Vars) ∧ stVrL ([] ++ z.Params ++ z.Vars) z.Body) (fun d v h0 hv hc => by
    unfold chB at hc
    obtain ⟨z, hz, _⟩ := getI_lt (l := t.N) h0 hv
    rw [hz] at hc
    dsimp only at hc
    obtain ⟨a1, a2⟩ := stCL0 _ _ hc
    obtain ⟨b1, b2⟩ := twice0 a1
    rw [(CS.Lk.twice (d.set z) ([] ++ z.Params ++ z.Vars)).V] at a2
    exact ⟨b1, fun z' hz' => by rw [hz] at hz'; cases hz'; exact ⟨b2, a2⟩⟩) _ c 0 (Int.le_refl 0) (by omega) h
  refine ⟨h1, fun z hz => ?_⟩
  obtain ⟨v, v0, v1, hv⟩ := mem_getI hz
  exact h2 v v0 v1 z hv
theorem allA0 {t : TR} {c : CS} (hN : c.N = t.N) (h : (allA t c).Code = 0) : c.Code = 0 ∧ Dn R90.Name t.N := by
  unfold allA at h
  obtain ⟨h1, h2⟩ := ixL_Z (c0 := c) (Q := fun v => ∀ z, getI t.N v = some z → v ≤ fnI t.N z.Name) (fun d v => by
    unfold chA
    split
    · rename_i z _
      cases decide (fnI d.N z.Name < v) with
      | true => exact .fail _ _ _
      | false => exact .refl _
    · exact .refl _) (fun d v hl h0 hv hc => by
    unfold chA at hc
    obtain ⟨z, hz, _⟩ := getI_lt (l := t.N) h0 hv
    rw [hz] at hc
    dsimp only at hc
    have hdN : d.N = t.N := by obtain ⟨k, a, rfl⟩ := hl; exact hN
    rw [hdN] at hc
    by_cases hf : fnI t.N z.Name < v
    · rw [decide_eq_true hf] at hc; exact (fail0 (by decide) hc).elim
    · rw [decide_eq_false hf] at hc
      exact ⟨hc, fun z' hz' => by rw [hz] at hz'; cases hz'; omega⟩) _ c 0 (.refl c) (Int.le_refl 0) (by omega) h
  refine ⟨h1, fun i j x y hx hy hij e => ?_⟩
  have hj := (List.getElem?_eq_some_iff.1 hy).1
  have h3 := h2 j (by omega) (by omega) y (by unfold getI; rw [if_pos (by omega)]; exact hy)
  rcases pl_spec (nm := R90.Name) t.N y.Name with ⟨a1, _⟩ | ⟨_, _, a3⟩
  · have : fnI t.N y.Name = -1 := a1
    omega
  · exact a3 i x (by omega) (by show (i : Int) < fnI t.N y.Name; omega) (by unfold getI; rw [if_pos (by omega)]; exact hx) e
theorem chk_sound {t : TR} (h : (chk t).Code = 0) : Sound t := by
  have h1 : (ckC t).Code = 0 := by
    unfold chk at h
    cases hb : decide (fnI t.N bMain < 0) with
    | true => rw [hb] at h; exact (fail0 (by decide) h).elim
    | false =>
      rw [hb, cond_false] at h
      split at h
      · rename_i z _
        cases hc : (decide (0 < (z.Params.length : Int)) || !decide (z.Ret = 0)) with
        | true => rw [hc] at h; exact (fail0 (by decide) h).elim
        | false => rw [hc] at h; exact h
      · exact h
  unfold ckC at h1
  obtain ⟨a1, a2⟩ := allB0 h1
  have hlk : (({ G := t.G, F := t.F, N := t.N, V := [], Ret := 0, Code := 0, FAt := 0 } : CS)).Lk (ck0 t) := (CS.Lk.twice _ _).trans (.twice _ _)
  obtain ⟨b1, b2⟩ := allA0 (by obtain ⟨k, a, e⟩ := hlk; rw [e]) a1
  unfold ck0 at b1
  obtain ⟨c1, c2⟩ := twice0 b1
  obtain ⟨_, d2⟩ := twice0 c1
  exact ⟨d2, c2, b2, a2⟩
end Go.Proofs.Ytpkgikchphgfaaa.Lw
/- The program's lowerer: names and types. -/
namespace Go.Proofs.Ytpkgikchphgfaaa.Lw
open Go Go.RowKit Go.Proofs.Ytpkgikchphgfaaa.Eng Go.Proofs.Ytpkgikchphgfaaa.Fl
set_option linter.unusedVariables false
set_option linter.unusedSimpArgs false
set_option maxRecDepth 20000
def an60 : Ann := ⟨fun | 0 => 904 | _ => 0, fun | 0 => 12 | _ => 0, fun _ => [], false⟩
def an61 : Ann := ⟨fun | 0 => 456 | _ => 0, fun | 0 => 12 | _ => 0, fun _ => [], false⟩
def S60 (l : List R82) (m : Mp) (v : Int) : TS U := mkS 20 [(3, .mp 0), (7, .lst .t82 l), (8, .v (.int .i64 (l.length : Int))), (9, .v (.int .i64 v))] [mO m] 0
def Z60 (m : Mp) : Exit × TS U := (.exit 0, mkS 20 [(3, .mp 0)] [mO m] 0)
theorem r60 (lp : Lp U) (l : List R82) (m : Mp) (N : Nat) (v : Int) : fnLoop X (fun _ => none) an60 lp Try.f60 0 N.succ (S60 l m v) = cond (decide (v < (l.length : Int))) ((getI l v).bind fun z => fnLoop X (fun _ => none) an60 lp Try.f60 0 N (S60 l (aset keS m z.Name v) (IntKind.i64.wrap (v + 1)))) (some (Z60 m)) := by kernel_rfl
theorem rounds60 (lp : Lp U) (l : List R82) (hl : l.length ≤ 3000000) : ∀ (n : Nat) (m : Mp) (v : Int), 0 ≤ v → (l.length : Int) ≤ v + n → fnLoop X (fun _ => none) an60 lp Try.f60 0 (n + 1) (S60 l m v) = some (Z60 (mkM R82.Name id (l.drop v.toNat) v m)) := by
  intro n
  induction n with
  | zero =>
    intro m v h0 h1
    rw [r60, decide_eq_false (by omega), List.drop_eq_nil_of_le (by omega), mkM]
    rfl
  | succ n ih =>
    intro m v h0 h1
    rw [r60]
    by_cases hv : v < (l.length : Int)
    · obtain ⟨z, hz, hz2⟩ := getI_lt h0 hv
      have hw : IntKind.i64.wrap (v + 1) = v + 1 := wrap_i64 (by omega) (by omega)
      have hd : l.drop v.toNat = z :: l.drop (v.toNat + 1) := by
        rw [List.drop_eq_getElem_cons (by omega)]
        rw [List.getElem?_eq_getElem (by omega)] at hz2
        rw [Option.some.inj hz2]
      rw [decide_eq_true hv, hz, cond_true, Option.bind_some, hw, ih _ (v + 1) (by omega) (by omega), hd, mkM, show (v + 1).toNat = v.toNat + 1 by omega]
      rfl
    · rw [decide_eq_false hv, List.drop_eq_nil_of_le (by omega), mkM]
      rfl
def dl60 (s : TS U) : Option (List (ByteArray × Int) × List R82 × Int × Int) := match told s 20 [3, 7, 8, 9] 0, s.objs with
  | some [a0, a1, a2, a3], [o0] =>
    match o0 with
    | .mp .m_str_i64 m false =>
      match a0 with
      | .mp 0 =>
        match a1 with
        | .lst .t82 l =>
          match a2 with
          | .v (.int .i64 n) =>
            match a3 with
            | .v (.int .i64 v) =>
              some (m, l, n, v)
            | _ => none
          | _ => none
        | _ => none
      | _ => none
    | _ => none
  | _, _ => none
theorem dl60_ok {s : TS U} {m : List (ByteArray × Int)} {l : List R82} {n : Int} {v : Int} (h : dl60 s = some (m, l, n, v)) : s = mkS (U := U) 20 ([3, 7, 8, 9].zip ([.mp 0, .lst .t82 l, .v (.int .i64 n), .v (.int .i64 v)] : List (TV U))) ([.mp .m_str_i64 m false] : List (TO U)) 0 := by
  unfold dl60 at h
  split at h <;> try (cases h; done)
  rename_i ht ho
  have hs := told_ok ht
  rw [ho] at hs
  repeat' split at h
  all_goals first | (cases h; done) | (cases h; exact hs)
def Pre60 (l : List R82) (m : Nat) (n v : Int) : Prop := Sn l.length ∧ m = 0 ∧ n = l.length ∧ v = 0
instance (l : List R82) (m : Nat) (n v : Int) : Decidable (Pre60 l m n v) := by unfold Pre60; infer_instance
def lc60 : LC U := .of dl60 (fun (m, l, n, v) => Pre60 l m.length n v) (.exit 0) (fun (m, l, n, v) => (Z60 (mkM R82.Name id l 0 [])).2)
def lp60 : Lp U := lpL [(0, lc60)]
theorem lp60_ok : ∀ c, Try.f60.body = some c → LpOk X (fun _ => none) an60 lp60 (loops c 0) := lpL_ok (by kernel_rfl) fun b L hm st p hs => by
  cases hm with
  | tail _ h => cases h
  | head =>
    obtain ⟨⟨m, l, n, v⟩, hx, ⟨h1, h2, rfl, rfl⟩, rfl⟩ := LC.of_some hs
    obtain rfl := dl60_ok hx
    obtain rfl := List.eq_nil_of_length_eq_zero h2
    exact ⟨_, rounds60 _ l h1 l.length [] 0 (Int.le_refl 0) (by omega)⟩
def dL82 (objs : List (TO U)) (args : List (TV U)) : Option (List R82) := match objs, args with
  | [], [a0] =>
    match a0 with
    | .lst .t82 l =>
      some l
    | _ => none
  | _, _ => none
theorem dL82_ok {objs : List (TO U)} {args : List (TV U)} {l : List R82} (h : dL82 objs args = some l) : objs = [] ∧ args = [.lst .t82 l] := by
  unfold dL82 at h
  repeat' split at h
  all_goals first | (cases h; done) | (cases h; exact ⟨rfl, rfl⟩)
theorem e60 (l : List R82) : evFn X (fun _ => none) an60 lp60 Try.f60 [] [.lst .t82 l] (fun o v => some (o, v)) = if Pre60 l 0 l.length 0 then some ([mO (mkM R82.Name id l 0 [])], .mp 0) else none := by kernel_rfl
def sNames : Spc U := .of dL82 (fun l => Sn l.length) (fun l => [mO (mkM R82.Name id l 0 [])]) fun _ => .mp 0
theorem sNames_ok : SpecOk Try.prog 60 sNames := by
  refine fn_ok X_ok mixed E0_ok an60 lp60 Try.func60 (by kernel_rfl) (by kernel_rfl) lp60_ok fun objs args l hx hp => ?_
  obtain ⟨rfl, rfl⟩ := dL82_ok hx
  rw [e60, if_pos ⟨hp, rfl, rfl, rfl⟩]
/-! ### Types -/
def S61 (l : List R82) (g : List Int) (v : Int) : TS U := mkS 19 [(3, nvl g 0), (6, .lst .t82 l), (7, .v (.int .i64 (l.length : Int))), (8, .v (.int .i64 v))] (rwI g) 0
def Z61 (g : List Int) : TS U := mkS 19 [(3, nvl g 0)] (rwI g) 0
theorem r61 (lp : Lp U) (l : List R82) (N : Nat) (g : List Int) (v : Int) : fnLoop X (fun _ => none) an61 lp Try.f61 0 N.succ (S61 l g v) = cond (decide (v < (l.length : Int))) ((getI l v).bind fun z => if (g.length + 1) * 8 ≤ 140737488355328 then fnLoop X (fun _ => none) an61 lp Try.f61 0 N (S61 l (g ++ [z.Type_]) (IntKind.i64.wrap (v + 1))) else none) (some (.exit 0, Z61 g)) := by
  cases g <;> kernel_rfl
def tyS (g : List Int) (z : R82) : List Int := g ++ [z.Type_]
theorem tyS_eq : ∀ (l : List R82) (g : List Int), l.foldl tyS g = g ++ l.map R82.Type_
  | [], g => by simp
  | x :: l, g => by rw [List.foldl_cons, tyS_eq l, tyS, List.map_cons, List.append_assoc]; rfl
theorem rounds61 (lp : Lp U) {l : List R82} (h : Sn l.length) : fnLoop X (fun _ => none) an61 lp Try.f61 0 (l.length + 1) (S61 l [] 0) = some (.exit 0, Z61 (l.map R82.Type_)) := by
  unfold Sn at h
  have := Ic.fold_rounds (fnl := fnLoop X (fun _ => none) an61 lp Try.f61 0) (fun g v => S61 l g v) (fun g => ((.exit 0, Z61 g) : Exit × TS U)) l (fun g v => (g.length : Int) = v) tyS (fun N g v z hI h0 h1 hz => by
    refine ⟨?_, by unfold tyS; rw [List.length_append]; simp only [List.length_singleton]; omega⟩
    rw [r61, decide_eq_true h1, hz, wrap_i64 (c := v + 1) (by omega) (by omega)]
    simp only [cond_true, Option.bind_some]
    rw [if_pos (by omega)]
    rfl) (fun N g v hI h1 => by rw [r61, decide_eq_false h1]; rfl) l.length [] 0 rfl (Int.le_refl 0) (by omega)
  rw [tyS_eq] at this
  exact this
def dl61 (s : TS U) : Option (List R82 × Int × Int) := match told s 19 [3, 6, 7, 8] 0, s.objs with
  | some [a0, a1, a2, a3], [] =>
    match a0 with
    | .v (.slice none 0 0) =>
      match a1 with
      | .lst .t82 l =>
        match a2 with
        | .v (.int .i64 n) =>
          match a3 with
          | .v (.int .i64 v) =>
            some (l, n, v)
          | _ => none
        | _ => none
      | _ => none
    | _ => none
  | _, _ => none
theorem dl61_ok {s : TS U} {l : List R82} {n : Int} {v : Int} (h : dl61 s = some (l, n, v)) : s = mkS (U := U) 19 ([3, 6, 7, 8].zip ([.v (.slice none 0 0), .lst .t82 l, .v (.int .i64 n), .v (.int .i64 v)] : List (TV U))) ([] : List (TO U)) 0 := by
  unfold dl61 at h
  split at h <;> try (cases h; done)
  rename_i ht ho
  have hs := told_ok ht
  rw [ho] at hs
  repeat' split at h
  all_goals first | (cases h; done) | (cases h; exact hs)
def Pre61 (l : List R82) (n v : Int) : Prop := Sn l.length ∧ n = l.length ∧ v = 0
instance (l : List R82) (n v : Int) : Decidable (Pre61 l n v) := by unfold Pre61; infer_instance
def lc61 : LC U := .ofG dl61 (fun (l, n, v) => Pre61 l n v) (fun (l, n, v) K => lsp (l.map R82.Type_) fun g => K (.exit 0) (Z61 g)) (fun _ => .exit 0) (fun (l, n, v) => Z61 (l.map R82.Type_)) fun (l, n, v) K => lsp_eq _ _
def lp61 : Lp U := lpL [(0, lc61)]
theorem lp61_ok : ∀ c, Try.f61.body = some c → LpOk X (fun _ => none) an61 lp61 (loops c 0) := lpL_ok (by kernel_rfl) fun b L hm st p hs => by
  cases hm with
  | tail _ h => cases h
  | head =>
    obtain ⟨⟨l, n, v⟩, hx, ⟨h1, rfl, rfl⟩, rfl⟩ := LC.ofG_some (fun x K => lsp_eq _ _) hs
    obtain rfl := dl61_ok hx
    exact ⟨_, rounds61 _ h1⟩
theorem e61 (l : List R82) : evFn X (fun _ => none) an61 lp61 Try.f61 [] [.lst .t82 l] (fun o v => some (o, wkL.f v)) = if Pre61 l l.length 0 then lsp (l.map R82.Type_) fun g => some ([], .lst .i64 g) else none := by kernel_rfl
def sTypes : Spc U := .of dL82 (fun l => Sn l.length) (fun _ => []) fun l => .lst .i64 (l.map R82.Type_)
theorem sTypes_ok : SpecOk Try.prog 61 sTypes := by
  refine fn_okw wkL X_ok mixed E0_ok an61 lp61 Try.func61 (by kernel_rfl) (by kernel_rfl) lp61_ok fun objs args l hx hp => ?_
  obtain ⟨rfl, rfl⟩ := dL82_ok hx
  refine (e61 l).trans ?_
  rw [if_pos ⟨hp, rfl, rfl⟩, lsp_eq]
def an28 : Ann := ⟨fun | 0 => 240518168590 | 2 => 8070450532247928844 | 4 => 1083197542445158272784662924 | 1014 => 1083197542445158272784662924 | 1025 => 8070450532247928844 | 1026 => 8070450532247928844 | _ => 0, fun | 0 => 14 | 2 => 12 | 4 => 8070450532247929228 | _ => 0, fun | 25 => [1008] | _ => [], false⟩
def Lg : FuncId → Option (Spc U)
  | 60 => some sNames
  | 61 => some sTypes
  | 62 => some sHereR
  | 63 => some sBlk
  | 64 => some (sPutP.wkA [.no, .no, wkI])
  | _ => none
theorem Lg_ok : ∀ f S, Lg f = some S → SpecOk Try.prog f S := fun f S hf => by
  unfold Lg at hf
  split at hf
  · cases hf; exact sNames_ok
  · cases hf; exact sTypes_ok
  · cases hf; exact sHereR_ok
  · cases hf; exact sBlk_ok
  · cases hf; exact sPutP_lib_ok
  · cases hf
end Go.Proofs.Ytpkgikchphgfaaa.Lw
/- The program's lowerer: the numbers of functions. -/
namespace Go.Proofs.Ytpkgikchphgfaaa.Lw
open Go Go.RowKit Go.Proofs.Ytpkgikchphgfaaa.Eng Go.Proofs.Ytpkgikchphgfaaa.Fl
set_option linter.unusedVariables false
set_option linter.unusedSimpArgs false
set_option maxRecDepth 20000
def trC (t : TR) : TO U := .cells [.lst .t82 t.G, .lst .t82 t.F, .lst .t90 t.N] false
def irZ : TO U := .cells [nl, nl, nl, nl, nl, .v (.int .i64 0)] false
def b0C (g f : List Int) (M : Int) : TO U := .cells [.lst .i64 g, .lst .i64 f, nl, nl, nl, .v (.int .i64 M), .mp 3, .mp 4, .mp 5, .v (.map none), .v (.int .i64 0)] false
def S28a (t : TR) (l : List R90) (g f : List Int) (a b m : Mp) (v : Int) : TS U := mkS 165 [(1, .ref 0 0 0), (2, .ref 1 0 0), (3, .ref 2 0 0), (35, .lst .t90 l), (36, .v (.int .i64 (l.length : Int))), (37, .v (.int .i64 v))] [trC t, irZ, b0C g f 0, mO a, mO b, mO m] 0
def Z28a (t : TR) (g f : List Int) (a b m : Mp) : Exit × TS U := (.exit 0, mkS 165 [(1, .ref 0 0 0), (2, .ref 1 0 0), (3, .ref 2 0 0)] [trC t, irZ, b0C g f 0, mO a, mO b, mO m] 0)
theorem r28a (lp : Lp U) (t : TR) (l : List R90) (g f : List Int) (a b m : Mp) (N : Nat) (v : Int) : fnLoop X Lg an28 lp Try.f28 0 N.succ (S28a t l g f a b m v) = cond (decide (v < (l.length : Int))) ((getI l v).bind fun z => fnLoop X Lg an28 lp Try.f28 0 N (S28a t l g f a b (aset keS m z.Name v) (IntKind.i64.wrap (v + 1)))) (some (Z28a t g f a b m)) := by kernel_rfl
theorem rounds28a (lp : Lp U) (t : TR) (l : List R90) (g f : List Int) (a b : Mp) (hl : l.length ≤ 3000000) : ∀ (n : Nat) (m : Mp) (v : Int), 0 ≤ v → (l.length : Int) ≤ v + n → fnLoop X Lg an28 lp Try.f28 0 (n + 1) (S28a t l g f a b m v) = some (Z28a t g f a b (mkM R90.Name id (l.drop v.toNat) v m)) := by
  intro n
  induction n with
  | zero =>
    intro m v h0 h1
    rw [r28a, decide_eq_false (by omega), List.drop_eq_nil_of_le (by omega), mkM]
    rfl
  | succ n ih =>
    intro m v h0 h1
    rw [r28a]
    by_cases hv : v < (l.length : Int)
    · obtain ⟨z, hz, hz2⟩ := getI_lt h0 hv
      have hw : IntKind.i64.wrap (v + 1) = v + 1 := wrap_i64 (by omega) (by omega)
      have hd : l.drop v.toNat = z :: l.drop (v.toNat + 1) := by
        rw [List.drop_eq_getElem_cons (by omega)]
        rw [List.getElem?_eq_getElem (by omega)] at hz2
        rw [Option.some.inj hz2]
      rw [decide_eq_true hv, hz, cond_true, Option.bind_some, hw, ih _ (v + 1) (by omega) (by omega), hd, mkM, show (v + 1).toNat = v.toNat + 1 by omega]
      rfl
    · rw [decide_eq_false hv, List.drop_eq_nil_of_le (by omega), mkM]
      rfl
def dl28a (s : TS U) : Option (List R82 × List R82 × List R90 × Int × List Int × List Int × Int × Int × List (ByteArray × Int) × List (ByteArray × Int) × List (ByteArray × Int) × List R90 × Int × Int) := match told s 165 [1, 2, 3, 35, 36, 37] 0, s.objs with
  | some [a0, a1, a2, a3, a4, a5], [o0, o1, o2, o3, o4, o5] =>
    match o0 with
    | .cells [q0, q1, q2] false =>
      match q0 with
      | .lst .t82 x1 =>
        match q1 with
        | .lst .t82 x2 =>
          match q2 with
          | .lst .t90 x3 =>
            match o1 with
            | .cells [q3, q4, q5, q6, q7, q8] false =>
              match q3 with
              | .v (.slice none 0 0) =>
                match q4 with
                | .v (.slice none 0 0) =>
                  match q5 with
                  | .v (.slice none 0 0) =>
                    match q6 with
                    | .v (.slice none 0 0) =>
                      match q7 with
                      | .v (.slice none 0 0) =>
                        match q8 with
                        | .v (.int .i64 z1) =>
                          match o2 with
                          | .cells [q9, q10, q11, q12, q13, q14, q15, q16, q17, q18, q19] false =>
                            match q9 with
                            | .lst .i64 g =>
                              match q10 with
                              | .lst .i64 f =>
                                match q11 with
                                | .v (.slice none 0 0) =>
                                  match q12 with
                                  | .v (.slice none 0 0) =>
                                    match q13 with
                                    | .v (.slice none 0 0) =>
                                      match q14 with
                                      | .v (.int .i64 z2) =>
                                        match q15 with
                                        | .mp 3 =>
                                          match q16 with
                                          | .mp 4 =>
                                            match q17 with
                                            | .mp 5 =>
                                              match q18 with
                                              | .v (.map none) =>
                                                match q19 with
                                                | .v (.int .i64 z3) =>
                                                  match o3 with
                                                  | .mp .m_str_i64 a false =>
                                                    match o4 with
                                                    | .mp .m_str_i64 b false =>
                                                      match o5 with
                                                      | .mp .m_str_i64 c false =>
                                                        match a0 with
                                                        | .ref 0 0 0 =>
                                                          match a1 with
                                                          | .ref 1 0 0 =>
                                                            match a2 with
                                                            | .ref 2 0 0 =>
                                                              match a3 with
                                                              | .lst .t90 l =>
                                                                match a4 with
                                                                | .v (.int .i64 n) =>
                                                                  match a5 with
                                                                  | .v (.int .i64 v) =>
                                                                    some (x1, x2, x3, z1, g, f, z2, z3, a, b, c, l, n, v)
                                                                  | _ => none
                                                                | _ => none
                                                              | _ => none
                                                            | _ => none
                                                          | _ => none
                                                        | _ => none
                                                      | _ => none
                                                    | _ => none
                                                  | _ => none
                                                | _ => none
                                              | _ => none
                                            | _ => none
                                          | _ => none
                                        | _ => none
                                      | _ => none
                                    | _ => none
                                  | _ => none
                                | _ => none
                              | _ => none
                            | _ => none
                          | _ => none
                        | _ => none
                      | _ => none
                    | _ => none
                  | _ => none
                | _ => none
              | _ => none
            | _ => none
          | _ => none
        | _ => none
      | _ => none
    | _ => none
  | _, _ => none
theorem dl28a_ok {s : TS U} {x1 : List R82} {x2 : List R82} {x3 : List R90} {z1 : Int} {g : List Int} {f : List Int} {z2 : Int} {z3 : Int} {a : List (ByteArray × Int)} {b : List (ByteArray × Int)} {c : List (ByteArray × Int)} {l : List R90} {n : Int} {v : Int} (h : dl28a s = some (x1, x2, x3, z1, g, f, z2, z3, a, b, c, l, n, v)) : s = mkS (U := U) 165 ([1, 2, 3, 35, 36, 37].zip ([.ref 0 0 0, .ref 1 0 0, .ref 2 0 0, .lst .t90 l, .v (.int .i64 n), .v (.int .i64 v)] : List (TV U))) ([.cells [.lst .t82 x1, .lst .t82 x2, .lst .t90 x3] false, .cells [.v (.slice none 0 0), .v (.slice none 0 0), .v (.slice none 0 0), .v (.slice none 0 0), .v (.slice none 0 0), .v (.int .i64 z1)] false, .cells [.lst .i64 g, .lst .i64 f, .v (.slice none 0 0), .v (.slice none 0 0), .v (.slice none 0 0), .v (.int .i64 z2), .mp 3, .mp 4, .mp 5, .v (.map none), .v (.int .i64 z3)] false, .mp .m_str_i64 a false, .mp .m_str_i64 b false, .mp .m_str_i64 c false] : List (TO U)) 0 := by
  unfold dl28a at h
  split at h <;> try (cases h; done)
  rename_i ht ho
  have hs := told_ok ht
  rw [ho] at hs
  repeat' split at h
  all_goals first | (cases h; done) | (cases h; exact hs)
def P28a (l c : Nat) (n v z1 z2 z3 : Int) : Prop := Sn l ∧ c = 0 ∧ n = l ∧ v = 0 ∧ z1 = 0 ∧ z2 = 0 ∧ z3 = 0
instance (l c : Nat) (n v z1 z2 z3 : Int) : Decidable (P28a l c n v z1 z2 z3) := by unfold P28a; infer_instance
def lc28a : LC U := .of dl28a (fun (x1, x2, x3, z1, g, f, z2, z3, a, b, c, l, n, v) => P28a l.length c.length n v z1 z2 z3) (.exit 0) (fun (x1, x2, x3, z1, g, f, z2, z3, a, b, c, l, n, v) => (Z28a ⟨x1, x2, x3⟩ g f a b (mkM R90.Name id l 0 [])).2)
theorem l28a_ok {lp : Lp U} {st : TS U} {p : Exit × TS U} (hs : lc28a.F st (fun e s => some (e, s)) = some p) : ∃ n, fnLoop X Lg an28 lp Try.f28 0 n st = some p := by
  obtain ⟨⟨x1, x2, x3, z1, g, f, z2, z3, a, b, c, l, n, v⟩, hx, ⟨h1, h2, rfl, rfl, rfl, rfl, rfl⟩, rfl⟩ := LC.of_some hs
  obtain rfl := dl28a_ok hx
  obtain rfl := List.eq_nil_of_length_eq_zero h2
  exact ⟨_, rounds28a lp ⟨x1, x2, x3⟩ l g f a b h1 l.length [] 0 (Int.le_refl 0) (by omega)⟩
end Go.Proofs.Ytpkgikchphgfaaa.Lw

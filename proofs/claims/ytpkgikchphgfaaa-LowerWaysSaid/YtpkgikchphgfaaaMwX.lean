/- Texts of this claim, put together: part 24. -/
import Derived.Test.YtpkgikchphgfaaaMwQ
import Derived.Test.YtpkgikchphgfaaaMwW
/- A program without a flaw: its variables are there, its names are told apart. -/
namespace Go.Proofs.Ytpkgikchphgfaaa.Lw
open Go Go.RowKit Go.Proofs.Ytpkgikchphgfaaa.Eng Go.Proofs.Ytpkgikchphgfaaa.Fl
set_option linter.unusedVariables false
set_option linter.unusedSimpArgs false
/-- A name is there. -/
def fd (V : List R82) (s : ByteArray) : Prop := 0 ≤ findD V s
theorem fail0 {c : CS} {k a : Int} (hk : k ≠ 0) (h : (c.fail k a).Code = 0) : False := by
  unfold CS.fail at h
  split at h
  · exact hk h
  · rename_i hc; exact hc h
theorem typ0 {c : CS} {l : List R82} {s : ByteArray} {a : Int} (h : (c.typ l s a).1.Code = 0) : c.Code = 0 ∧ fd l s := by
  unfold CS.typ at h
  by_cases hd : findD l s < 0
  · rw [decide_eq_true hd] at h
    exact (fail0 (by decide) h).elim
  · rw [decide_eq_false hd] at h
    exact ⟨h, by unfold fd; omega⟩
theorem want0 {c : CS} {x y a : Int} (h : (c.want x y a).Code = 0) : c.Code = 0 := by
  unfold CS.want at h
  cases hb : !decide (x = y) with
  | true => rw [hb] at h; exact (fail0 (by decide) h).elim
  | false => rw [hb] at h; exact h
theorem var0 {c : CS} {s : ByteArray} {y a : Int} (h : (c.var s y a).Code = 0) : c.Code = 0 ∧ fd c.V s := typ0 (want0 h)
theorem ixL_Z {len : Int} {step : CS → Int → CS} {Q : Int → Prop} {c0 : CS} (hlk : ∀ (d : CS) (v : Int), d.Lk (step d v)) (h : ∀ (d : CS) (v : Int), c0.Lk d → 0 ≤ v → v < len → (step d v).Code = 0 → d.Code = 0 ∧ Q v) :
    ∀ (N : Nat) (d : CS) (v : Int), c0.Lk d → 0 ≤ v → len ≤ v + N → (ixL len step N d v).Code = 0 → d.Code = 0 ∧ ∀ w, v ≤ w → w < len → Q w := by
  intro N
  induction N with
  | zero => intro d v hl h0 h1 hc; exact ⟨hc, fun w h2 h3 => by omega⟩
  | succ N ih =>
    intro d v hl h0 h1 hc
    unfold ixL at hc
    split at hc
    · rename_i hv
      obtain ⟨h2, h3⟩ := ih _ _ (hl.trans (hlk d v)) (by omega) (by omega) hc
      obtain ⟨h4, h5⟩ := h d v hl h0 hv h2
      refine ⟨h4, fun w hw hw2 => ?_⟩
      by_cases e : w = v
      · rw [e]; exact h5
      · exact h3 w (by omega) hw2
    · exact ⟨hc, fun w h2 h3 => by omega⟩
theorem mem_getI {α : Type} {l : List α} {x : α} (h : x ∈ l) : ∃ v : Int, 0 ≤ v ∧ v < (l.length : Int) ∧ getI l v = some x := by
  obtain ⟨i, hi⟩ := List.mem_iff_getElem?.1 h
  have := (List.getElem?_eq_some_iff.1 hi).1
  refine ⟨i, by omega, by omega, ?_⟩
  unfold getI
  rw [if_pos (by omega)]
  exact hi
theorem allT0 {l : List ByteArray} {a : Int} {c : CS} (h : (allT l a c).Code = 0) : c.Code = 0 ∧ ∀ s ∈ l, fd c.V s := by
  unfold allT at h
  obtain ⟨h1, h2⟩ := ixL_Z (Q := fun v => ∀ s, getI l v = some s → fd c.V s) (fun d v => argsT_lk _ _ _ _) (fun d v hl h0 hv hc => by
    unfold argsT at hc
    cases hg : getI l v with
    | none => rw [hg] at hc; exact ⟨hc, fun s hs => by cases hs⟩
    | some s =>
      rw [hg] at hc
      obtain ⟨h3, h4⟩ := typ0 hc
      rw [hl.V] at h4
      exact ⟨h3, fun s' hs => by cases hs; exact h4⟩) _ c 0 (.refl c) (Int.le_refl 0) (by omega) h
  refine ⟨h1, fun s hs => ?_⟩
  obtain ⟨v, v0, v1, hv⟩ := mem_getI hs
  exact h2 v v0 v1 s hv
theorem allV0 {l : List ByteArray} {ps : List R82} {a : Int} {c : CS} (hlen : ps.length = l.length) (h : (allV l ps a c).Code = 0) : c.Code = 0 ∧ ∀ s ∈ l, fd c.V s := by
  unfold allV at h
  obtain ⟨h1, h2⟩ := ixL_Z (Q := fun v => ∀ s, getI l v = some s → fd c.V s) (fun d v => argsV_lk _ _ _ _ _) (fun d v hl h0 hv hc => by
    unfold argsV at hc
    obtain ⟨s, hg, _⟩ := getI_lt h0 hv
    obtain ⟨p, hp, _⟩ := getI_lt (l := ps) h0 (by omega)
    rw [hg, hp] at hc
    obtain ⟨h3, h4⟩ := var0 hc
    rw [hl.V] at h4
    exact ⟨h3, fun s' hs => by rw [hg] at hs; cases hs; exact h4⟩) _ c 0 (.refl c) (Int.le_refl 0) (by omega) h
  refine ⟨h1, fun s hs => ?_⟩
  obtain ⟨v, v0, v1, hv⟩ := mem_getI hs
  exact h2 v v0 v1 s hv
/-- The variables of a call are there. -/
def cV (V : List R82) (e : R112) : Prop := (e.Kind = 11 → fd V e.A) ∧ ∀ s ∈ e.Args, fd V s
theorem call0 {c : CS} {e : R112} {a : Int} (h : (c.call e a).1.Code = 0) : c.Code = 0 ∧ cV c.V e := by
  unfold CS.call at h
  by_cases hk : e.Kind = 11
  · rw [decide_eq_true hk] at h
    have h : (allT e.Args a (c.var e.A 3 a)).Code = 0 := h
    obtain ⟨h1, h2⟩ := allT0 h
    obtain ⟨h3, h4⟩ := var0 h1
    have hV : (c.var e.A 3 a).V = c.V := (CS.Lk.var c e.A 3 a).V
    rw [hV] at h2
    exact ⟨h3, fun _ => h4, h2⟩
  · rw [decide_eq_false hk, cond_false] at h
    by_cases hf : fnI c.N e.A < 0
    · rw [decide_eq_true hf] at h
      exact (fail0 (by decide) h).elim
    · rw [decide_eq_false hf, cond_false] at h
      have hin := fnI_in c.N e.A
      obtain ⟨z, hz, _⟩ := getI_lt (l := c.N) (v := fnI c.N e.A) (by omega) (by omega)
      rw [hz] at h
      dsimp only at h
      by_cases hl : (z.Params.length : Int) = e.Args.length
      · rw [decide_eq_true hl] at h
        obtain ⟨h1, h2⟩ := allV0 (by omega) (show (allV e.Args z.Params a c).Code = 0 from h)
        exact ⟨h1, fun hk' => (hk hk').elim, h2⟩
      · rw [decide_eq_false hl] at h
        exact (fail0 (by decide) h).elim
/-- The variables of an expression are there. -/
def exV (V : List R82) (e : R112) : Prop := (e.Kind = 3 ∨ e.Kind = 5 ∨ e.Kind = 8 ∨ e.Kind = 9 → fd V e.A) ∧ (e.Kind = 8 → fd V e.B) ∧ (e.Kind = 10 ∨ e.Kind = 11 → cV V e)
theorem expr0 {c : CS} {e : R112} {m a : Int} (h : (c.expr e m a).Code = 0) : c.Code = 0 ∧ exV c.V e := by
  unfold CS.expr at h
  have no : ∀ {k : Int}, e.Kind = k → k ≠ 3 → k ≠ 5 → k ≠ 8 → k ≠ 9 → k ≠ 10 → k ≠ 11 → exV c.V e := fun hk h3 h5 h8 h9 h10 h11 => ⟨fun h => by omega, fun h => by omega, fun h => by omega⟩
  by_cases h2 : e.Kind = 2
  · rw [decide_eq_true h2] at h; exact ⟨want0 h, no h2 (by decide) (by decide) (by decide) (by decide) (by decide) (by decide)⟩
  rw [decide_eq_false h2, cond_false] at h
  by_cases h6 : e.Kind = 6
  · rw [decide_eq_true h6] at h; exact ⟨want0 h, no h6 (by decide) (by decide) (by decide) (by decide) (by decide) (by decide)⟩
  rw [decide_eq_false h6, cond_false] at h
  by_cases h3 : e.Kind = 3
  · rw [decide_eq_true h3] at h
    obtain ⟨a1, a2⟩ := typ0 (want0 (show ((c.typ c.V e.A a).1.want _ m a).Code = 0 from h))
    exact ⟨a1, fun _ => a2, fun h => by omega, fun h => by omega⟩
  rw [decide_eq_false h3, cond_false] at h
  by_cases h4 : e.Kind = 4
  · rw [decide_eq_true h4] at h
    obtain ⟨a1, a2⟩ := typ0 (want0 (show ((c.typ c.G e.A a).1.want _ m a).Code = 0 from h))
    exact ⟨a1, no h4 (by decide) (by decide) (by decide) (by decide) (by decide) (by decide)⟩
  rw [decide_eq_false h4, cond_false] at h
  by_cases h5 : e.Kind = 5
  · rw [decide_eq_true h5] at h
    obtain ⟨a1, _⟩ := typ0 (want0 (show (((c.var e.A 2 a).typ c.F e.B a).1.want _ m a).Code = 0 from h))
    obtain ⟨b1, b2⟩ := var0 a1
    exact ⟨b1, fun _ => b2, fun h => by omega, fun h => by omega⟩
  rw [decide_eq_false h5, cond_false] at h
  by_cases h7 : e.Kind = 7
  · rw [decide_eq_true h7, cond_true] at h
    refine ⟨?_, no h7 (by decide) (by decide) (by decide) (by decide) (by decide) (by decide)⟩
    cases hb : decide (fnI c.N e.A < 0) with
    | true => rw [hb] at h; exact (fail0 (by decide) (want0 h)).elim
    | false => rw [hb] at h; exact want0 h
  rw [decide_eq_false h7, cond_false] at h
  by_cases h8 : e.Kind = 8
  · rw [decide_eq_true h8] at h
    obtain ⟨a1, a2⟩ := var0 (want0 (show (((c.var e.A 1 a).var e.B 1 a).want 1 m a).Code = 0 from h))
    obtain ⟨b1, b2⟩ := var0 a1
    rw [(CS.Lk.var c e.A 1 a).V] at a2
    exact ⟨b1, fun _ => b2, fun _ => a2, fun h => by omega⟩
  rw [decide_eq_false h8, cond_false] at h
  by_cases h9 : e.Kind = 9
  · rw [decide_eq_true h9] at h
    obtain ⟨a1, a2⟩ := var0 (want0 (show ((c.var e.A 1 a).want 1 m a).Code = 0 from h))
    exact ⟨a1, fun _ => a2, fun h => by omega, fun h => by omega⟩
  rw [decide_eq_false h9, cond_false] at h
  by_cases h10 : e.Kind = 10
  · rw [decide_eq_true h10] at h
    obtain ⟨a1, a2⟩ := call0 (want0 (show ((c.call e a).1.want _ m a).Code = 0 from h))
    exact ⟨a1, fun h => by omega, fun h => by omega, fun _ => a2⟩
  rw [decide_eq_false h10, cond_false] at h
  by_cases h11 : e.Kind = 11
  · rw [decide_eq_true h11] at h
    obtain ⟨a1, a2⟩ := call0 (want0 (show ((c.call e a).1.want m m a).Code = 0 from h))
    exact ⟨a1, fun h => by omega, fun h => by omega, fun _ => a2⟩
  rw [decide_eq_false h11, cond_false] at h
  exact ⟨want0 h, fun h => by omega, fun h => by omega, fun h => by omega⟩
mutual
/-- The variables of a statement are there. -/
def stVr (V : List R82) : R114 → Prop
  | .mk k a to fi fr e b l => (k = 1 ∨ k = 3 → fd V to) ∧ (k = 2 ∨ k = 3 ∨ k = 4 ∨ k = 5 ∨ k = 6 ∨ k = 7 → fd V fr) ∧ (k = 10 → (fr.toList == (⟨#[]⟩ : ByteArray).toList) = false → fd V fr) ∧ (k = 1 → exV V e) ∧ (k = 8 ∨ k = 9 → cV V e) ∧ (k = 4 ∨ k = 5 → stVrL V b ∧ stVrL V l)
def stVrL (V : List R82) : List R114 → Prop
  | [] => True
  | x :: l => stVr V x ∧ stVrL V l
end
mutual
theorem stC0 : ∀ (z : R114) (c : CS), (stC z c).Code = 0 → c.Code = 0 ∧ stVr c.V z
  | .mk k a to fi fr e b l, c, h => by
    have hb := fun d => stCL0 b d
    have hl := fun d => stCL0 l d
    rw [stC] at h
    rw [stVr]
    by_cases h1 : k = 1
    · rw [decide_eq_true h1] at h
      obtain ⟨a1, a2⟩ := expr0 (show ((c.typ c.V to a).1.expr e (c.typ c.V to a).2 a).Code = 0 from h)
      rw [(CS.Lk.typ c c.V to a).V] at a2
      obtain ⟨b1, b2⟩ := typ0 a1
      exact ⟨b1, fun _ => b2, fun h => by omega, fun h => by omega, fun _ => a2, fun h => by omega, fun h => by omega⟩
    rw [decide_eq_false h1, cond_false] at h
    by_cases h2 : k = 2
    · rw [decide_eq_true h2] at h
      obtain ⟨a1, a2⟩ := var0 (show ((c.typ c.G to a).1.var fr (c.typ c.G to a).2 a).Code = 0 from h)
      rw [(CS.Lk.typ c c.G to a).V] at a2
      exact ⟨(typ0 a1).1, fun h => by omega, fun _ => a2, fun h => by omega, fun h => by omega, fun h => by omega, fun h => by omega⟩
    rw [decide_eq_false h2, cond_false] at h
    by_cases h3 : k = 3
    · rw [decide_eq_true h3] at h
      obtain ⟨a1, a2⟩ := var0 (show (((c.var to 2 a).typ c.F fi a).1.var fr ((c.var to 2 a).typ c.F fi a).2 a).Code = 0 from h)
      rw [((CS.Lk.var c to 2 a).trans (CS.Lk.typ (c.var to 2 a) c.F fi a)).V] at a2
      obtain ⟨b1, b2⟩ := var0 (typ0 a1).1
      exact ⟨b1, fun _ => b2, fun _ => a2, fun h => by omega, fun h => by omega, fun h => by omega, fun h => by omega⟩
    rw [decide_eq_false h3, cond_false] at h
    have blk : (stCL l (stCL b (c.var fr 1 a))).Code = 0 → c.Code = 0 ∧ fd c.V fr ∧ stVrL c.V b ∧ stVrL c.V l := fun h => by
      obtain ⟨a1, a2⟩ := hl _ h
      obtain ⟨b1, b2⟩ := hb _ a1
      obtain ⟨d1, d2⟩ := var0 b1
      rw [((CS.Lk.var c fr 1 a).trans (stCL_lk b _)).V] at a2
      rw [(CS.Lk.var c fr 1 a).V] at b2
      exact ⟨d1, d2, b2, a2⟩
    by_cases h4 : k = 4
    · rw [decide_eq_true h4] at h
      obtain ⟨a1, a2, a3⟩ := blk h
      exact ⟨a1, fun h => by omega, fun _ => a2, fun h => by omega, fun h => by omega, fun h => by omega, fun _ => a3⟩
    rw [decide_eq_false h4, cond_false] at h
    by_cases h5 : k = 5
    · rw [decide_eq_true h5] at h
      obtain ⟨a1, a2, a3⟩ := blk h
      exact ⟨a1, fun h => by omega, fun _ => a2, fun h => by omega, fun h => by omega, fun h => by omega, fun _ => a3⟩
    rw [decide_eq_false h5, cond_false] at h
    by_cases h6 : k = 6
    · rw [decide_eq_true h6] at h
      obtain ⟨a1, a2⟩ := var0 (show (c.var fr 2 a).Code = 0 from h)
      exact ⟨a1, fun h => by omega, fun _ => a2, fun h => by omega, fun h => by omega, fun h => by omega, fun h => by omega⟩
    rw [decide_eq_false h6, cond_false] at h
    by_cases h7 : k = 7
    · rw [decide_eq_true h7] at h
      obtain ⟨a1, a2⟩ := var0 (show (c.var fr 2 a).Code = 0 from h)
      exact ⟨a1, fun h => by omega, fun _ => a2, fun h => by omega, fun h => by omega, fun h => by omega, fun h => by omega⟩
    rw [decide_eq_false h7, cond_false] at h
    by_cases h8 : k = 8
    · rw [decide_eq_true h8] at h
      obtain ⟨a1, a2⟩ := call0 (show (c.call e a).1.Code = 0 from h)
      exact ⟨a1, fun h => by omega, fun h => by omega, fun h => by omega, fun h => by omega, fun _ => a2, fun h => by omega⟩
    rw [decide_eq_false h8, cond_false] at h
    by_cases h9 : k = 9
    · rw [decide_eq_true h9] at h
      obtain ⟨a1, a2⟩ := call0 (show (c.call e a).1.Code = 0 from h)
      exact ⟨a1, fun h => by omega, fun h => by omega, fun h => by omega, fun h => by omega, fun _ => a2, fun h => by omega⟩
    rw [decide_eq_false h9, cond_false] at h
    by_cases h10 : k = 10
    · rw [decide_eq_true h10, cond_true] at h
      cases he : (fr.toList == (⟨#[]⟩ : ByteArray).toList) with
      | true =>
        rw [he] at h
        exact ⟨want0 (show (c.want 0 c.Ret a).Code = 0 from h), fun h => by omega, fun h => by omega, fun _ h => (by cases h), fun h => by omega, fun h => by omega, fun h => by omega⟩
      | false =>
        rw [he] at h
        obtain ⟨a1, a2⟩ := typ0 (want0 (show ((c.typ c.V fr a).1.want (c.typ c.V fr a).2 (c.typ c.V fr a).1.Ret a).Code = 0 from h))
        exact ⟨a1, fun h => by omega, fun h => by omega, fun _ _ => a2, fun h => by omega, fun h => by omega, fun h => by omega⟩
    rw [decide_eq_false h10, cond_false] at h
    exact ⟨h, fun h => by omega, fun h => by omega, fun h => by omega, fun h => by omega, fun h => by omega, fun h => by omega⟩
theorem stCL0 : ∀ (l : List R114) (c : CS), (stCL l c).Code = 0 → c.Code = 0 ∧ stVrL c.V l
  | [], c, h => ⟨by rw [stCL] at h; exact h, by rw [stVrL]; trivial⟩
  | x :: l, c, h => by
    rw [stCL] at h
    obtain ⟨a1, a2⟩ := stCL0 l _ h
    obtain ⟨b1, b2⟩ := stC0 x c a1
    rw [(stC_lk x c).V] at a2
    exact ⟨b1, by rw [stVrL]; exact ⟨b2, a2⟩⟩
end
end Go.Proofs.Ytpkgikchphgfaaa.Lw
/- A program without a flaw: where its names stand. -/
namespace Go.Proofs.Ytpkgikchphgfaaa.Lw
open Go Go.RowKit Go.Proofs.Ytpkgikchphgfaaa.Eng Go.Proofs.Ytpkgikchphgfaaa.Fl
set_option linter.unusedVariables false
set_option linter.unusedSimpArgs false
/-- Names, one behind another, each with what it stands for. -/
def mkM {α : Type} (nm : α → ByteArray) (f : Int → Int) : List α → Int → List (ByteArray × Int) → List (ByteArray × Int)
  | [], _, m => m
  | x :: l, i, m => mkM nm f l (i + 1) (aset keS m (nm x) (f i))
section
variable {α : Type} {nm : α → ByteArray}
/-- Names are told apart. -/
def Dn (nm : α → ByteArray) (l : List α) : Prop := ∀ (i j : Nat) (x y : α), l[i]? = some x → l[j]? = some y → i < j → nm x ≠ nm y
/-- The place of a name, or -1. -/
def pl (nm : α → ByteArray) (l : List α) (s : ByteArray) : Int := upx nm l s (-1) (l.length + 1) 0
end
/-- A program in which no flaw was found. -/
structure Sound (t : TR) : Prop where
  g : Dn R82.Name t.G
  f : Dn R82.Name t.F
  n : Dn R90.Name t.N
  v : ∀ z ∈ t.N, Dn R82.Name ([] ++ z.Params ++ z.Vars) ∧ stVrL ([] ++ z.Params ++ z.Vars) z.Body
end Go.Proofs.Ytpkgikchphgfaaa.Lw
/- Numbers of a program that is read have 64 bits. -/
namespace Go.Proofs.Ytpkgikchphgfaaa.Ic
open Go Go.RowKit Go.Proofs.Ytpkgikchphgfaaa.Eng Go.Proofs.Ytpkgikchphgfaaa.Fl
set_option linter.unusedVariables false
set_option linter.unusedSimpArgs false
theorem R64.z : R64 0 := ⟨by decide, by decide⟩
theorem R64.small {x : Int} (h0 : -1 ≤ x) (h1 : x ≤ 4000000) : R64 x := ⟨by omega, by omega⟩
def TkR (t : R53) : Prop := R64 t.At ∧ R64 t.N ∧ t.S.size ≤ 100000
def PR (p : PS) : Prop := ∀ t ∈ p.L, TkR t
theorem getI_mem' {l : List R53} {v : Int} {x : R53} (h : getI l v = some x) : x ∈ l := by
  unfold getI at h
  by_cases hc : 0 ≤ v
  · rw [if_pos hc] at h
    exact List.mem_of_getElem? h
  · rw [if_neg hc] at h
    cases h
theorem PR.now {p : PS} (h : PR p) : TkR p.now := by
  unfold PS.now
  split
  · cases hg : getI p.L p.At with
    | none => exact ⟨R64.z, R64.z, Nat.zero_le _⟩
    | some t => exact h t (getI_mem' hg)
  · exact ⟨R64.z, R64.z, Nat.zero_le _⟩
theorem PR.next {p : PS} (h : PR p) : PR p.next := by unfold PS.next; split <;> exact h
theorem PR.fail {p : PS} (h : PR p) (c a : Int) : PR (p.fail c a) := by unfold PS.fail; split <;> exact h
theorem PR.most {p : PS} (h : PR p) (n m : Int) : PR (p.most n m) := by unfold PS.most; split; exact h.fail _ _; exact h
theorem PR.must {p : PS} (h : PR p) (s : ByteArray) : PR (p.must s) := by unfold PS.must; split; exact h.next; exact h.fail _ _
theorem PR.name {p : PS} (h : PR p) : PR p.name.1 := by unfold PS.name; split; exact h.next; exact h.fail _ _
theorem PR.nameS {p : PS} (h : PR p) : p.name.2.size ≤ 100000 := by unfold PS.name; split; exact h.now.2.2; exact Nat.zero_le _
theorem PR.cond {b : Bool} {p q : PS} (h : PR p) (h2 : PR q) : PR (cond b p q) := by cases b <;> assumption
theorem rfl3 (k : Int) (h : 0 ≤ k ∧ k ≤ 3) : 0 ≤ k ∧ k ≤ 3 := h
theorem PR.typ {p : PS} (h : PR p) : PR p.typ.1 ∧ 0 ≤ p.typ.2 ∧ p.typ.2 ≤ 3 := by
  unfold PS.typ
  cases p.is bInt with
  | true => exact ⟨h.next, rfl3 1 (by decide)⟩
  | false =>
    cases p.is bRef with
    | true => exact ⟨h.next, rfl3 2 (by decide)⟩
    | false =>
      cases p.is bFun with
      | true => exact ⟨h.next, rfl3 3 (by decide)⟩
      | false => exact ⟨h.fail _ _, rfl3 0 (by decide)⟩
def DR (d : R82) : Prop := R64 d.Type_ ∧ R64 d.At
theorem PR.decl {p : PS} (h : PR p) : PR p.decl.1 ∧ DR p.decl.2 := by
  have h1 := (h.name.must ⟨#[58]⟩).typ
  exact ⟨h1.1, R64.small (by have := h1.2.1; show -1 ≤ ((p.name.1.must ⟨#[58]⟩).typ.2 : Int); omega) (by have := h1.2.2; show ((p.name.1.must ⟨#[58]⟩).typ.2 : Int) ≤ _; omega), h.now.1⟩
theorem PR.argsL : ∀ (N : Nat) {q : PS} (out : List ByteArray), PR q → PR (argsL N q out).1 := by
  intro N
  induction N with
  | zero => intro q out h; exact h
  | succ N ih =>
    intro q out h
    unfold Fl.argsL
    cases decide (q.Code = 0) with
    | false => exact h
    | true =>
      cases !q.is ⟨#[41]⟩ with
      | false => exact h
      | true => exact ih _ (((PR.cond (h.must _) h).most _ _).name)
theorem PR.args {p : PS} (h : PR p) : PR p.args.1 := by
  unfold PS.args
  exact .cond (PR.argsL _ _ (h.must _)).next (PR.argsL _ _ (h.must _))
theorem PR.number {p : PS} (h : PR p) : PR p.number.1 ∧ R64 p.number.2.1 := by
  unfold PS.number
  cases p.is ⟨#[45]⟩ with
  | true =>
    cases !decide (p.next.now.Kind = 2) with
    | true => exact ⟨h.next.fail _ _, R64.z⟩
    | false => exact ⟨h.next.next, R64.of_wrap _⟩
  | false =>
    rw [cond_false]
    cases !decide (p.now.Kind = 2) with
    | true => exact ⟨h, R64.z⟩
    | false => exact ⟨h.next, h.now.2.1⟩
def ER (e : R112) : Prop := R64 e.Op ∧ R64 e.N ∧ (e.Args = [] ∨ e.Kind = 10 ∨ e.Kind = 11)
theorem ER.z {k : Int} {a b : ByteArray} : ER ⟨k, a, b, 0, 0, []⟩ := ⟨R64.z, R64.z, .inl rfl⟩
theorem ER.c {a b : ByteArray} {l : List ByteArray} : ER ⟨10, a, b, 0, 0, l⟩ := ⟨R64.z, R64.z, .inr (.inl rfl)⟩
theorem ER.d {a b : ByteArray} {l : List ByteArray} : ER ⟨11, a, b, 0, 0, l⟩ := ⟨R64.z, R64.z, .inr (.inr rfl)⟩
theorem PR.op {p : PS} (h : PR p) (s : ByteArray) (k : Int) (hk : R64 k) : PR (p.op s k).1 ∧ ER (p.op s k).2 := by
  unfold PS.op
  cases p.next.number.2.2 with
  | true => exact ⟨h.next.number.1, hk, h.next.number.2, .inl rfl⟩
  | false => exact ⟨h.next.name, hk, R64.z, .inl rfl⟩
theorem PR.bh {p : PS} (h : PR p) (s : ByteArray) : PR (p.bh s).1 ∧ ER (p.bh s).2 := by
  unfold PS.bh
  simp only [Bool.cond_eq_ite]
  repeat' split
  all_goals first | exact ⟨h.args, ER.c⟩ | exact ⟨h.next.name, ER.z⟩ | exact ⟨h, ER.z⟩ | exact h.op s _ ⟨by decide, by decide⟩
theorem PR.expr {p : PS} (h : PR p) : PR p.expr.1 ∧ ER p.expr.2 := by
  unfold PS.expr
  simp only [Bool.cond_eq_ite]
  repeat' split
  all_goals first | exact ⟨h.next, ER.z⟩ | exact ⟨h.next.name, ER.z⟩ | exact ⟨h.next.name.args, ER.d⟩ | exact h.next.bh _ | exact ⟨h.fail _ _, ER.z⟩ | exact ⟨h.number.1, R64.z, h.number.2, .inl rfl⟩
mutual
def SR : R114 → Prop
  | .mk k a to fi fr e b l => R64 a ∧ ER e ∧ SRL b ∧ SRL l ∧ (k ≠ 4 → l = []) ∧ (k ≠ 4 → k ≠ 5 → b = [])
def SRL : List R114 → Prop
  | [] => True
  | x :: l => SR x ∧ SRL l
end
theorem SRL.app : ∀ {l m : List R114}, SRL l → SRL m → SRL (l ++ m)
  | [], m, _, h => h
  | x :: l, m, h, h2 => by
    have h : SR x ∧ SRL l := h
    exact ⟨h.1, SRL.app h.2 h2⟩
theorem PR.called {p : PS} (h : PR p) (k : Int) {a : Int} (ha : R64 a) : PR (p.called k a).1 ∧ SR (p.called k a).2 := by
  unfold PS.called
  exact ⟨.cond (h.expr.1.fail _ _) h.expr.1, by rw [SR]; exact ⟨ha, h.expr.2, trivial, trivial, fun _ => rfl, fun _ _ => rfl⟩⟩
theorem PR.sets {p : PS} (h : PR p) {a : Int} (ha : R64 a) : PR (p.sets a).1 ∧ SR (p.sets a).2 := by
  unfold PS.sets
  have e0 : ER e0x := ER.z
  simp only [Bool.cond_eq_ite]
  repeat' split
  all_goals first | exact h.next.called 8 ha | exact h.called 9 ha | exact ⟨(h.next.name.must _).name, by rw [SR]; exact ⟨ha, e0, trivial, trivial, fun _ => rfl, fun _ _ => rfl⟩⟩ | exact ⟨(h.name.bh _).1, by rw [SR]; exact ⟨ha, (h.name.bh _).2, trivial, trivial, fun _ => rfl, fun _ _ => rfl⟩⟩ |
    exact ⟨(h.name.next.name.must _).name, by rw [SR]; exact ⟨ha, e0, trivial, trivial, fun _ => rfl, fun _ _ => rfl⟩⟩ | exact ⟨(h.name.must _).expr.1, by rw [SR]; exact ⟨ha, (h.name.must _).expr.2, trivial, trivial, fun _ => rfl, fun _ _ => rfl⟩⟩
theorem PR.stmtsL {st : PS → PS × R114} (hst : ∀ q, PR q → PR (st q).1 ∧ SR (st q).2) : ∀ (N : Nat) {q : PS} {out : List R114}, PR q → SRL out → PR (stmtsL st N q out).1 ∧ SRL (stmtsL st N q out).2 := by
  intro N
  induction N with
  | zero => intro q out h h2; exact ⟨h, h2⟩
  | succ N ih =>
    intro q out h h2
    unfold Fl.stmtsL
    cases decide (q.Code = 0) with
    | false => exact ⟨h, h2⟩
    | true =>
      cases !q.is ⟨#[125]⟩ with
      | false => exact ⟨h, h2⟩
      | true =>
        have h3 : PR (q.most q.Many 2048).mm := h.most _ _
        exact ih (hst _ h3).1 (h2.app ⟨(hst _ h3).2, trivial⟩)
theorem PR.stmtsW {st : PS → PS × R114} (hst : ∀ q, PR q → PR (st q).1 ∧ SR (st q).2) {p : PS} (h : PR p) : PR (stmtsW st p).1 ∧ SRL (stmtsW st p).2 := by
  have h1 := PR.stmtsL hst (p.left + 1) h (out := []) trivial
  exact ⟨.cond h1.1.next h1.1, h1.2⟩
theorem PR.stmtW {blk : PS → PS × List R114} (hb : ∀ q, PR q → PR (blk q).1 ∧ SRL (blk q).2) {p : PS} (h : PR p) : PR (stmtW blk p).1 ∧ SR (stmtW blk p).2 := by
  have ha := h.now.1
  have e0 : ER e0x := ER.z
  have hs := h.sets ha
  have h1 := hb _ h.next.name
  have h2 := hb _ h1.1.next
  unfold Fl.stmtW ifW
  simp only [Bool.cond_eq_ite]
  repeat' split
  all_goals first | exact ⟨h.next.name.must _, by rw [SR]; exact ⟨ha, e0, trivial, trivial, fun _ => rfl, fun _ _ => rfl⟩⟩ | exact ⟨h.next.must _, by rw [SR]; exact ⟨ha, e0, trivial, trivial, fun _ => rfl, fun _ _ => rfl⟩⟩ | exact ⟨hs.1.must _, hs.2⟩ | exact ⟨h1.1, by rw [SR]; exact ⟨ha, e0, h1.2, trivial, fun _ => rfl, fun h => absurd rfl h⟩⟩ | exact ⟨h1.1, by rw [SR]; exact ⟨ha, e0, h1.2, trivial, fun _ => rfl, fun _ h => absurd rfl h⟩⟩ | exact ⟨h2.1, by rw [SR]; exact ⟨ha, e0, h1.2, h2.2, fun h => absurd rfl h, fun h => absurd rfl h⟩⟩
theorem PR.blockN : ∀ (N : Nat) {p : PS}, PR p → PR (blockN N p).1 ∧ SRL (blockN N p).2 := by
  intro N
  induction N with
  | zero => intro p h; exact ⟨h, trivial⟩
  | succ N ih =>
    intro p h
    have h1 : PR ((p.must ⟨#[123]⟩).most (p.must ⟨#[123]⟩).Deep 64).up := (h.must _).most _ _
    have h2 := PR.stmtsW (fun q hq => PR.stmtW (fun q hq => ih hq) hq) h1
    exact h2
theorem PR.stmts {p : PS} (h : PR p) : PR p.stmts.1 ∧ SRL p.stmts.2 := PR.stmtsW (fun q hq => PR.stmtW (fun q hq => PR.blockN _ hq) hq) h
theorem PR.declsL : ∀ (N : Nat) {q : PS} {out : List R82}, PR q → (∀ d ∈ out, DR d) → PR (declsL N q out).1 ∧ ∀ d ∈ (declsL N q out).2, DR d := by
  intro N
  induction N with
  | zero => intro q out h h2; exact ⟨h, h2⟩
  | succ N ih =>
    intro q out h h2
    unfold Fl.declsL
    cases decide (q.Code = 0) with
    | false => exact ⟨h, h2⟩
    | true =>
      cases !q.is ⟨#[41]⟩ with
      | false => exact ⟨h, h2⟩
      | true =>
        have h3 := ((PR.cond (b := decide (0 < (out.length : Int))) (h.must ⟨#[44]⟩) h).most out.length 8).decl
        exact ih h3.1 fun d hd => by
          rcases List.mem_append.1 hd with hd | hd
          · exact h2 d hd
          · rw [List.mem_singleton.1 hd]; exact h3.2
theorem PR.varsL : ∀ (N : Nat) {q : PS} {out : List R82}, PR q → (∀ d ∈ out, DR d) → PR (varsL N q out).1 ∧ ∀ d ∈ (varsL N q out).2, DR d := by
  intro N
  induction N with
  | zero => intro q out h h2; exact ⟨h, h2⟩
  | succ N ih =>
    intro q out h h2
    unfold Fl.varsL
    cases q.is ⟨#[118, 97, 114]⟩ with
    | false => exact ⟨h, h2⟩
    | true =>
      have h3 := (h.next.most out.length 128).decl
      exact ih (h3.1.must _) fun d hd => by
        rcases List.mem_append.1 hd with hd | hd
        · exact h2 d hd
        · rw [List.mem_singleton.1 hd]; exact h3.2
def FR (f : R90) : Prop := f.Name.size ≤ 100000 ∧ R64 f.At ∧ R64 f.Ret ∧ (∀ d ∈ f.Params, DR d) ∧ (∀ d ∈ f.Vars, DR d) ∧ SRL f.Body
theorem PR.fn {p : PS} (h : PR p) {a : Int} (ha : R64 a) : PR (p.fn a).1 ∧ FR (p.fn a).2 := by
  have hA := PR.declsL ((p.name.1.must ⟨#[40]⟩).left + 1) (h.name.must ⟨#[40]⟩) (out := []) (fun d hd => by cases hd)
  have hB : PR (Fl.fnB p) := .cond hA.1.next hA.1
  have hC : PR (fnC p).1 ∧ R64 (fnC p).2 := by
    unfold fnC
    cases (Fl.fnB p).is ⟨#[58]⟩ with
    | true =>
      have ht := hB.next.typ
      exact ⟨ht.1, R64.small (by have := ht.2.1; show -1 ≤ ((Fl.fnB p).next.typ.2 : Int); omega) (by have := ht.2.2; show ((Fl.fnB p).next.typ.2 : Int) ≤ _; omega)⟩
    | false => exact ⟨hB, R64.z⟩
  have hD := PR.varsL (((fnC p).1.must ⟨#[123]⟩).left + 1) (hC.1.must ⟨#[123]⟩) (out := []) (fun d hd => by cases hd)
  have hS := PR.stmts (p := (fnD p).1) hD.1
  exact ⟨hS.1, h.nameS, ha, hC.2, hA.2, hD.2, hS.2⟩
/-! ### The words -/
end Go.Proofs.Ytpkgikchphgfaaa.Ic
/- What the program lowers is what the document lowers: statements. -/
namespace Go.Proofs.Ytpkgikchphgfaaa.Lw
open Go Go.RowKit Go.Proofs.Ytpkgikchphgfaaa.Eng Go.Proofs.Ytpkgikchphgfaaa.Fl
set_option linter.unusedVariables false
set_option linter.unusedSimpArgs false
/-- Names stand for the same. -/
structure Cor (s : LB) (b : BS) : Prop where
  fn : s.fn = b.Fn
  v : ∀ x, fd b.V x → s.v x = b.v x
  g : ∀ x, s.gl x = atP b.G x
  f : ∀ x, s.fl x = atP b.F x
  n : ∀ x, s.fu x = b.fnP x
theorem call_eq {s : LB} {b : BS} (h : Cor s b) {e : R112} (hv : cV b.V e) (op a : Int) : s.call op a e = b.call op a e := by
  have hm : e.Args.map s.v = ag79 b e.Args := by
    unfold ag79
    exact List.map_congr_left fun x hx => h.v x (hv.2 x hx)
  unfold LB.call BS.call
  rw [hm, h.n]
  by_cases hk : e.Kind = 11
  · rw [decide_eq_true hk, h.v _ (hv.1 hk)]
  · rw [decide_eq_false hk]; rfl
theorem set_eq {s : LB} {b : BS} (h : Cor s b) {e : R112} (hv : exV b.V e) (hk : e.Args = [] ∨ e.Kind = 10 ∨ e.Kind = 11) (a : Int) : s.set a e = b.set a e := by
  obtain ⟨v1, v2, v3⟩ := hv
  unfold LB.set BS.set
  by_cases h1 : e.Kind = 1
  · rw [decide_eq_true h1]; rfl
  by_cases h2 : e.Kind = 2
  · rw [decide_eq_false h1, decide_eq_true h2]; rfl
  by_cases h3 : e.Kind = 3
  · rw [decide_eq_false h1, decide_eq_false h2, decide_eq_true h3, h.v _ (v1 (.inl h3))]; rfl
  by_cases h4 : e.Kind = 4
  · rw [decide_eq_false h1, decide_eq_false h2, decide_eq_false h3, decide_eq_true h4, h.g]; rfl
  by_cases h5 : e.Kind = 5
  · rw [decide_eq_false h1, decide_eq_false h2, decide_eq_false h3, decide_eq_false h4, decide_eq_true h5, h.v _ (v1 (.inr (.inl h5))), h.f]; rfl
  by_cases h6 : e.Kind = 6
  · rw [decide_eq_false h1, decide_eq_false h2, decide_eq_false h3, decide_eq_false h4, decide_eq_false h5, decide_eq_true h6]; rfl
  by_cases h7 : e.Kind = 7
  · rw [decide_eq_false h1, decide_eq_false h2, decide_eq_false h3, decide_eq_false h4, decide_eq_false h5, decide_eq_false h6, decide_eq_true h7, h.n]; rfl
  by_cases h8 : e.Kind = 8
  · rw [decide_eq_false h1, decide_eq_false h2, decide_eq_false h3, decide_eq_false h4, decide_eq_false h5, decide_eq_false h6, decide_eq_false h7, decide_eq_true h8, h.v _ (v1 (.inr (.inr (.inl h8)))), h.v _ (v2 h8)]; rfl
  by_cases h9 : e.Kind = 9
  · rw [decide_eq_false h1, decide_eq_false h2, decide_eq_false h3, decide_eq_false h4, decide_eq_false h5, decide_eq_false h6, decide_eq_false h7, decide_eq_false h8, decide_eq_true h9, h.v _ (v1 (.inr (.inr (.inr h9))))]; rfl
  rw [decide_eq_false h1, decide_eq_false h2, decide_eq_false h3, decide_eq_false h4, decide_eq_false h5, decide_eq_false h6, decide_eq_false h7, decide_eq_false h8, decide_eq_false h9]
  simp only [cond_false]
  by_cases hkk : e.Kind = 10 ∨ e.Kind = 11
  · exact call_eq h (v3 hkk) 12 a
  · have ha : e.Args = [] := by
      rcases hk with hk | hk
      · exact hk
      · exact (hkk hk).elim
    exact call_eq h ⟨fun h11 => (hkk (.inr h11)).elim, fun x hx => by rw [ha] at hx; cases hx⟩ 12 a
theorem one_eq {s : LB} {b : BS} (h : Cor s b) : ∀ {z : R114}, stVr b.V z → Ic.SR z → s.one z = b.one z
  | .mk k a to fi fr e bd el, hv, hs => by
    rw [stVr] at hv
    rw [Ic.SR] at hs
    obtain ⟨v1, v2, v3, v4, v5, _⟩ := hv
    have he := hs.2.1.2.2
    unfold LB.one BS.one
    show cond (decide (k = 1)) (s.set (s.v to) e) _ = cond (decide (k = 1)) (b.set (b.v to) e) _
    by_cases h1 : k = 1
    · rw [decide_eq_true h1, h.v _ (v1 (.inl h1)), set_eq h (v4 h1) he]; rfl
    rw [decide_eq_false h1, cond_false, cond_false]
    show cond (decide (k = 2)) (ins3 9 (s.gl to) (s.v fr) 0 0 0) _ = cond (decide (k = 2)) (ins3 9 (atP b.G to) (b.v fr) 0 0 0) _
    by_cases h2 : k = 2
    · rw [decide_eq_true h2, h.g, h.v _ (v2 (.inl h2))]; rfl
    rw [decide_eq_false h2, cond_false, cond_false]
    show cond (decide (k = 3)) (ins3 11 (s.v to) (s.v fr) (s.fl fi) 0 0) _ = cond (decide (k = 3)) (ins3 11 (b.v to) (b.v fr) (atP b.F fi) 0 0) _
    by_cases h3 : k = 3
    · rw [decide_eq_true h3, h.f, h.v _ (v1 (.inr h3)), h.v _ (v2 (.inr (.inl h3)))]; rfl
    rw [decide_eq_false h3, cond_false, cond_false]
    show cond (decide (k = 6)) (ins3 14 (s.v fr) 0 0 0 0) _ = cond (decide (k = 6)) (ins3 14 (b.v fr) 0 0 0 0) _
    by_cases h6 : k = 6
    · rw [decide_eq_true h6, h.v _ (v2 (by omega))]; rfl
    rw [decide_eq_false h6, cond_false, cond_false]
    show cond (decide (k = 7)) (ins3 15 (s.v fr) 0 0 0 0) _ = cond (decide (k = 7)) (ins3 15 (b.v fr) 0 0 0 0) _
    by_cases h7 : k = 7
    · rw [decide_eq_true h7, h.v _ (v2 (by omega))]; rfl
    rw [decide_eq_false h7, cond_false, cond_false]
    show cond (decide (k = 8)) (s.call 13 (-1) e) _ = cond (decide (k = 8)) (b.call 13 (-1) e) _
    by_cases h8 : k = 8
    · rw [decide_eq_true h8, call_eq h (v5 (.inl h8))]; rfl
    rw [decide_eq_false h8, cond_false, cond_false]
    show cond (decide (k = 9)) (s.call 12 (-1) e) _ = cond (decide (k = 9)) (b.call 12 (-1) e) _
    by_cases h9 : k = 9
    · rw [decide_eq_true h9, call_eq h (v5 (.inr h9))]; rfl
    rw [decide_eq_false h9, cond_false, cond_false]
    show cond (decide (k = 10)) (cond (!(fr.toList == (⟨#[]⟩ : ByteArray).toList)) (ins3 16 (s.v fr) 0 0 0 0) (ins3 16 (-1) 0 0 0 0)) _ = cond (decide (k = 10)) (cond (fr.toList == (⟨#[]⟩ : ByteArray).toList) (ins3 16 (-1) 0 0 0 0) (ins3 16 (b.v fr) 0 0 0 0)) _
    by_cases h10 : k = 10
    · rw [decide_eq_true h10, cond_true, cond_true]
      cases hf : (fr.toList == (⟨#[]⟩ : ByteArray).toList) with
      | true => rfl
      | false => rw [h.v _ (v3 h10 hf)]; rfl
    rw [decide_eq_false h10]
    rfl
/-! ### Instructions, by where they begin -/
def at18 (s : LB) (a : Int) (fr : ByteArray) (x y : Nat) : R65 := ⟨s.fn, a, 18, s.v fr, x, y, 0, 0, []⟩
def at17 (s : LB) (a : Int) (x : Nat) : R65 := ⟨s.fn, a, 17, 0, x, 0, 0, 0, []⟩
mutual
def cdS (s : LB) : R114 → Nat → List R65
  | .mk k a to fi fr e b l, n => cond (decide (k = 4)) (cond (decide ((l.length : Int) = 0))
      (at18 s a fr (n + 1) (n + 1 + (cdL s b (n + 1)).length) :: cdL s b (n + 1))
      (at18 s a fr (n + 1) (n + 1 + (cdL s b (n + 1)).length + 1) :: (cdL s b (n + 1) ++ at17 s a (n + 1 + (cdL s b (n + 1)).length + 1 + (cdL s l (n + 1 + (cdL s b (n + 1)).length + 1)).length) :: cdL s l (n + 1 + (cdL s b (n + 1)).length + 1))))
    (cond (decide (k = 5)) (at18 s a fr (n + 1) (n + 1 + (cdL s b (n + 1)).length + 1) :: (cdL s b (n + 1) ++ [at17 s a n])) [atI s.fn a (s.one (.mk k a to fi fr e b l))])
def cdL (s : LB) : List R114 → Nat → List R65
  | [], n => []
  | x :: l, n => cdS s x n ++ cdL s l (n + (cdS s x n).length)
end
theorem setBx_at (C D : List R65) (x : R65) (v : Int) : setBx (C ++ x :: D) C.length v = C ++ { x with B := v } :: D := by
  unfold setBx
  rw [List.getElem?_append_right (Nat.le_refl _), Nat.sub_self]
  simp
theorem setCx_at (C D : List R65) (x : R65) (v : Int) : setCx (C ++ x :: D) C.length v = C ++ { x with C := v } :: D := by
  unfold setCx
  rw [List.getElem?_append_right (Nat.le_refl _), Nat.sub_self]
  simp
theorem hd_eq (s : LB) (a : Int) (fr : ByteArray) (C : List R65) : s.hd a fr C = C ++ [at18 s a fr (C.length + 1) 0] := by
  unfold LB.hd
  rw [setBx_at]
  rfl
mutual
theorem pS_cd (s : LB) : ∀ (z : R114) (C : List R65), pS s z C = C ++ cdS s z C.length
  | .mk k a to fi fr e b l, C => by
    have hb := pL_cd s b (s.hd a fr C)
    rw [hd_eq, List.length_append, List.length_singleton, List.append_assoc, List.singleton_append] at hb
    rw [pS, cdS]
    cases decide (k = 4) with
    | true =>
      rw [cond_true, cond_true]
      cases decide ((l.length : Int) = 0) with
      | true =>
        rw [cond_true, cond_true, hd_eq, hb, setCx_at, List.length_append, List.length_cons]
        unfold at18
        congr 3
        omega
      | false =>
        rw [cond_false, cond_false, hd_eq, hb]
        have hm : s.md a C.length (C ++ at18 s a fr (C.length + 1) 0 :: cdL s b (C.length + 1)) = C ++ at18 s a fr (C.length + 1) (C.length + 1 + (cdL s b (C.length + 1)).length + 1) :: (cdL s b (C.length + 1) ++ [at17 s a 0]) := by
          unfold LB.md
          rw [List.append_assoc, List.cons_append, setCx_at, List.length_append, List.length_cons]
          unfold at18 at17 atI ins3
          congr 3
          omega
        rw [hm]
        have hl := pL_cd s l (C ++ at18 s a fr (C.length + 1) (C.length + 1 + (cdL s b (C.length + 1)).length + 1) :: (cdL s b (C.length + 1) ++ [at17 s a 0]))
        rw [hl]
        have e1 : (C ++ at18 s a fr (C.length + 1) (C.length + 1 + (cdL s b (C.length + 1)).length + 1) :: (cdL s b (C.length + 1) ++ [at17 s a 0])).length = C.length + 1 + (cdL s b (C.length + 1)).length + 1 := by
          rw [List.length_append, List.length_cons, List.length_append, List.length_singleton]
          omega
        rw [e1]
        generalize cdL s l (C.length + 1 + (cdL s b (C.length + 1)).length + 1) = D
        have e2 : C ++ at18 s a fr (C.length + 1) (C.length + 1 + (cdL s b (C.length + 1)).length + 1) :: (cdL s b (C.length + 1) ++ [at17 s a 0]) ++ D = (C ++ at18 s a fr (C.length + 1) (C.length + 1 + (cdL s b (C.length + 1)).length + 1) :: cdL s b (C.length + 1)) ++ at17 s a 0 :: D := by
          simp
        have e3 : (C ++ at18 s a fr (C.length + 1) 0 :: cdL s b (C.length + 1)).length = (C ++ at18 s a fr (C.length + 1) (C.length + 1 + (cdL s b (C.length + 1)).length + 1) :: cdL s b (C.length + 1)).length := by
          rw [List.length_append, List.length_append, List.length_cons, List.length_cons]
        rw [e2, e3, setBx_at, List.append_assoc, List.cons_append]
        have e4 : ((C ++ at18 s a fr (C.length + 1) (C.length + 1 + (cdL s b (C.length + 1)).length + 1) :: cdL s b (C.length + 1)) ++ at17 s a 0 :: D).length = C.length + 1 + (cdL s b (C.length + 1)).length + 1 + D.length := by
          rw [List.length_append, List.length_append, List.length_cons, List.length_cons]
          omega
        rw [e4]
        rfl
    | false =>
      rw [cond_false, cond_false]
      cases decide (k = 5) with
      | true =>
        rw [cond_true, cond_true, hd_eq, hb]
        unfold LB.bk
        rw [List.append_assoc, List.cons_append, setCx_at, List.length_append, List.length_cons]
        unfold at18 at17 atI ins3
        congr 3
        omega
      | false => rfl
theorem pL_cd (s : LB) : ∀ (l : List R114) (C : List R65), pL s l C = C ++ cdL s l C.length
  | [], C => by rw [pL, cdL, List.append_nil]
  | x :: l, C => by
    rw [pL, cdL, pL_cd s l, pS_cd s x, List.length_append, List.append_assoc]
end
/-! ### The document's -/
mutual
theorem cdS_sz (s : LB) : ∀ (z : R114) (n : Nat), Ic.SR z → ((cdS s z n).length : Int) = szS z
  | .mk k a to fi fr e b l, n, hs => by
    rw [Ic.SR] at hs
    obtain ⟨_, _, s1, s2, s3, s4⟩ := hs
    have hb := fun m => cdL_sz s b m s1
    have hl := fun m => cdL_sz s l m s2
    rw [cdS, szS]
    by_cases h4 : k = 4
    · rw [decide_eq_true h4]
      simp only [cond_true, Bool.true_and]
      rw [decide_eq_false (show ¬ k = 5 by omega), Bool.false_or]
      by_cases hl0 : (l.length : Int) = 0
      · rw [decide_eq_true hl0, decide_eq_false (by omega), cond_true, cond_false, List.length_cons]
        have h1 := hb (n + 1)
        have h2 := hl 0
        have : szL l = 0 := by
          have : l = [] := List.eq_nil_of_length_eq_zero (by omega)
          rw [this, szL]
        omega
      · rw [decide_eq_false hl0, decide_eq_true (by omega), cond_true, cond_false, List.length_cons, List.length_append, List.length_cons]
        have h1 := hb (n + 1)
        have h2 := hl (n + 1 + (cdL s b (n + 1)).length + 1)
        omega
    · rw [decide_eq_false h4]
      have e2 : szL l = 0 := by rw [s3 h4, szL]
      by_cases h5 : k = 5
      · rw [decide_eq_true h5]
        simp only [cond_true, cond_false, Bool.true_or]
        rw [List.length_cons, List.length_append, List.length_singleton]
        have h1 := hb (n + 1)
        omega
      · rw [decide_eq_false h5]
        have e1 : szL b = 0 := by rw [s4 h4 h5, szL]
        simp only [cond_false, Bool.false_or, Bool.false_and]
        rw [List.length_singleton]
        omega
theorem cdL_sz (s : LB) : ∀ (l : List R114) (n : Nat), Ic.SRL l → ((cdL s l n).length : Int) = szL l
  | [], n, _ => by rw [cdL, szL]; rfl
  | x :: l, n, hs => by
    rw [Ic.SRL] at hs
    have h1 := cdS_sz s x n hs.1
    have h2 := cdL_sz s l (n + (cdS s x n).length) hs.2
    rw [cdL, szL, List.length_append]
    omega
end
theorem Cor.c {s : LB} {b : BS} (h : Cor s b) (C : List R65) : Cor s { b with C := C } := ⟨h.fn, h.v, h.g, h.f, h.n⟩
theorem put_eq (b : BS) (a : Int) (x : R65) : b.put a x = { b with C := b.C ++ [⟨b.Fn, a, x.Op, x.A, x.B, x.C, x.Do, x.N, x.Args⟩] } := by
  unfold BS.put
  rw [List.nil_append]
theorem here_eq {b : BS} {n : Nat} (h : b.First + b.C.length = (n : Int)) (hn : n ≤ 4000000) : b.here = n := by
  unfold BS.here
  rw [h]
  exact wrap_i64 (by omega) (by omega)
theorem wS {x : Int} {n : Nat} (h : x = n) (hn : n ≤ 40000000) : IntKind.i64.wrap x = n := by
  rw [h]
  exact wrap_i64 (by omega) (by omega)
mutual
theorem blS_cd {s : LB} : ∀ (z : R114) (b : BS) (n : Nat), Cor s b → stVr b.V z → Ic.SR z → b.First + b.C.length = (n : Int) → n + 2 * cntS z ≤ 3000000 → blS z b = { b with C := b.C ++ cdS s z n }
  | .mk k a to fi fr e bd l, b, n, hc, hv, hs, hn, hk => by
    have hone := one_eq hc hv hs
    rw [stVr] at hv
    rw [Ic.SR] at hs
    rw [cntS] at hk
    obtain ⟨v1, v2, v3, v4, v5, v6⟩ := hv
    obtain ⟨_, _, s1, s2, s3, s4⟩ := hs
    have hh := here_eq hn (by omega)
    have hzb := szL_le bd
    have hzl := szL_le l
    have hcb := cdL_sz s bd (n + 1) s1
    have hcl := cdL_sz s l (n + 1 + (cdL s bd (n + 1)).length + 1) s2
    have hB : ∀ x : R65, stVrL b.V bd → blL bd (b.put a x) = { b with C := b.C ++ ⟨b.Fn, a, x.Op, x.A, x.B, x.C, x.Do, x.N, x.Args⟩ :: cdL s bd (n + 1) } := fun x hvb => by
      have := blL_cd bd (b.put a x) (n + 1) (by rw [put_eq]; exact hc.c _) (by rw [put_eq]; exact hvb) s1 (by rw [put_eq]; show b.First + ((b.C ++ [_]).length : Int) = _; rw [List.length_append, List.length_singleton]; omega) (by omega)
      rw [this, put_eq]
      show ({ b with C := b.C ++ [_] ++ cdL s bd (n + 1) } : BS) = _
      rw [List.append_assoc, List.singleton_append]
    rw [blS, cdS]
    by_cases h4 : k = 4
    · rw [decide_eq_true h4, cond_true, cond_true]
      have hvf := hc.v fr (v2 (by omega))
      obtain ⟨vb, vl⟩ := v6 (.inl h4)
      have w1 : IntKind.i64.wrap (b.here + 1) = ((n + 1 : Nat) : Int) := wS (by rw [hh]; rfl) (by omega)
      have w2 : IntKind.i64.wrap (IntKind.i64.wrap (b.here + 1) + szL bd) = ((n + 1 + (cdL s bd (n + 1)).length : Nat) : Int) := by rw [w1]; exact wS (by omega) (by omega)
      by_cases hl0 : (l.length : Int) = 0
      · rw [decide_eq_true hl0, cond_true, cond_true, hB _ vb, w2, w1]
        unfold i18 ins3 at18
        rw [hvf, hc.fn]
      · rw [decide_eq_false hl0, cond_false, cond_false, hB _ vb, w2]
        have w3 : IntKind.i64.wrap (((n + 1 + (cdL s bd (n + 1)).length : Nat) : Int) + 1) = ((n + 1 + (cdL s bd (n + 1)).length + 1 : Nat) : Int) := wS rfl (by omega)
        have w4 : IntKind.i64.wrap (((n + 1 + (cdL s bd (n + 1)).length + 1 : Nat) : Int) + szL l) = ((n + 1 + (cdL s bd (n + 1)).length + 1 + (cdL s l (n + 1 + (cdL s bd (n + 1)).length + 1)).length : Nat) : Int) := wS (by omega) (by omega)
        rw [w1, w3, w4, put_eq]
        have hL : ∀ D : List R65, b.First + (D.length : Int) = ((n + 1 + (cdL s bd (n + 1)).length + 1 : Nat) : Int) → blL l ({ b with C := D } : BS) = { b with C := D ++ cdL s l (n + 1 + (cdL s bd (n + 1)).length + 1) } := fun D hD => blL_cd l _ _ (hc.c _) vl s2 hD (by omega)
        refine (hL (b.C ++ _ :: cdL s bd (n + 1) ++ [_]) (by
          rw [List.length_append, List.length_append, List.length_cons, List.length_singleton]
          omega)).trans ?_
        unfold i18 i17 ins3 at18 at17
        rw [hvf, hc.fn]
        simp
    · rw [decide_eq_false h4, cond_false, cond_false]
      by_cases h5 : k = 5
      · rw [decide_eq_true h5, cond_true, cond_true]
        have hvf := hc.v fr (v2 (by omega))
        obtain ⟨vb, vl⟩ := v6 (.inr h5)
        have w1 : IntKind.i64.wrap (b.here + 1) = ((n + 1 : Nat) : Int) := wS (by rw [hh]; rfl) (by omega)
        have w2 : IntKind.i64.wrap (IntKind.i64.wrap (b.here + 2) + szL bd) = ((n + 1 + (cdL s bd (n + 1)).length + 1 : Nat) : Int) := by
          rw [show IntKind.i64.wrap (b.here + 2) = ((n + 2 : Nat) : Int) from wS (by rw [hh]; rfl) (by omega)]
          exact wS (by omega) (by omega)
        rw [hB _ vb, w1, w2, put_eq, hh]
        unfold i18 i17 ins3 at18 at17
        rw [hvf, hc.fn]
        simp
      · rw [decide_eq_false h5, cond_false, cond_false, put_eq, hone, atI, hc.fn]
theorem blL_cd {s : LB} : ∀ (l : List R114) (b : BS) (n : Nat), Cor s b → stVrL b.V l → Ic.SRL l → b.First + b.C.length = (n : Int) → n + 2 * cntL l ≤ 3000000 → blL l b = { b with C := b.C ++ cdL s l n }
  | [], b, n, _, _, _, _, _ => by rw [blL, cdL, List.append_nil]
  | x :: l, b, n, hc, hv, hs, hn, hk => by
    rw [stVrL] at hv
    rw [Ic.SRL] at hs
    rw [cntL] at hk
    have hsz := cdS_sz s x n hs.1
    have hle := szS_le x
    rw [blL, cdL, blS_cd x b n hc hv.1 hs.1 hn (by omega)]
    have hL : ∀ D : List R65, b.First + (D.length : Int) = ((n + (cdS s x n).length : Nat) : Int) → blL l ({ b with C := D } : BS) = { b with C := D ++ cdL s l (n + (cdS s x n).length) } := fun D hD => blL_cd l _ _ (hc.c _) hv.2 hs.2 hD (by omega)
    refine (hL (b.C ++ cdS s x n) (by rw [List.length_append]; omega)).trans ?_
    rw [List.append_assoc]
end
end Go.Proofs.Ytpkgikchphgfaaa.Lw
/- The program's lowerer: names and types. -/
namespace Go.Proofs.Ytpkgikchphgfaaa.Lw
open Go Go.RowKit Go.Proofs.Ytpkgikchphgfaaa.Eng Go.Proofs.Ytpkgikchphgfaaa.Fl
set_option linter.unusedVariables false
set_option linter.unusedSimpArgs false
set_option maxRecDepth 20000
def an60 : Ann := ⟨fun | 0 => 904 | _ => 0, fun | 0 => 12 | _ => 0, fun _ => [], false⟩
def an61 : Ann := ⟨fun | 0 => 456 | _ => 0, fun | 0 => 12 | _ => 0, fun _ => [], false⟩
def S60 (l : List R82) (m : Mp) (v : Int) : TS U := mkS 20 [(3, .mp 0), (7, .lst .t82 l), (8, .v (.int .i64 (l.length : Int))), (9, .v (.int .i64 v))] [mO m] 0
def Z60 (m : Mp) : Exit × TS U := (.exit 0, mkS 20 [(3, .mp 0)] [mO m] 0)
theorem r60 (lp : Lp U) (l : List R82) (m : Mp) (N : Nat) (v : Int) : fnLoop X (fun _ => none) an60 lp Try.f60 0 N.succ (S60 l m v) = cond (decide (v < (l.length : Int))) ((getI l v).bind fun z => fnLoop X (fun _ => none) an60 lp Try.f60 0 N (S60 l (aset keS m z.Name v) (IntKind.i64.wrap (v + 1)))) (some (Z60 m)) := by kernel_rfl
theorem rounds60 (lp : Lp U) (l : List R82) (hl : l.length ≤ 3000000) : ∀ (n : Nat) (m : Mp) (v : Int), 0 ≤ v → (l.length : Int) ≤ v + n → fnLoop X (fun _ => none) an60 lp Try.f60 0 (n + 1) (S60 l m v) = some (Z60 (mkM R82.Name id (l.drop v.toNat) v m)) := by
  intro n
  induction n with
  | zero =>
    intro m v h0 h1
    rw [r60, decide_eq_false (by omega), List.drop_eq_nil_of_le (by omega), mkM]
    rfl
  | succ n ih =>
    intro m v h0 h1
    rw [r60]
    by_cases hv : v < (l.length : Int)
    · obtain ⟨z, hz, hz2⟩ := getI_lt h0 hv
      have hw : IntKind.i64.wrap (v + 1) = v + 1 := wrap_i64 (by omega) (by omega)
      have hd : l.drop v.toNat = z :: l.drop (v.toNat + 1) := by
        rw [List.drop_eq_getElem_cons (by omega)]
        rw [List.getElem?_eq_getElem (by omega)] at hz2
        rw [Option.some.inj hz2]
      rw [decide_eq_true hv, hz, cond_true, Option.bind_some, hw, ih _ (v + 1) (by omega) (by omega), hd, mkM, show (v + 1).toNat = v.toNat + 1 by omega]
      rfl
    · rw [decide_eq_false hv, List.drop_eq_nil_of_le (by omega), mkM]
      rfl
def dl60 (s : TS U) : Option (List (ByteArray × Int) × List R82 × Int × Int) := match told s 20 [3, 7, 8, 9] 0, s.objs with
  | some [a0, a1, a2, a3], [o0] =>
    match o0 with
    | .mp .m_str_i64 m false =>
      match a0 with
      | .mp 0 =>
        match a1 with
        | .lst .t82 l =>
          match a2 with
          | .v (.int .i64 n) =>
            match a3 with
            | .v (.int .i64 v) =>
              some (m, l, n, v)
            | _ => none
          | _ => none
        | _ => none
      | _ => none
    | _ => none
  | _, _ => none
theorem dl60_ok {s : TS U} {m : List (ByteArray × Int)} {l : List R82} {n : Int} {v : Int} (h : dl60 s = some (m, l, n, v)) : s = mkS (U := U) 20 ([3, 7, 8, 9].zip ([.mp 0, .lst .t82 l, .v (.int .i64 n), .v (.int .i64 v)] : List (TV U))) ([.mp .m_str_i64 m false] : List (TO U)) 0 := by
  unfold dl60 at h
  split at h <;> try (cases h; done)
  rename_i ht ho
  have hs := told_ok ht
  rw [ho] at hs
  repeat' split at h
  all_goals first | (cases h; done) | (cases h; exact hs)
def Pre60 (l : List R82) (m : Nat) (n v : Int) : Prop := Sn l.length ∧ m = 0 ∧ n = l.length ∧ v = 0
instance (l : List R82) (m : Nat) (n v : Int) : Decidable (Pre60 l m n v) := by unfold Pre60; infer_instance
def lc60 : LC U := .of dl60 (fun (m, l, n, v) => Pre60 l m.length n v) (.exit 0) (fun (m, l, n, v) => (Z60 (mkM R82.Name id l 0 [])).2)
def lp60 : Lp U := lpL [(0, lc60)]
theorem lp60_ok : ∀ c, Try.f60.body = some c → LpOk X (fun _ => none) an60 lp60 (loops c 0) := lpL_ok (by kernel_rfl) fun b L hm st p hs => by
  cases hm with
  | tail _ h => cases h
  | head =>
    obtain ⟨⟨m, l, n, v⟩, hx, ⟨h1, h2, rfl, rfl⟩, rfl⟩ := LC.of_some hs
    obtain rfl := dl60_ok hx
    obtain rfl := List.eq_nil_of_length_eq_zero h2
    exact ⟨_, rounds60 _ l h1 l.length [] 0 (Int.le_refl 0) (by omega)⟩
def dL82 (objs : List (TO U)) (args : List (TV U)) : Option (List R82) := match objs, args with
  | [], [a0] =>
    match a0 with
    | .lst .t82 l =>
      some l
    | _ => none
  | _, _ => none
theorem dL82_ok {objs : List (TO U)} {args : List (TV U)} {l : List R82} (h : dL82 objs args = some l) : objs = [] ∧ args = [.lst .t82 l] := by
  unfold dL82 at h
  repeat' split at h
  all_goals first | (cases h; done) | (cases h; exact ⟨rfl, rfl⟩)
theorem e60 (l : List R82) : evFn X (fun _ => none) an60 lp60 Try.f60 [] [.lst .t82 l] (fun o v => some (o, v)) = if Pre60 l 0 l.length 0 then some ([mO (mkM R82.Name id l 0 [])], .mp 0) else none := by kernel_rfl
def sNames : Spc U := .of dL82 (fun l => Sn l.length) (fun l => [mO (mkM R82.Name id l 0 [])]) fun _ => .mp 0
theorem sNames_ok : SpecOk Try.prog 60 sNames := by
  refine fn_ok X_ok mixed E0_ok an60 lp60 Try.func60 (by kernel_rfl) (by kernel_rfl) lp60_ok fun objs args l hx hp => ?_
  obtain ⟨rfl, rfl⟩ := dL82_ok hx
  rw [e60, if_pos ⟨hp, rfl, rfl, rfl⟩]
/-! ### Types -/
def S61 (l : List R82) (g : List Int) (v : Int) : TS U := mkS 19 [(3, nvl g 0), (6, .lst .t82 l), (7, .v (.int .i64 (l.length : Int))), (8, .v (.int .i64 v))] (rwI g) 0
def Z61 (g : List Int) : TS U := mkS 19 [(3, nvl g 0)] (rwI g) 0
theorem r61 (lp : Lp U) (l : List R82) (N : Nat) (g : List Int) (v : Int) : fnLoop X (fun _ => none) an61 lp Try.f61 0 N.succ (S61 l g v) = cond (decide (v < (l.length : Int))) ((getI l v).bind fun z => if (g.length + 1) * 8 ≤ 140737488355328 then fnLoop X (fun _ => none) an61 lp Try.f61 0 N (S61 l (g ++ [z.Type_]) (IntKind.i64.wrap (v + 1))) else none) (some (.exit 0, Z61 g)) := by
  cases g <;> kernel_rfl
def tyS (g : List Int) (z : R82) : List Int := g ++ [z.Type_]
theorem tyS_eq : ∀ (l : List R82) (g : List Int), l.foldl tyS g = g ++ l.map R82.Type_
  | [], g => by simp
  | x :: l, g => by rw [List.foldl_cons, tyS_eq l, tyS, List.map_cons, List.append_assoc]; rfl
theorem rounds61 (lp : Lp U) {l : List R82} (h : Sn l.length) : fnLoop X (fun _ => none) an61 lp Try.f61 0 (l.length + 1) (S61 l [] 0) = some (.exit 0, Z61 (l.map R82.Type_)) := by
  unfold Sn at h
  have := Ic.fold_rounds (fnl := fnLoop X (fun _ => none) an61 lp Try.f61 0) (fun g v => S61 l g v) (fun g => ((.exit 0, Z61 g) : Exit × TS U)) l (fun g v => (g.length : Int) = v) tyS (fun N g v z hI h0 h1 hz => by
    refine ⟨?_, by unfold tyS; rw [List.length_append]; simp only [List.length_singleton]; omega⟩
    rw [r61, decide_eq_true h1, hz, wrap_i64 (c := v + 1) (by omega) (by omega)]
    simp only [cond_true, Option.bind_some]
    rw [if_pos (by omega)]
    rfl) (fun N g v hI h1 => by rw [r61, decide_eq_false h1]; rfl) l.length [] 0 rfl (Int.le_refl 0) (by omega)
  rw [tyS_eq] at this
  exact this
def dl61 (s : TS U) : Option (List R82 × Int × Int) := match told s 19 [3, 6, 7, 8] 0, s.objs with
  | some [a0, a1, a2, a3], [] =>
    match a0 with
    | .v (.slice none 0 0) =>
      match a1 with
      | .lst .t82 l =>
        match a2 with
        | .v (.int .i64 n) =>
          match a3 with
          | .v (.int .i64 v) =>
            some (l, n, v)
          | _ => none
        | _ => none
      | _ => none
    | _ => none
  | _, _ => none
theorem dl61_ok {s : TS U} {l : List R82} {n : Int} {v : Int} (h : dl61 s = some (l, n, v)) : s = mkS (U := U) 19 ([3, 6, 7, 8].zip ([.v (.slice none 0 0), .lst .t82 l, .v (.int .i64 n), .v (.int .i64 v)] : List (TV U))) ([] : List (TO U)) 0 := by
  unfold dl61 at h
  split at h <;> try (cases h; done)
  rename_i ht ho
  have hs := told_ok ht
  rw [ho] at hs
  repeat' split at h
  all_goals first | (cases h; done) | (cases h; exact hs)
def Pre61 (l : List R82) (n v : Int) : Prop := Sn l.length ∧ n = l.length ∧ v = 0
instance (l : List R82) (n v : Int) : Decidable (Pre61 l n v) := by unfold Pre61; infer_instance
def lc61 : LC U := .ofG dl61 (fun (l, n, v) => Pre61 l n v) (fun (l, n, v) K => lsp (l.map R82.Type_) fun g => K (.exit 0) (Z61 g)) (fun _ => .exit 0) (fun (l, n, v) => Z61 (l.map R82.Type_)) fun (l, n, v) K => lsp_eq _ _
def lp61 : Lp U := lpL [(0, lc61)]
theorem lp61_ok : ∀ c, Try.f61.body = some c → LpOk X (fun _ => none) an61 lp61 (loops c 0) := lpL_ok (by kernel_rfl) fun b L hm st p hs => by
  cases hm with
  | tail _ h => cases h
  | head =>
    obtain ⟨⟨l, n, v⟩, hx, ⟨h1, rfl, rfl⟩, rfl⟩ := LC.ofG_some (fun x K => lsp_eq _ _) hs
    obtain rfl := dl61_ok hx
    exact ⟨_, rounds61 _ h1⟩
theorem e61 (l : List R82) : evFn X (fun _ => none) an61 lp61 Try.f61 [] [.lst .t82 l] (fun o v => some (o, wkL.f v)) = if Pre61 l l.length 0 then lsp (l.map R82.Type_) fun g => some ([], .lst .i64 g) else none := by kernel_rfl
def sTypes : Spc U := .of dL82 (fun l => Sn l.length) (fun _ => []) fun l => .lst .i64 (l.map R82.Type_)
theorem sTypes_ok : SpecOk Try.prog 61 sTypes := by
  refine fn_okw wkL X_ok mixed E0_ok an61 lp61 Try.func61 (by kernel_rfl) (by kernel_rfl) lp61_ok fun objs args l hx hp => ?_
  obtain ⟨rfl, rfl⟩ := dL82_ok hx
  refine (e61 l).trans ?_
  rw [if_pos ⟨hp, rfl, rfl⟩, lsp_eq]
def an28 : Ann := ⟨fun | 0 => 240518168590 | 2 => 8070450532247928844 | 4 => 1083197542445158272784662924 | 1014 => 1083197542445158272784662924 | 1025 => 8070450532247928844 | 1026 => 8070450532247928844 | _ => 0, fun | 0 => 14 | 2 => 12 | 4 => 8070450532247929228 | _ => 0, fun | 25 => [1008] | _ => [], false⟩
def Lg : FuncId → Option (Spc U)
  | 60 => some sNames
  | 61 => some sTypes
  | 62 => some sHereR
  | 63 => some sBlk
  | 64 => some (sPutP.wkA [.no, .no, wkI])
  | _ => none
theorem Lg_ok : ∀ f S, Lg f = some S → SpecOk Try.prog f S := fun f S hf => by
  unfold Lg at hf
  split at hf
  · cases hf; exact sNames_ok
  · cases hf; exact sTypes_ok
  · cases hf; exact sHereR_ok
  · cases hf; exact sBlk_ok
  · cases hf; exact sPutP_lib_ok
  · cases hf
end Go.Proofs.Ytpkgikchphgfaaa.Lw
/- The program's lowerer: the numbers of functions. -/
namespace Go.Proofs.Ytpkgikchphgfaaa.Lw
open Go Go.RowKit Go.Proofs.Ytpkgikchphgfaaa.Eng Go.Proofs.Ytpkgikchphgfaaa.Fl
set_option linter.unusedVariables false
set_option linter.unusedSimpArgs false
set_option maxRecDepth 20000
def trC (t : TR) : TO U := .cells [.lst .t82 t.G, .lst .t82 t.F, .lst .t90 t.N] false
def irZ : TO U := .cells [nl, nl, nl, nl, nl, .v (.int .i64 0)] false
def b0C (g f : List Int) (M : Int) : TO U := .cells [.lst .i64 g, .lst .i64 f, nl, nl, nl, .v (.int .i64 M), .mp 3, .mp 4, .mp 5, .v (.map none), .v (.int .i64 0)] false
def S28a (t : TR) (l : List R90) (g f : List Int) (a b m : Mp) (v : Int) : TS U := mkS 165 [(1, .ref 0 0 0), (2, .ref 1 0 0), (3, .ref 2 0 0), (35, .lst .t90 l), (36, .v (.int .i64 (l.length : Int))), (37, .v (.int .i64 v))] [trC t, irZ, b0C g f 0, mO a, mO b, mO m] 0
def Z28a (t : TR) (g f : List Int) (a b m : Mp) : Exit × TS U := (.exit 0, mkS 165 [(1, .ref 0 0 0), (2, .ref 1 0 0), (3, .ref 2 0 0)] [trC t, irZ, b0C g f 0, mO a, mO b, mO m] 0)
theorem r28a (lp : Lp U) (t : TR) (l : List R90) (g f : List Int) (a b m : Mp) (N : Nat) (v : Int) : fnLoop X Lg an28 lp Try.f28 0 N.succ (S28a t l g f a b m v) = cond (decide (v < (l.length : Int))) ((getI l v).bind fun z => fnLoop X Lg an28 lp Try.f28 0 N (S28a t l g f a b (aset keS m z.Name v) (IntKind.i64.wrap (v + 1)))) (some (Z28a t g f a b m)) := by kernel_rfl
theorem rounds28a (lp : Lp U) (t : TR) (l : List R90) (g f : List Int) (a b : Mp) (hl : l.length ≤ 3000000) : ∀ (n : Nat) (m : Mp) (v : Int), 0 ≤ v → (l.length : Int) ≤ v + n → fnLoop X Lg an28 lp Try.f28 0 (n + 1) (S28a t l g f a b m v) = some (Z28a t g f a b (mkM R90.Name id (l.drop v.toNat) v m)) := by
  intro n
  induction n with
  | zero =>
    intro m v h0 h1
    rw [r28a, decide_eq_false (by omega), List.drop_eq_nil_of_le (by omega), mkM]
    rfl
  | succ n ih =>
    intro m v h0 h1
    rw [r28a]
    by_cases hv : v < (l.length : Int)
    · obtain ⟨z, hz, hz2⟩ := getI_lt h0 hv
      have hw : IntKind.i64.wrap (v + 1) = v + 1 := wrap_i64 (by omega) (by omega)
      have hd : l.drop v.toNat = z :: l.drop (v.toNat + 1) := by
        rw [List.drop_eq_getElem_cons (by omega)]
        rw [List.getElem?_eq_getElem (by omega)] at hz2
        rw [Option.some.inj hz2]
      rw [decide_eq_true hv, hz, cond_true, Option.bind_some, hw, ih _ (v + 1) (by omega) (by omega), hd, mkM, show (v + 1).toNat = v.toNat + 1 by omega]
      rfl
    · rw [decide_eq_false hv, List.drop_eq_nil_of_le (by omega), mkM]
      rfl
def dl28a (s : TS U) : Option (List R82 × List R82 × List R90 × Int × List Int × List Int × Int × Int × List (ByteArray × Int) × List (ByteArray × Int) × List (ByteArray × Int) × List R90 × Int × Int) := match told s 165 [1, 2, 3, 35, 36, 37] 0, s.objs with
  | some [a0, a1, a2, a3, a4, a5], [o0, o1, o2, o3, o4, o5] =>
    match o0 with
    | .cells [q0, q1, q2] false =>
      match q0 with
      | .lst .t82 x1 =>
        match q1 with
        | .lst .t82 x2 =>
          match q2 with
          | .lst .t90 x3 =>
            match o1 with
            | .cells [q3, q4, q5, q6, q7, q8] false =>
              match q3 with
              | .v (.slice none 0 0) =>
                match q4 with
                | .v (.slice none 0 0) =>
                  match q5 with
                  | .v (.slice none 0 0) =>
                    match q6 with
                    | .v (.slice none 0 0) =>
                      match q7 with
                      | .v (.slice none 0 0) =>
                        match q8 with
                        | .v (.int .i64 z1) =>
                          match o2 with
                          | .cells [q9, q10, q11, q12, q13, q14, q15, q16, q17, q18, q19] false =>
                            match q9 with
                            | .lst .i64 g =>
                              match q10 with
                              | .lst .i64 f =>
                                match q11 with
                                | .v (.slice none 0 0) =>
                                  match q12 with
                                  | .v (.slice none 0 0) =>
                                    match q13 with
                                    | .v (.slice none 0 0) =>
                                      match q14 with
                                      | .v (.int .i64 z2) =>
                                        match q15 with
                                        | .mp 3 =>
                                          match q16 with
                                          | .mp 4 =>
                                            match q17 with
                                            | .mp 5 =>
                                              match q18 with
                                              | .v (.map none) =>
                                                match q19 with
                                                | .v (.int .i64 z3) =>
                                                  match o3 with
                                                  | .mp .m_str_i64 a false =>
                                                    match o4 with
                                                    | .mp .m_str_i64 b false =>
                                                      match o5 with
                                                      | .mp .m_str_i64 c false =>
                                                        match a0 with
                                                        | .ref 0 0 0 =>
                                                          match a1 with
                                                          | .ref 1 0 0 =>
                                                            match a2 with
                                                            | .ref 2 0 0 =>
                                                              match a3 with
                                                              | .lst .t90 l =>
                                                                match a4 with
                                                                | .v (.int .i64 n) =>
                                                                  match a5 with
                                                                  | .v (.int .i64 v) =>
                                                                    some (x1, x2, x3, z1, g, f, z2, z3, a, b, c, l, n, v)
                                                                  | _ => none
                                                                | _ => none
                                                              | _ => none
                                                            | _ => none
                                                          | _ => none
                                                        | _ => none
                                                      | _ => none
                                                    | _ => none
                                                  | _ => none
                                                | _ => none
                                              | _ => none
                                            | _ => none
                                          | _ => none
                                        | _ => none
                                      | _ => none
                                    | _ => none
                                  | _ => none
                                | _ => none
                              | _ => none
                            | _ => none
                          | _ => none
                        | _ => none
                      | _ => none
                    | _ => none
                  | _ => none
                | _ => none
              | _ => none
            | _ => none
          | _ => none
        | _ => none
      | _ => none
    | _ => none
  | _, _ => none
theorem dl28a_ok {s : TS U} {x1 : List R82} {x2 : List R82} {x3 : List R90} {z1 : Int} {g : List Int} {f : List Int} {z2 : Int} {z3 : Int} {a : List (ByteArray × Int)} {b : List (ByteArray × Int)} {c : List (ByteArray × Int)} {l : List R90} {n : Int} {v : Int} (h : dl28a s = some (x1, x2, x3, z1, g, f, z2, z3, a, b, c, l, n, v)) : s = mkS (U := U) 165 ([1, 2, 3, 35, 36, 37].zip ([.ref 0 0 0, .ref 1 0 0, .ref 2 0 0, .lst .t90 l, .v (.int .i64 n), .v (.int .i64 v)] : List (TV U))) ([.cells [.lst .t82 x1, .lst .t82 x2, .lst .t90 x3] false, .cells [.v (.slice none 0 0), .v (.slice none 0 0), .v (.slice none 0 0), .v (.slice none 0 0), .v (.slice none 0 0), .v (.int .i64 z1)] false, .cells [.lst .i64 g, .lst .i64 f, .v (.slice none 0 0), .v (.slice none 0 0), .v (.slice none 0 0), .v (.int .i64 z2), .mp 3, .mp 4, .mp 5, .v (.map none), .v (.int .i64 z3)] false, .mp .m_str_i64 a false, .mp .m_str_i64 b false, .mp .m_str_i64 c false] : List (TO U)) 0 := by
  unfold dl28a at h
  split at h <;> try (cases h; done)
  rename_i ht ho
  have hs := told_ok ht
  rw [ho] at hs
  repeat' split at h
  all_goals first | (cases h; done) | (cases h; exact hs)
def P28a (l c : Nat) (n v z1 z2 z3 : Int) : Prop := Sn l ∧ c = 0 ∧ n = l ∧ v = 0 ∧ z1 = 0 ∧ z2 = 0 ∧ z3 = 0
instance (l c : Nat) (n v z1 z2 z3 : Int) : Decidable (P28a l c n v z1 z2 z3) := by unfold P28a; infer_instance
def lc28a : LC U := .of dl28a (fun (x1, x2, x3, z1, g, f, z2, z3, a, b, c, l, n, v) => P28a l.length c.length n v z1 z2 z3) (.exit 0) (fun (x1, x2, x3, z1, g, f, z2, z3, a, b, c, l, n, v) => (Z28a ⟨x1, x2, x3⟩ g f a b (mkM R90.Name id l 0 [])).2)
theorem l28a_ok {lp : Lp U} {st : TS U} {p : Exit × TS U} (hs : lc28a.F st (fun e s => some (e, s)) = some p) : ∃ n, fnLoop X Lg an28 lp Try.f28 0 n st = some p := by
  obtain ⟨⟨x1, x2, x3, z1, g, f, z2, z3, a, b, c, l, n, v⟩, hx, ⟨h1, h2, rfl, rfl, rfl, rfl, rfl⟩, rfl⟩ := LC.of_some hs
  obtain rfl := dl28a_ok hx
  obtain rfl := List.eq_nil_of_length_eq_zero h2
  exact ⟨_, rounds28a lp ⟨x1, x2, x3⟩ l g f a b h1 l.length [] 0 (Int.le_refl 0) (by omega)⟩
end Go.Proofs.Ytpkgikchphgfaaa.Lw

/- Texts of this claim, put together: part 8. -/
import Derived.Test.YtpkgikchphgfaaaMlG
/- The references' parser: programs. -/
namespace Go.Proofs.Ytpkgikchphgfaaa.Fl
open Go Go.RowKit Go.Proofs.Ytpkgikchphgfaaa.Eng
set_option linter.unusedVariables false
set_option linter.unusedSimpArgs false
set_option maxRecDepth 20000
noncomputable def Em : FuncId → Option (Spc U)
  | 41 => some sLex
  | 46 => some sDecl
  | 48 => some sFn
  | f => Ed f
theorem Em_ok : ∀ f S, Em f = some S → SpecOk Try.prog f S := fun f S h => by
  unfold Em at h
  split at h
  · cases h; exact sLex_ok
  · cases h; exact sDecl_ok
  · cases h; exact sFn_ok
  · exact Ed_ok _ _ h
def an34 : Ann := ⟨fun | 0 => 204 | _ => 0, fun | 0 => 204 | _ => 0, fun _ => [], false⟩
def nvl {α : Type} (g : List α) (k : Nat) : TV U := match g with
  | [] => nl
  | _ :: _ => .full k
def nne {α : Type} (g : List α) : Nat := match g with
  | [] => 0
  | _ :: _ => 1
def rw82 : List R82 → List (TO U)
  | [] => []
  | x :: l => [.row .t82 (x :: l) false]
def rw90 : List R90 → List (TO U)
  | [] => []
  | x :: l => [.row .t90 (x :: l) false]
def S34 (q : PS) (g f : List R82) (n : List R90) : TS U := mkS 116 [(2, .ref 0 0 0), (3, .ref 1 0 0), (6, .ref 2 0 0), (7, .ref 3 0 0)] ([.cells [nl, nl, nl] false, .cells [.v (.int .i64 0), .v (.int .i64 0)] false, q.ob, .cells [nvl g 4, nvl f (4 + nne g), nvl n (4 + nne g + nne f)] false] ++ (rw82 g ++ (rw82 f ++ rw90 n))) 0
theorem r34 (lp : Lp U) (N : Nat) (q : PS) (g f : List R82) (n : List R90) : fnLoop X Em an34 lp Try.f21 0 N.succ (S34 q g f n) =
    cond (decide (q.Code = 0)) (if q.Ok then cond (!decide (q.now.Kind = 0)) (if q.Ok then (if q.Ok then cond (q.is ⟨#[103, 108, 111, 98, 97, 108]⟩)
        (if q.Ok then (if q.next.Ok then (if (q.next.most g.length 128).Ok then (if (q.next.most g.length 128).decl.1.Ok then (if (g.length + 1) * 32 ≤ 140737488355328 then fnLoop X Em an34 lp Try.f21 0 N (S34 ((q.next.most g.length 128).decl.1.must ⟨#[59]⟩) (g ++ [(q.next.most g.length 128).decl.2]) f n) else none) else none) else none) else none) else none)
        (if q.Ok then cond (q.is ⟨#[102, 105, 101, 108, 100]⟩)
          (if q.Ok then (if q.next.Ok then (if (q.next.most f.length 128).Ok then (if (q.next.most f.length 128).decl.1.Ok then (if (f.length + 1) * 32 ≤ 140737488355328 then fnLoop X Em an34 lp Try.f21 0 N (S34 ((q.next.most f.length 128).decl.1.must ⟨#[59]⟩) g (f ++ [(q.next.most f.length 128).decl.2]) n) else none) else none) else none) else none) else none)
          (if q.Ok then cond (q.is ⟨#[102, 110]⟩)
            (if q.Ok then (if q.next.Ok then (if (q.next.most n.length 128).Ok then (if (n.length + 1) * 104 ≤ 140737488355328 then fnLoop X Em an34 lp Try.f21 0 N (S34 ((q.next.most n.length 128).fn q.now.At).1 g f (n ++ [((q.next.most n.length 128).fn q.now.At).2])) else none) else none) else none) else none)
            (if True then fnLoop X Em an34 lp Try.f21 0 N (S34 (q.fail 181 q.now.At) g f n) else none) else none) else none) else none) else none)
      (some (.exit 0, S34 q g f n)) else none) (some (.exit 0, S34 q g f n)) := by cases g <;> cases f <;> cases n <;> kernel_rfl
/-- What was read so far. -/
structure PR where
  q : PS
  g : List R82
  f : List R82
  n : List R90
def progL : Nat → PS → List R82 → List R82 → List R90 → PR
  | 0, q, g, f, n => ⟨q, g, f, n⟩
  | N + 1, q, g, f, n => cond (decide (q.Code = 0)) (cond (!decide (q.now.Kind = 0)) (cond (q.is ⟨#[103, 108, 111, 98, 97, 108]⟩)
      (progL N ((q.next.most g.length 128).decl.1.must ⟨#[59]⟩) (g ++ [(q.next.most g.length 128).decl.2]) f n)
      (cond (q.is ⟨#[102, 105, 101, 108, 100]⟩) (progL N ((q.next.most f.length 128).decl.1.must ⟨#[59]⟩) g (f ++ [(q.next.most f.length 128).decl.2]) n)
        (cond (q.is ⟨#[102, 110]⟩) (progL N ((q.next.most n.length 128).fn q.now.At).1 g f (n ++ [((q.next.most n.length 128).fn q.now.At).2])) (progL N (q.fail 181 q.now.At) g f n)))) ⟨q, g, f, n⟩) ⟨q, g, f, n⟩
def fnW (f : R90) : Nat := 1 + (f.Params.length + (f.Vars.length + cntL f.Body))
def fnsW : List R90 → Nat
  | [] => 0
  | x :: l => fnW x + fnsW l
theorem fnsW_append : ∀ l m : List R90, fnsW (l ++ m) = fnsW l + fnsW m
  | [], m => by rw [List.nil_append, fnsW, Nat.zero_add]
  | x :: l, m => by rw [List.cons_append, fnsW, fnsW_append l m, fnsW, Nat.add_assoc]
theorem PS.Ok.fnA {p : PS} (h : p.Ok) : (fnA p).1.Ok ∧ (fnA p).2.length + (fnA p).1.left ≤ p.left - 1 := by
  have h1 := h.name.must_lt ⟨#[40]⟩
  have h2 := h.name_lt
  have h3 := declsP_cnt (h.name.must ⟨#[40]⟩)
  refine ⟨declsP_ok (h.name.must _), ?_⟩
  unfold Fl.fnA
  omega
theorem PS.Ok.fnB {p : PS} (h : p.Ok) : (fnB p).Ok ∧ (fnB p).left ≤ (Fl.fnA p).1.left := by
  unfold Fl.fnB
  cases decide ((Fl.fnA p).1.Code = 0) with
  | true => exact ⟨h.fnA.1.next, PS.next_left _⟩
  | false => exact ⟨h.fnA.1, Nat.le_refl _⟩
theorem PS.Ok.fnC {p : PS} (h : p.Ok) : (fnC p).1.Ok ∧ (fnC p).1.left ≤ (Fl.fnB p).left := by
  unfold Fl.fnC
  have h1 := (Fl.fnB p).next_left
  have h2 := h.fnB.1.next.typ_lt
  cases (Fl.fnB p).is ⟨#[58]⟩ with
  | true => exact ⟨h.fnB.1.next.typ, by simp only [cond_true]; omega⟩
  | false => exact ⟨h.fnB.1, Nat.le_refl _⟩
theorem PS.Ok.fnD {p : PS} (h : p.Ok) : (fnD p).1.Ok ∧ (fnD p).2.length + (fnD p).1.left ≤ (Fl.fnC p).1.left := by
  have h1 := h.fnC.1.must_lt ⟨#[123]⟩
  have h2 := varsP_cnt (h.fnC.1.must ⟨#[123]⟩)
  refine ⟨varsP_ok (h.fnC.1.must _), ?_⟩
  unfold Fl.fnD
  omega
theorem PS.Ok.fn {p : PS} (h : p.Ok) (a : Int) : (p.fn a).1.Ok ∧ fnW (p.fn a).2 + (p.fn a).1.left ≤ 1 + (p.left - 1) := by
  have h1 := h.fnA.2
  have h2 := h.fnB.2
  have h3 := h.fnC.2
  have h4 := h.fnD.2
  have h5 := h.fnD.1.stmts_ok
  refine ⟨h5.1, ?_⟩
  have h6 := h5.2
  show 1 + ((Fl.fnA p).2.length + ((Fl.fnD p).2.length + cntL (Fl.fnD p).1.stmts.2)) + (Fl.fnD p).1.stmts.1.left ≤ _
  omega
def prW (r : PR) : Nat := r.g.length + (r.f.length + (fnsW r.n + r.q.left))
theorem progL_ok : ∀ (N : Nat) (q : PS) (g f : List R82) (n : List R90), q.Ok → (progL N q g f n).q.Ok ∧ prW (progL N q g f n) ≤ g.length + (f.length + (fnsW n + q.left)) := by
  intro N
  induction N with
  | zero => intro q g f n h; exact ⟨h, Nat.le_refl _⟩
  | succ N ih =>
    intro q g f n h
    rw [progL]
    cases decide (q.Code = 0) with
    | false => exact ⟨h, Nat.le_refl _⟩
    | true =>
      cases !decide (q.now.Kind = 0) with
      | false => exact ⟨h, Nat.le_refl _⟩
      | true =>
        simp only [cond_true]
        have key : ∀ m : Int, (q.next.most m 128).Ok ∧ (q.next.most m 128).left ≤ q.next.left := fun m => ⟨h.next.most _ _, PS.most_left _ _ _⟩
        cases h1 : q.is ⟨#[103, 108, 111, 98, 97, 108]⟩ with
        | true =>
          have hpos := h.is_pos h1
          have hn := h.next_lt (PS.is_kind h1)
          have h2 := (key g.length).1.decl_lt
          have h3 := (key g.length).2
          have h4 := (key g.length).1.decl.must_lt ⟨#[59]⟩
          obtain ⟨a, b⟩ := ih _ (g ++ [(q.next.most g.length 128).decl.2]) f n ((key g.length).1.decl.must ⟨#[59]⟩)
          rw [List.length_append] at b
          simp only [List.length_singleton] at b
          exact ⟨a, by simp only [cond_true]; omega⟩
        | false =>
          simp only [cond_false]
          cases h5 : q.is ⟨#[102, 105, 101, 108, 100]⟩ with
          | true =>
            have hpos := h.is_pos h5
            have hn := h.next_lt (PS.is_kind h5)
            have h2 := (key f.length).1.decl_lt
            have h3 := (key f.length).2
            have h4 := (key f.length).1.decl.must_lt ⟨#[59]⟩
            obtain ⟨a, b⟩ := ih _ g (f ++ [(q.next.most f.length 128).decl.2]) n ((key f.length).1.decl.must ⟨#[59]⟩)
            rw [List.length_append] at b
            simp only [List.length_singleton] at b
            exact ⟨a, by simp only [cond_true]; omega⟩
          | false =>
            simp only [cond_false]
            cases h6 : q.is ⟨#[102, 110]⟩ with
            | true =>
              have hpos := h.is_pos h6
              have hn := h.next_lt (PS.is_kind h6)
              have h2 := (key n.length).1.fn q.now.At
              have h3 := (key n.length).2
              obtain ⟨a, b⟩ := ih _ g f (n ++ [((q.next.most n.length 128).fn q.now.At).2]) h2.1
              rw [fnsW_append] at b
              have h7 := h2.2
              simp only [fnsW] at b
              exact ⟨a, by simp only [cond_true]; omega⟩
            | false =>
              obtain ⟨a, b⟩ := ih (q.fail 181 q.now.At) g f n (h.fail (by decide) _)
              rw [PS.fail_left _ (by decide)] at b
              exact ⟨a, by simp only [cond_false]; omega⟩
theorem fnsW_len : ∀ l : List R90, l.length ≤ fnsW l
  | [] => Nat.le_refl _
  | x :: l => by
    have := fnsW_len l
    have h1 : 1 ≤ fnW x := by unfold fnW; omega
    rw [fnsW, List.length_cons]
    omega
theorem rounds34 (lp : Lp U) : ∀ (N : Nat) (q : PS) (g f : List R82) (n : List R90), q.Ok → q.left ≤ N → g.length + N ≤ 2000000 → f.length + N ≤ 2000000 → n.length + N ≤ 2000000 →
    fnLoop X Em an34 lp Try.f21 0 (N + 1) (S34 q g f n) = some (.exit 0, S34 (progL (N + 1) q g f n).q (progL (N + 1) q g f n).g (progL (N + 1) q g f n).f (progL (N + 1) q g f n).n) := by
  intro N
  induction N with
  | zero =>
    intro q g f n h hl h1 h2 h3
    have hc := h.left_zero (by omega)
    rw [r34, progL, decide_eq_false hc]
    rfl
  | succ N ih =>
    intro q g f n h hl h1 h2 h3
    rw [r34, progL]
    by_cases hc : q.Code = 0
    · rw [decide_eq_true hc]
      by_cases hk : q.now.Kind = 0
      · rw [decide_eq_true hk, if_pos h]
        rfl
      · rw [decide_eq_false hk]
        have hpos := h.left_pos hc
        have hn := h.next_lt hk
        have key : ∀ m : Int, (q.next.most m 128).Ok ∧ (q.next.most m 128).left ≤ q.next.left := fun m => ⟨h.next.most _ _, PS.most_left _ _ _⟩
        have kd : ∀ m : Int, (q.next.most m 128).decl.1.Ok := fun m => (key m).1.decl
        have l1 : (g.length + 1) * 32 ≤ 140737488355328 := by omega
        have l2 : (f.length + 1) * 32 ≤ 140737488355328 := by omega
        have l3 : (n.length + 1) * 104 ≤ 140737488355328 := by omega
        simp only [cond_true, Bool.not_false, h, h.next, (key g.length).1, (key f.length).1, (key n.length).1, kd g.length, kd f.length, l1, l2, l3, if_true]
        have e : ∀ m : Int, ((q.next.most m 128).decl.1.must ⟨#[59]⟩).Ok ∧ ((q.next.most m 128).decl.1.must ⟨#[59]⟩).left ≤ N := fun m => by
          have a1 := (key m).1.decl_lt
          have a2 := (key m).2
          have a3 := (kd m).must_lt ⟨#[59]⟩
          exact ⟨(kd m).must _, by omega⟩
        cases q.is ⟨#[103, 108, 111, 98, 97, 108]⟩ with
        | true => exact ih _ _ _ _ (e _).1 (e _).2 (by rw [List.length_append]; simp only [List.length_singleton]; omega) (by omega) (by omega)
        | false =>
          cases q.is ⟨#[102, 105, 101, 108, 100]⟩ with
          | true => exact ih _ _ _ _ (e _).1 (e _).2 (by omega) (by rw [List.length_append]; simp only [List.length_singleton]; omega) (by omega)
          | false =>
            cases q.is ⟨#[102, 110]⟩ with
            | true =>
              have a1 := (key n.length).1.fn q.now.At
              have a2 := (key n.length).2
              have a3 := a1.2
              have a4 : 1 ≤ fnW ((q.next.most n.length 128).fn q.now.At).2 := by unfold fnW; omega
              exact ih _ _ _ _ a1.1 (by omega) (by omega) (by omega) (by rw [List.length_append]; simp only [List.length_singleton]; omega)
            | false => exact ih _ _ _ _ (h.fail (by decide) _) (by rw [PS.fail_left _ (by decide)]; exact Nat.zero_le _) (by omega) (by omega) (by omega)
    · rw [decide_eq_false hc]
      rfl
end Go.Proofs.Ytpkgikchphgfaaa.Fl

/- Texts of this claim, put together: part 23. -/
import Derived.Test.YtpkgikchphgfaaaMlV
/- The program's lowerer: rows of statements. -/
namespace Go.Proofs.Ytpkgikchphgfaaa.Lw
open Go Go.RowKit Go.Proofs.Ytpkgikchphgfaaa.Eng Go.Proofs.Ytpkgikchphgfaaa.Fl
set_option linter.unusedVariables false
set_option linter.unusedSimpArgs false
set_option maxRecDepth 20000
theorem r63m (N : Nat) (lp : Lp U) (s : LB) (l : List R114) (n : Nat) (C0 : List R65) (v : Int) : fnLoop X (Le N) an63 lp Try.f63 0 n.succ (S63m s l C0 v) = cond (decide (v < (l.length : Int))) ((getI l v).bind fun z => rdB N s z C0 fun C => fnLoop X (Le N) an63 lp Try.f63 0 n (S63m s l C (IntKind.i64.wrap (v + 1)))) (some (Z63m s C0)) := by
  obtain ⟨G, F, vB, V, fB, Fs, cB, C, M, a, b, c, d, nn⟩ := s
  cases vB <;> cases fB <;> cases cB <;> kernel_rfl
theorem rdB_eq {R : Type} {N : Nat} {s : LB} {z : R114} {C : List R65} {k : List R65 → Option R} (h1 : C.length + 2 * cntS z ≤ 3000000) (h2 : cntS z ≤ N) : rdB N s z C k = k (pS s.base z C) := by
  have h1' := h1
  have h2' := h2
  rw [cntS_eq'] at h1' h2'
  have hz : z = .mk z.Kind z.At z.To z.Field z.From z.Expr z.Body z.Else := by cases z; rfl
  have hps : pS s.base z C = cond (decide (z.Kind = 4)) (pCh s.base z C) (cond (decide (z.Kind = 5)) (s.base.bk z.At C.length (pL s.base z.Body (s.base.hd z.At z.From C))) (C ++ [atI s.fn z.At (s.one z)])) := by
    conv => lhs; rw [hz, pS]
    unfold pCh
    rw [← hz]
    rfl
  rw [hps]
  unfold rdB
  rw [reS_eq]
  cases decide (z.Kind = 4) with
  | true => exact if_pos ⟨h1, h2⟩
  | false =>
    cases decide (z.Kind = 5) with
    | true =>
      simp only [cond_true, cond_false]
      have e1 : (C ++ [atI s.fn z.At (ins3 18 (s.v z.From) 0 0 0 0)]).length = C.length + 1 := by rw [List.length_append]; rfl
      have e2 : setBx (C ++ [atI s.fn z.At (ins3 18 (s.v z.From) 0 0 0 0)]) C.length ((C ++ [atI s.fn z.At (ins3 18 (s.v z.From) 0 0 0 0)]).length : Int) = s.base.hd z.At z.From C := by
        unfold LB.hd
        rw [e1]
        rfl
      rw [if_pos (by unfold Sn; omega), if_pos trivial, stB_eq (by omega), e2, if_pos (by rw [LB.hd_len]; exact ⟨by omega, by omega⟩), emp s.base z.Body _ fun C2 => wh3 s z C.length C2 k]
      have hb := pL_len s.base z.Body (s.base.hd z.At z.From C)
      rw [LB.hd_len] at hb
      generalize pL s.base z.Body (s.base.hd z.At z.From C) = C2 at hb ⊢
      unfold wh3
      have e3 : (C2 ++ [atI s.fn z.At (ins3 17 0 C.length 0 0 0)]).length = C2.length + 1 := by rw [List.length_append]; rfl
      have e4 : setCx (C2 ++ [atI s.fn z.At (ins3 17 0 C.length 0 0 0)]) C.length ((C2 ++ [atI s.fn z.At (ins3 17 0 C.length 0 0 0)]).length : Int) = s.base.bk z.At C.length C2 := by
        unfold LB.bk
        rw [e3]
        rfl
      rw [if_pos (by unfold Sn; omega), if_pos trivial, stC_eq' (by omega), e4]
    | false =>
      simp only [cond_false]
      rw [if_pos (by unfold Sn; omega), if_pos (by unfold Sn; omega)]
theorem cntS_pos (z : R114) : 0 < cntS z := by rw [cntS_eq']; omega
theorem cntL_len : ∀ l : List R114, l.length ≤ cntL l
  | [] => Nat.zero_le _
  | x :: l => by rw [cntL, List.length_cons]; have := cntS_pos x; have := cntL_len l; omega
theorem rounds63m (N : Nat) (lp : Lp U) (s : LB) (l : List R114) (hl : l.length ≤ 3000000) : ∀ (n : Nat) (C : List R65) (v : Int), 0 ≤ v → (l.length : Int) ≤ v + n → C.length + 2 * cntL (l.drop v.toNat) ≤ 3000000 → cntL (l.drop v.toNat) ≤ N →
    fnLoop X (Le N) an63 lp Try.f63 0 (n + 1) (S63m s l C v) = some (Z63m s (pL s.base (l.drop v.toNat) C)) := by
  intro n
  induction n with
  | zero =>
    intro C v h0 h1 h2 h3
    rw [r63m, decide_eq_false (by omega), List.drop_eq_nil_of_le (by omega), pL]
    rfl
  | succ n ih =>
    intro C v h0 h1 h2 h3
    rw [r63m]
    by_cases hv : v < (l.length : Int)
    · obtain ⟨z, hz, hz2⟩ := getI_lt h0 hv
      have hw : IntKind.i64.wrap (v + 1) = v + 1 := wrap_i64 (by omega) (by omega)
      have hd : l.drop v.toNat = z :: l.drop (v.toNat + 1) := by
        rw [List.drop_eq_getElem_cons (by omega)]
        rw [List.getElem?_eq_getElem (by omega)] at hz2
        rw [Option.some.inj hz2]
      rw [hd, cntL] at h2 h3
      have hlen := pS_len s.base z C
      rw [decide_eq_true hv, hz, cond_true, Option.bind_some, rdB_eq (by omega) (by omega), hw, ih _ (v + 1) (by omega) (by omega) (by rw [show (v + 1).toNat = v.toNat + 1 by omega]; omega) (by rw [show (v + 1).toNat = v.toNat + 1 by omega]; omega), hd, pL, show (v + 1).toNat = v.toNat + 1 by omega]
    · rw [decide_eq_false hv, List.drop_eq_nil_of_le (by omega), pL]
      rfl
theorem rounds63 (N : Nat) (lp : Lp U) (s : LB) (hs : s.Ok) (l : List R114) (h2 : s.C.length + 2 * cntL l ≤ 3000000) (h3 : cntL l ≤ N) :
    fnLoop X (Le N) an63 lp Try.f63 0 (l.length + 1) (S63i s l 0) = some (cond l.isEmpty (Z63i s) (Z63m s (pL s.base l s.C))) := by
  have hl := cntL_len l
  rw [r63i N lp s hs]
  cases l with
  | nil => rfl
  | cons z l =>
    have hl2 : (z :: l).length ≤ 3000000 := by omega
    rw [cntL] at h2 h3
    have hlen := pS_len s.base z s.C
    have hg : getI (z :: l) 0 = some z := rfl
    rw [decide_eq_true (by rw [List.length_cons]; omega), hg, cond_true, Option.bind_some, rdB_eq (by omega) (by omega)]
    have hw : IntKind.i64.wrap (0 + 1) = 1 := by decide
    rw [hw]
    have := rounds63m N lp s (z :: l) hl2 l.length (pS s.base z s.C) 1 (by decide) (by rw [List.length_cons]; omega) (by show _ + 2 * cntL l ≤ _; omega) (by show cntL l ≤ _; omega)
    rw [List.length_cons]
    rw [this, pL]
    rfl
def dl63 (s : TS U) : Option (List R114 × Int × Int) := match told s 72 [0, 7, 8, 9] 0, s.objs with
  | some [a0, a1, a2, a3], [] =>
    match a0 with
    | .ref 0 0 0 =>
      match a1 with
      | .lst .t114 l =>
        match a2 with
        | .v (.int .i64 n) =>
          match a3 with
          | .v (.int .i64 v) =>
            some (l, n, v)
          | _ => none
        | _ => none
      | _ => none
    | _ => none
  | _, _ => none
theorem dl63_ok {s : TS U} {l : List R114} {n : Int} {v : Int} (h : dl63 s = some (l, n, v)) : s = mkS (U := U) 72 ([0, 7, 8, 9].zip ([.ref 0 0 0, .lst .t114 l, .v (.int .i64 n), .v (.int .i64 v)] : List (TV U))) ([] : List (TO U)) 0 := by
  unfold dl63 at h
  split at h <;> try (cases h; done)
  rename_i ht ho
  have hs := told_ok ht
  rw [ho] at hs
  repeat' split at h
  all_goals first | (cases h; done) | (cases h; exact hs)
def Pre63 (s : LB) (l : List R114) (N : Nat) (n v : Int) : Prop := (s.C.length + 2 * cntL l ≤ 3000000 ∧ cntL l ≤ N) ∧ n = l.length ∧ v = 0
noncomputable instance (s : LB) (l : List R114) (N : Nat) (n v : Int) : Decidable (Pre63 s l N n v) := Classical.propDecidable _
noncomputable def lc63 (N : Nat) : LC U := .of2 (ldW dl63) (fun (s, l, n, v) => Pre63 s l N n v) (fun (s, l, n, v) => l.isEmpty) (.exit 0) (fun (s, l, n, v) => (Z63i s).2) (.exit 0) (fun (s, l, n, v) => (Z63m s (pL s.base l s.C)).2)
noncomputable def lp63 (N : Nat) : Lp U := lpL [(0, lc63 N)]
theorem lp63_ok (N : Nat) : ∀ c, Try.f63.body = some c → LpOk X (Le N) an63 (lp63 N) (loops c 0) := lpL_ok (by kernel_rfl) fun b L hm st p hs => by
  cases hm with
  | tail _ h => cases h
  | head =>
    obtain ⟨⟨s, l, n, v⟩, hx, ⟨⟨h1, h2⟩, rfl, rfl⟩, rfl⟩ := LC.of2_some hs
    obtain ⟨st0, rfl, e1, e2, hy, hok⟩ := ldW_ok hx
    obtain rfl := dl63_ok hy
    refine ⟨l.length + 1, ?_⟩
    have := rounds63 N (lpL [(0, lc63 N)]) s hok l h1 h2
    refine Eq.trans ?_ (this.trans ?_)
    · rfl
    · show some (cond l.isEmpty (Z63i s) (Z63m s (pL s.base l s.C))) = some (cond l.isEmpty ((.exit 0 : Exit), (Z63i s).2) (.exit 0, (Z63m s (pL s.base l s.C)).2))
      cases l.isEmpty <;> rfl
theorem e63 (N : Nat) (s : LB) (hs : s.Ok) (l : List R114) : evFn X (Le N) an63 (lp63 N) Try.f63 (inB s) [.ref 0 0 0, .lst .t114 l] (fun o v => some (o, v)) = if Pre63 s l N l.length 0 then cond l.isEmpty (some (inB s, .tup [])) (some (outB s (pL s.base l s.C), .tup [])) else none := by
  obtain ⟨G, F, vB, V, fB, Fs, cB, C, M, a, b, c, d, nn⟩ := s
  obtain ⟨h1, h2, h3⟩ := hs
  cases cB with
  | true =>
    clear h1 h2 h3
    cases vB <;> cases fB <;> kernel_rfl
  | false =>
    obtain rfl : C = [] := h3 rfl
    clear h1 h2 h3
    cases vB <;> cases fB <;> (show _ = _; kernel_rfl)
def lpF63 : Lp U := lpL [(0, .of (ldW dl63) (fun _ => False) .ret (fun _ => mkS 0 [] [] 0))]
theorem lpF63_ok : ∀ c, Try.f63.body = some c → LpOk X (fun _ => none) an63 lpF63 (loops c 0) := lpL_ok (by kernel_rfl) fun b L hm st p hs => by
  cases hm with
  | tail _ h => cases h
  | head =>
    obtain ⟨_, _, h, _⟩ := LC.of_some hs
    exact absurd h id
theorem blkP_lt : ∀ n : Nat, SpecOk Try.prog 63 (sBlkP n)
  | 0 => by
    refine fn_ok2 X_ok mixed E0_ok an63 lpF63 Try.func63 (by kernel_rfl) (by kernel_rfl) lpF63_ok fun objs args x hx h => ?_
    exact absurd h.2 (Nat.not_lt_zero _)
  | n + 1 => by
    refine fn_ok2 X_ok mixed (Le_ok (blkP_lt n)) an63 (lp63 n) Try.func63 (by kernel_rfl) (by kernel_rfl) (lp63_ok n) fun objs args x hx hp => ?_
    obtain ⟨s, l⟩ := x
    obtain ⟨⟨rfl, hs⟩, hy⟩ := dW_ok hx
    obtain ⟨_, rfl⟩ := dRL_ok hy
    obtain ⟨h1, h2⟩ := hp
    dsimp only at h1 h2 ⊢
    refine (e63 n s hs l).trans ?_
    rw [if_pos ⟨⟨h1, by omega⟩, rfl, rfl⟩]
    cases l.isEmpty <;> rfl
def PreBk (c m : Nat) : Prop := c + 2 * m ≤ 3000000
instance (c m : Nat) : Decidable (PreBk c m) := by unfold PreBk; infer_instance
/-- Statements, whatever they are. -/
def sBlk : Spc U := .of2 (dW dRL) (fun (s, l) => PreBk s.C.length (cntL l)) (fun (s, l) => l.isEmpty) (fun (s, l) => inB s) (fun _ => .tup []) (fun (s, l) => outB s (pL s.base l s.C)) (fun _ => .tup [])
theorem sBlk_ok : SpecOk Try.prog 63 sBlk := by
  refine ⟨(blkP_lt 0).fn, Spc.of2_path, fun objs args objs' res hs => ?_⟩
  obtain ⟨x, hx, hp, he⟩ := Spc.of2_some hs
  refine (blkP_lt (cntL x.2 + 1)).ok objs args objs' res ?_
  unfold sBlkP Spc.of2
  dsimp only
  rw [hx]
  dsimp only
  rw [if_pos ⟨hp, Nat.lt_succ_self _⟩]
  unfold sBlk Spc.of2 at hs
  dsimp only at hs
  rw [hx] at hs
  dsimp only at hs
  rw [if_pos hp] at hs
  exact hs
end Go.Proofs.Ytpkgikchphgfaaa.Lw

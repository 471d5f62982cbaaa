/- Texts of this claim, put together: part 8. -/
import Derived.Test.YtpkgikchphgfaaaMiF
import Derived.Test.YtpkgikchphgfaaaMiG
/- The references' lexer: signs. -/
namespace Go.Proofs.Ytpkgikchphgfaaa.Fl
open Go Go.RowKit Go.Proofs.Ytpkgikchphgfaaa.Eng
set_option linter.unusedVariables false
set_option linter.unusedSimpArgs false
set_option maxRecDepth 20000
def sgs : List ByteArray := [⟨#[123]⟩, ⟨#[125]⟩, ⟨#[40]⟩, ⟨#[41]⟩, ⟨#[59]⟩, ⟨#[58]⟩, ⟨#[44]⟩, ⟨#[46]⟩, ⟨#[64]⟩, ⟨#[38]⟩, ⟨#[42]⟩, ⟨#[60]⟩, ⟨#[43]⟩, ⟨#[45]⟩, ⟨#[61]⟩]
def S45 (s : ByteArray) (a v : Int) : TS U := mkS 37 [(0, .v (.string s)), (1, .v (.int .i64 a)), (5, .full 0), (6, .v (.int .i64 v))] [.row .str sgs false] 0
def r45 (v : Int) : Exit × TS U := (.ret, mkS 37 [(4, .v (.int .i64 v))] [] 0)
def two (s : ByteArray) (a : Int) : Option (Exit × TS U) := cond (decide (IntKind.i64.wrap (a + 2) ≤ s.size)) ((cutB s (some a) (some (IntKind.i64.wrap (a + 2)))).bind fun c => cond (List.instBEq.1 c.toList (ByteArray.toList ⟨#[61, 61]⟩)) (some (r45 2)) (some (r45 1))) (some (r45 1))
theorem g45 (lp : Lp U) (s : ByteArray) (a v : Int) (N : Nat) : fnLoop X (fun _ => none) an45 lp Try.f94 0 N.succ (S45 s a v) =
    cond (decide (v < sgs.length)) ((cutB s (some a) (some (IntKind.i64.wrap (a + 1)))).bind fun c => if 0 ≤ v ∧ v < sgs.length then sgs[v.toNat]?.bind fun y => cond (List.instBEq.1 c.toList (ByteArray.toList y)) (two s a) (fnLoop X (fun _ => none) an45 lp Try.f94 0 N (S45 s a (IntKind.i64.wrap (v + 1)))) else none)
      (some (.exit 0, mkS 37 [] [] 0)) := by kernel_rfl
def cut1 (s : ByteArray) (a : Int) : ByteArray := s.extract a.toNat (a + 1).toNat
def cut2 (s : ByteArray) (a : Int) : ByteArray := s.extract a.toNat (a + 2).toNat
def isSg (s : ByteArray) (a : Int) : Bool := hasSg (cut1 s a) sgs
where hasSg (c : ByteArray) (l : List ByteArray) : Bool := l.any fun y => List.instBEq.1 c.toList y.toList
def eqEq (s : ByteArray) (a : Int) : Bool := decide (a + 2 ≤ s.size) && List.instBEq.1 (cut2 s a).toList (ByteArray.toList ⟨#[61, 61]⟩)
def sgn (s : ByteArray) (a : Int) : Int := cond (isSg s a) (cond (eqEq s a) 2 1) 0
theorem sgs_len : sgs.length = 15 := by decide
theorem two_ok {s : ByteArray} {a : Int} (hs : s.size ≤ 1000000) (h0 : 0 ≤ a) (h1 : a < s.size) : two s a = some (r45 (cond (eqEq s a) 2 1)) := by
  have hw : IntKind.i64.wrap (a + 2) = a + 2 := wrap_i64 (by omega) (by omega)
  unfold two eqEq
  rw [hw]
  by_cases h : a + 2 ≤ (s.size : Int)
  · have hc : cutB s (some a) (some (a + 2)) = some (cut2 s a) := if_pos ⟨h0, by omega, h⟩
    rw [hc, Option.bind_some]
    simp only [h, decide_true, cond_true, Bool.true_and]
    cases List.instBEq.1 (cut2 s a).toList (ByteArray.toList ⟨#[61, 61]⟩) <;> rfl
  · simp only [h, decide_false, cond_false, Bool.false_and]
theorem round45 (lp : Lp U) {s : ByteArray} {a : Int} (hs : s.size ≤ 1000000) (h0 : 0 ≤ a) (h1 : a < s.size) : ∀ (N : Nat) (v : Int), 0 ≤ v → 15 ≤ v + N → v ≤ 15 →
    fnLoop X (fun _ => none) an45 lp Try.f94 0 (N + 1) (S45 s a v) = some (cond (isSg.hasSg (cut1 s a) (sgs.drop v.toNat)) (r45 (cond (eqEq s a) 2 1)) (.exit 0, mkS 37 [] [] 0)) := by
  intro N
  induction N with
  | zero =>
    intro v hv0 hv1 hv2
    have hv : ¬ v < (sgs.length : Int) := by rw [sgs_len]; omega
    have e : sgs.drop v.toNat = [] := List.drop_eq_nil_of_le (by rw [sgs_len]; omega)
    rw [g45, e]
    simp only [hv, decide_false, cond_false]
    rfl
  | succ N ih =>
    intro v hv0 hv1 hv2
    rw [g45]
    by_cases hv : v < (sgs.length : Int)
    · have hlt : v.toNat < sgs.length := by omega
      have hx : sgs[v.toNat]? = some sgs[v.toNat] := List.getElem?_eq_getElem hlt
      have hd : sgs.drop v.toNat = sgs[v.toNat] :: sgs.drop (v.toNat + 1) := List.drop_eq_getElem_cons hlt
      have hw : IntKind.i64.wrap (v + 1) = v + 1 := wrap_i64 (by omega) (by omega)
      have hw1 : IntKind.i64.wrap (a + 1) = a + 1 := wrap_i64 (by omega) (by omega)
      have hc : cutB s (some a) (some (a + 1)) = some (cut1 s a) := if_pos ⟨h0, by omega, by omega⟩
      have hvl : v < 15 := by rw [sgs_len] at hv; exact hv
      rw [hd, hw, hw1, hc, Option.bind_some, if_pos ⟨hv0, hv⟩, hx, Option.bind_some, two_ok hs h0 h1, ih (v + 1) (by omega) (by omega) (by omega), show (v + 1).toNat = v.toNat + 1 by omega]
      simp only [hv, decide_true, cond_true]
      generalize sgs[v.toNat] = z
      have e : isSg.hasSg (cut1 s a) (z :: sgs.drop (v.toNat + 1)) = (List.instBEq.1 (cut1 s a).toList z.toList || isSg.hasSg (cut1 s a) (sgs.drop (v.toNat + 1))) := rfl
      rw [e]
      cases List.instBEq.1 (cut1 s a).toList z.toList <;> rfl
    · have e : sgs.drop v.toNat = [] := List.drop_eq_nil_of_le (by omega)
      rw [e]
      simp only [hv, decide_false, cond_false]
      rfl
def Pre45 (s : ByteArray) (a : Int) : Prop := s.size ≤ 1000000 ∧ 0 ≤ a ∧ a < s.size
instance (s : ByteArray) (a : Int) : Decidable (Pre45 s a) := by unfold Pre45; infer_instance
def Pre45l (s : ByteArray) (a : Int) (l : List ByteArray) (v : Int) : Prop := Pre45 s a ∧ l = sgs ∧ v = 0
instance (s : ByteArray) (a : Int) (l : List ByteArray) (v : Int) : Decidable (Pre45l s a l v) := by unfold Pre45l; infer_instance
def dl45 (s : TS U) : Option (List ByteArray × ByteArray × Int × Int) := match told s 37 [0, 1, 5, 6] 0, s.objs with
  | some [a0, a1, a2, a3], [o0] =>
    match o0 with
    | .row .str l false =>
      match a0 with
      | .v (.string t) =>
        match a1 with
        | .v (.int .i64 a) =>
          match a2 with
          | .full 0 =>
            match a3 with
            | .v (.int .i64 v) =>
              some (l, t, a, v)
            | _ => none
          | _ => none
        | _ => none
      | _ => none
    | _ => none
  | _, _ => none
theorem dl45_ok {s : TS U} {l : List ByteArray} {t : ByteArray} {a : Int} {v : Int} (h : dl45 s = some (l, t, a, v)) : s = mkS (U := U) 37 ([0, 1, 5, 6].zip ([.v (.string t), .v (.int .i64 a), .full 0, .v (.int .i64 v)] : List (TV U))) ([.row .str l false] : List (TO U)) 0 := by
  unfold dl45 at h
  split at h <;> try (cases h; done)
  rename_i ht ho
  have hs := told_ok ht
  rw [ho] at hs
  repeat' split at h
  all_goals first | (cases h; done) | (cases h; exact hs)
def lc45 : LC U := .of2 dl45 (fun x => Pre45l x.2.1 x.2.2.1 x.1 x.2.2.2) (fun x => isSg x.2.1 x.2.2.1) .ret (fun x => (r45 (cond (eqEq x.2.1 x.2.2.1) 2 1)).2) (.exit 0) (fun x => mkS 37 [] [] 0)
theorem lp45_ok : ∀ c, Try.f94.body = some c → LpOk X (fun _ => none) an45 (lpL [(0, lc45)]) (loops c 0) := lpL_ok (by kernel_rfl) fun b L hm st p hs => by
  cases hm with
  | tail _ h => cases h
  | head =>
    obtain ⟨⟨l, s, a, v⟩, hx, hp, rfl⟩ := LC.of2_some hs
    obtain rfl := dl45_ok hx
    dsimp only at hp ⊢
    obtain ⟨⟨h1, h2, h3⟩, rfl, rfl⟩ := hp
    exact ⟨16, round45 _ h1 h2 h3 15 0 (by decide) (by decide) (by decide)⟩
theorem e45 (s : ByteArray) (a : Int) : evFn X (fun _ => none) an45 (lpL [(0, lc45)]) Try.f94 [] [.v (.string s), .v (.int .i64 a)] (fun o v => some (o, v)) =
    if Pre45l s a sgs 0 then cond (isSg s a) (some ([], .v (.int .i64 (cond (eqEq s a) 2 1)))) (some ([], .v (.int .i64 0))) else none := by kernel_rfl
def sSign : Spc U := .of dsi (fun x => Pre45 x.1 x.2) (fun x => []) fun x => .v (.int .i64 (sgn x.1 x.2))
theorem sSign_ok : SpecOk Try.prog 94 sSign := by
  refine fn_ok X_ok mixed E0_ok an45 (lpL [(0, lc45)]) Try.func94 (by kernel_rfl) (by kernel_rfl) lp45_ok fun objs args x hx hp => ?_
  obtain ⟨s, a⟩ := x
  obtain ⟨rfl, rfl⟩ := dsi_ok hx
  dsimp only at hp ⊢
  rw [e45, if_pos ⟨hp, rfl, rfl⟩]
  unfold sgn
  cases isSg s a <;> rfl
end Go.Proofs.Ytpkgikchphgfaaa.Fl

/- The references' lexer: words. -/
namespace Go.Proofs.Ytpkgikchphgfaaa.Fl
open Go Go.RowKit Go.Proofs.Ytpkgikchphgfaaa.Eng
set_option linter.unusedVariables false
set_option linter.unusedSimpArgs false
set_option maxRecDepth 20000
def an27 : Ann := ⟨fun | 0 => 57 | 3 => 249 | 5 => 249 | 1004 => 524345 | 1005 => 249 | 1006 => 67109113 | 1007 => 505 | 1008 => 2147484153 | 1010 => 249 | 1011 => 137506062585 | 1014 => 249 | 1015 => 144115188075856121 | 1016 => 249 | 1017 => 576460752303423737 | 1018 => 249 | 1024 => 121 | 1025 => 57 | 1026 => 57 | _ => 0, fun | 0 => 29 | 3 => 253 | 5 => 253 | _ => 0, fun _ => [], false⟩
noncomputable def E27 : FuncId → Option (Spc U)
  | 93 => some sKept
  | 91 => some sSkip
  | 92 => some sLetter
  | 94 => some sSign
  | _ => none
theorem E27_ok : ∀ f S, E27 f = some S → SpecOk Try.prog f S := fun f S h => by
  unfold E27 at h
  split at h
  · cases h; exact sKept_ok
  · cases h; exact sSkip_ok
  · cases h; exact sLetter_ok
  · cases h; exact sSign_ok
  · cases h
def ob27 (fa fb : Int) (out : List R53) (k at' n : Int) (w : ByteArray) : List (TO U) := [.cells [.v (.int .i64 fa), .v (.int .i64 fb)] false, .row .t53 out false, .cells [.v (.int .i64 k), .v (.int .i64 at'), .v (.int .i64 n), .v (.string w)] false]
def in27 (s : ByteArray) (i from' : Int) (o : List (TO U)) : TS U := mkS 109 [(0, .v (.string s)), (3, .ref 0 0 0), (4, .full 1), (5, .v (.int .i64 i)), (6, .ref 2 0 0), (7, .v (.int .i64 from'))] o 0
/-- Behind a name. -/
def we (s : ByteArray) : Nat → Int → Int
  | 0, i => i
  | N + 1, i => if i < s.size then (match getB s i with
    | some c => if 0 < letter c then we s N (i + 1) else i
    | none => i) else i
theorem g3 (lp : Lp U) (s : ByteArray) (out : List R53) (fa fb k at' n i from' : Int) (w : ByteArray) (N : Nat) : fnLoop X E27 an27 lp Try.f41 3 N.succ (in27 s i from' (ob27 fa fb out k at' n w)) =
    cond (decide (i < s.size)) ((getB s i).bind fun c => cond (decide (0 < letter c)) (fnLoop X E27 an27 lp Try.f41 3 N (in27 s (IntKind.i64.wrap (i + 1)) from' (ob27 fa fb out k at' n w))) (some (.exit 3, in27 s i from' (ob27 fa fb out k at' n w))))
      (some (.exit 3, in27 s i from' (ob27 fa fb out k at' n w))) := by kernel_rfl
theorem rounds3 (lp : Lp U) {s : ByteArray} (hs : s.size ≤ 1000000) (out : List R53) (fa fb k at' n from' : Int) (w : ByteArray) : ∀ (N : Nat) (i : Int), 0 ≤ i → (s.size : Int) ≤ i + N →
    fnLoop X E27 an27 lp Try.f41 3 (N + 1) (in27 s i from' (ob27 fa fb out k at' n w)) = some (.exit 3, in27 s (we s (N + 1) i) from' (ob27 fa fb out k at' n w)) := by
  intro N
  induction N with
  | zero =>
    intro i h0 h1
    have hi : ¬ i < (s.size : Int) := by omega
    rw [g3, we, if_neg hi]
    simp only [hi, decide_false, cond_false]
  | succ N ih =>
    intro i h0 h1
    rw [g3, we]
    by_cases hi : i < (s.size : Int)
    · obtain ⟨c, hc⟩ := getB_at h0 hi
      have hw : IntKind.i64.wrap (i + 1) = i + 1 := wrap_i64 (by omega) (by omega)
      rw [if_pos hi, hc, hw, ih (i + 1) (by omega) (by omega), Option.bind_some]
      simp only [hi, decide_true, cond_true]
      by_cases hl : 0 < letter c
      · simp only [hl, decide_true, cond_true, if_true]
      · simp only [hl, decide_false, cond_false, if_false]
    · rw [if_neg hi]
      simp only [hi, decide_false, cond_false]
theorem we_ge (s : ByteArray) : ∀ (N : Nat) (i : Int), i ≤ s.size → i ≤ we s N i ∧ we s N i ≤ s.size := by
  intro N
  induction N with
  | zero => intro i h; exact ⟨Int.le_refl _, h⟩
  | succ N ih =>
    intro i h
    unfold we
    split
    · have := ih (i + 1) (by omega)
      split
      · split
        · exact ⟨by omega, this.2⟩
        · exact ⟨Int.le_refl _, h⟩
      · exact ⟨Int.le_refl _, h⟩
    · exact ⟨Int.le_refl _, h⟩
/-! ### Numbers -/
def dig (n c : Int) : Int := IntKind.i64.wrap (IntKind.i64.wrap (n * 10) + IntKind.i64.wrap (IntKind.u8.wrap (c - 48)))
/-- A number's flaw: the nil list, and where the number begins. -/
def bad5 (s : ByteArray) (i from' : Int) (o : List (TO U)) : TS U := mkS 109 [(0, .v (.string s)), (2, .v (.slice none 0 0)), (3, .ref 0 0 0), (4, .full 1), (5, .v (.int .i64 i)), (6, .ref 2 0 0), (7, .v (.int .i64 from'))] o 0
theorem g5 (lp : Lp U) (s : ByteArray) (out : List R53) (fa fb k at' n i from' : Int) (w : ByteArray) (N : Nat) : fnLoop X E27 an27 lp Try.f41 5 N.succ (in27 s i from' (ob27 fa fb out k at' n w)) =
    cond (decide (i < s.size)) ((getB s i).bind fun c => cond (decide (letter c = 2)) ((getB s i).bind fun c2 =>
      cond (decide (2147483648 < dig n c2)) (some (.ret, bad5 s i from' (ob27 180 from' out k at' (dig n c2) w))) (fnLoop X E27 an27 lp Try.f41 5 N (in27 s (IntKind.i64.wrap (i + 1)) from' (ob27 fa fb out k at' (dig n c2) w))))
      (some (.exit 5, in27 s i from' (ob27 fa fb out k at' n w))))
      (some (.exit 5, in27 s i from' (ob27 fa fb out k at' n w))) := by kernel_rfl
def nb (s : ByteArray) : Nat → Int → Int → Int × Int × Bool
  | 0, i, n => (i, n, false)
  | N + 1, i, n => if i < s.size then (match getB s i with
    | some c => if letter c = 2 then (if 2147483648 < dig n c then (i, dig n c, true) else nb s N (i + 1) (dig n c)) else (i, n, false)
    | none => (i, n, false)) else (i, n, false)
def end5 (s : ByteArray) (from' : Int) (fa fb : Int) (out : List R53) (k at' : Int) (w : ByteArray) (r : Int × Int × Bool) : Exit × TS U :=
  cond r.2.2 (.ret, bad5 s r.1 from' (ob27 180 from' out k at' r.2.1 w)) (.exit 5, in27 s r.1 from' (ob27 fa fb out k at' r.2.1 w))
theorem rounds5 (lp : Lp U) {s : ByteArray} (hs : s.size ≤ 1000000) (out : List R53) (fa fb k at' from' : Int) (w : ByteArray) : ∀ (N : Nat) (i n : Int), 0 ≤ i → (s.size : Int) ≤ i + N →
    fnLoop X E27 an27 lp Try.f41 5 (N + 1) (in27 s i from' (ob27 fa fb out k at' n w)) = some (end5 s from' fa fb out k at' w (nb s (N + 1) i n)) := by
  intro N
  induction N with
  | zero =>
    intro i n h0 h1
    have hi : ¬ i < (s.size : Int) := by omega
    rw [g5, nb, if_neg hi]
    simp only [hi, decide_false, cond_false]
    rfl
  | succ N ih =>
    intro i n h0 h1
    rw [g5, nb]
    by_cases hi : i < (s.size : Int)
    · obtain ⟨c, hc⟩ := getB_at h0 hi
      have hw : IntKind.i64.wrap (i + 1) = i + 1 := wrap_i64 (by omega) (by omega)
      rw [if_pos hi, hc, hw, Option.bind_some, Option.bind_some, ih (i + 1) (dig n c) (by omega) (by omega)]
      simp only [hi, decide_true, cond_true]
      by_cases hl : letter c = 2
      · by_cases hb : 2147483648 < dig n c
        · simp only [hl, hb, decide_true, cond_true, if_true]
          rfl
        · simp only [hl, hb, decide_true, decide_false, cond_true, cond_false, if_true, if_false]
      · simp only [hl, decide_false, cond_false, if_false]
        rfl
    · rw [if_neg hi]
      simp only [hi, decide_false, cond_false]
      rfl
theorem nb_ge (s : ByteArray) : ∀ (N : Nat) (i n : Int), i ≤ s.size → i ≤ (nb s N i n).1 ∧ (nb s N i n).1 ≤ s.size := by
  intro N
  induction N with
  | zero => intro i n h; exact ⟨Int.le_refl _, h⟩
  | succ N ih =>
    intro i n h
    unfold nb
    split
    · split
      · rename_i c hc
        have := ih (i + 1) (dig n c) (by omega)
        split
        · split
          · exact ⟨Int.le_refl _, h⟩
          · exact ⟨by omega, this.2⟩
        · exact ⟨Int.le_refl _, h⟩
      · exact ⟨Int.le_refl _, h⟩
    · exact ⟨Int.le_refl _, h⟩
/-! ### Loops of Lex -/
def dl3 (s : TS U) : Option (Int × Int × List R53 × Int × Int × Int × ByteArray × ByteArray × Int × Int) := match told s 109 [0, 3, 4, 5, 6, 7] 0, s.objs with
  | some [a0, a1, a2, a3, a4, a5], [o0, o1, o2] =>
    match o0 with
    | .cells [q0, q1] false =>
      match q0 with
      | .v (.int .i64 fa) =>
        match q1 with
        | .v (.int .i64 fb) =>
          match o1 with
          | .row .t53 out false =>
            match o2 with
            | .cells [q2, q3, q4, q5] false =>
              match q2 with
              | .v (.int .i64 k) =>
                match q3 with
                | .v (.int .i64 at') =>
                  match q4 with
                  | .v (.int .i64 n) =>
                    match q5 with
                    | .v (.string w) =>
                      match a0 with
                      | .v (.string t) =>
                        match a1 with
                        | .ref 0 0 0 =>
                          match a2 with
                          | .full 1 =>
                            match a3 with
                            | .v (.int .i64 i) =>
                              match a4 with
                              | .ref 2 0 0 =>
                                match a5 with
                                | .v (.int .i64 from') =>
                                  some (fa, fb, out, k, at', n, w, t, i, from')
                                | _ => none
                              | _ => none
                            | _ => none
                          | _ => none
                        | _ => none
                      | _ => none
                    | _ => none
                  | _ => none
                | _ => none
              | _ => none
            | _ => none
          | _ => none
        | _ => none
      | _ => none
    | _ => none
  | _, _ => none
theorem dl3_ok {s : TS U} {fa : Int} {fb : Int} {out : List R53} {k : Int} {at' : Int} {n : Int} {w : ByteArray} {t : ByteArray} {i : Int} {from' : Int} (h : dl3 s = some (fa, fb, out, k, at', n, w, t, i, from')) : s = mkS (U := U) 109 ([0, 3, 4, 5, 6, 7].zip ([.v (.string t), .ref 0 0 0, .full 1, .v (.int .i64 i), .ref 2 0 0, .v (.int .i64 from')] : List (TV U))) ([.cells [.v (.int .i64 fa), .v (.int .i64 fb)] false, .row .t53 out false, .cells [.v (.int .i64 k), .v (.int .i64 at'), .v (.int .i64 n), .v (.string w)] false] : List (TO U)) 0 := by
  unfold dl3 at h
  split at h <;> try (cases h; done)
  rename_i ht ho
  have hs := told_ok ht
  rw [ho] at hs
  repeat' split at h
  all_goals first | (cases h; done) | (cases h; exact hs)
def lc3 : LC U := .of dl3 (fun (fa, fb, out, k, at', n, w, t, i, from') => PreS t i) (.exit 3) (fun (fa, fb, out, k, at', n, w, t, i, from') => in27 t (we t (t.size + 1) i) from' (ob27 fa fb out k at' n w))
def lc5 : LC U := .of2 dl3 (fun (fa, fb, out, k, at', n, w, t, i, from') => PreS t i) (fun (fa, fb, out, k, at', n, w, t, i, from') => (nb t (t.size + 1) i n).2.2)
  .ret (fun (fa, fb, out, k, at', n, w, t, i, from') => bad5 t (nb t (t.size + 1) i n).1 from' (ob27 180 from' out k at' (nb t (t.size + 1) i n).2.1 w))
  (.exit 5) (fun (fa, fb, out, k, at', n, w, t, i, from') => in27 t (nb t (t.size + 1) i n).1 from' (ob27 fa fb out k at' (nb t (t.size + 1) i n).2.1 w))
theorem lc3_ok (lp : Lp U) (st : TS U) (p : Exit × TS U) (hs : lc3.F st (fun e s => some (e, s)) = some p) : ∃ n, fnLoop X E27 an27 lp Try.f41 3 n st = some p := by
  obtain ⟨⟨fa, fb, out, k, at', n, w, t, i, from'⟩, hx, hp, rfl⟩ := LC.of_some hs
  obtain rfl := dl3_ok hx
  obtain ⟨h1, h2⟩ := hp
  exact ⟨t.size + 1, rounds3 lp h1 out fa fb k at' n from' w t.size i h2 (by omega)⟩
theorem lc5_ok (lp : Lp U) (st : TS U) (p : Exit × TS U) (hs : lc5.F st (fun e s => some (e, s)) = some p) : ∃ n, fnLoop X E27 an27 lp Try.f41 5 n st = some p := by
  obtain ⟨⟨fa, fb, out, k, at', n, w, t, i, from'⟩, hx, hp, rfl⟩ := LC.of2_some hs
  obtain rfl := dl3_ok hx
  obtain ⟨h1, h2⟩ := hp
  exact ⟨t.size + 1, rounds5 lp h1 out fa fb k at' from' w t.size i n h2 (by omega)⟩
end Go.Proofs.Ytpkgikchphgfaaa.Fl

/- The references' lexer: a word. -/
namespace Go.Proofs.Ytpkgikchphgfaaa.Fl
open Go Go.RowKit Go.Proofs.Ytpkgikchphgfaaa.Eng
set_option linter.unusedVariables false
set_option linter.unusedSimpArgs false
set_option maxRecDepth 20000
noncomputable def L0 : Code := loopAt Try.f41 0
noncomputable def LB : Code := bB (sR L0)
def ob2 (fa fb : Int) (out : List R53) : List (TO U) := [.cells [.v (.int .i64 fa), .v (.int .i64 fb)] false, .row .t53 out false]
/-- A cut. -/
def cutS (s : ByteArray) (i j : Int) : ByteArray := (cutB s (some i) (some j)).getD ⟨#[]⟩
/-- The word that begins there, and where it ends; none: none can. -/
def wd1 (s : ByteArray) (i : Int) : Option (R53 × Int) := (getB s i).bind fun c =>
  if letter c = 1 then some (⟨if kept (cutS s i (we s (s.size + 1) i)) then 3 else 1, i, 0, cutS s i (we s (s.size + 1) i)⟩, we s (s.size + 1) i)
  else if letter c = 2 then (if (nb s (s.size + 1) i 0).2.2 then none else some (⟨2, i, (nb s (s.size + 1) i 0).2.1, cutS s i (nb s (s.size + 1) i 0).1⟩, (nb s (s.size + 1) i 0).1))
  else if sgn s i = 0 then none else some (⟨4, i, 0, cutS s i (i + sgn s i)⟩, i + sgn s i)
/-- The words from there on; where none can be. -/
def lxs (s : ByteArray) : Nat → Int → List R53 → List R53 × Option Int
  | 0, i, out => (out, none)
  | N + 1, i, out => if i < s.size then (match wd1 s i with
    | some (t, j) => lxs s N (sk s (s.size + 1) j false).1 (out ++ [t])
    | none => (out, some i)) else (out, none)
def badL (s : ByteArray) (fb : Int) (out : List R53) : TS U := mkS 109 [(0, .v (.string s)), (2, .v (.slice none 0 0)), (3, .ref 0 0 0), (4, .full 1)] (ob2 180 fb out) 0
def exL (s : ByteArray) (fa fb : Int) (out : List R53) : TS U := mkS 109 [(0, .v (.string s)), (3, .ref 0 0 0), (4, .full 1)] (ob2 fa fb out) 0
def dl0 (s : TS U) : Option (Int × Int × List R53 × ByteArray × Int) := match told s 109 [0, 3, 4, 5] 0, s.objs with
  | some [a0, a1, a2, a3], [o0, o1] =>
    match o0 with
    | .cells [q0, q1] false =>
      match q0 with
      | .v (.int .i64 fa) =>
        match q1 with
        | .v (.int .i64 fb) =>
          match o1 with
          | .row .t53 out false =>
            match a0 with
            | .v (.string t) =>
              match a1 with
              | .ref 0 0 0 =>
                match a2 with
                | .full 1 =>
                  match a3 with
                  | .v (.int .i64 i) =>
                    some (fa, fb, out, t, i)
                  | _ => none
                | _ => none
              | _ => none
            | _ => none
          | _ => none
        | _ => none
      | _ => none
    | _ => none
  | _, _ => none
theorem dl0_ok {s : TS U} {fa : Int} {fb : Int} {out : List R53} {t : ByteArray} {i : Int} (h : dl0 s = some (fa, fb, out, t, i)) : s = mkS (U := U) 109 ([0, 3, 4, 5].zip ([.v (.string t), .ref 0 0 0, .full 1, .v (.int .i64 i)] : List (TV U))) ([.cells [.v (.int .i64 fa), .v (.int .i64 fb)] false, .row .t53 out false] : List (TO U)) 0 := by
  unfold dl0 at h
  split at h <;> try (cases h; done)
  rename_i ht ho
  have hs := told_ok ht
  rw [ho] at hs
  repeat' split at h
  all_goals first | (cases h; done) | (cases h; exact hs)
def PreL (s : ByteArray) (i : Int) (out : Nat) : Prop := s.size ≤ 100000 ∧ 0 ≤ i ∧ out = 0
instance (s : ByteArray) (i : Int) (out : Nat) : Decidable (PreL s i out) := by unfold PreL; infer_instance
def lc0 : LC U := .of2 dl0 (fun (fa, fb, out, t, i) => PreL t i out.length) (fun (fa, fb, out, t, i) => (lxs t (t.size + 1) i []).2.isSome)
  .ret (fun (fa, fb, out, t, i) => badL t ((lxs t (t.size + 1) i []).2.getD 0) (lxs t (t.size + 1) i []).1) (.exit 0) (fun (fa, fb, out, t, i) => exL t fa fb (lxs t (t.size + 1) i []).1)
def lp27 : Lp U := lpL [(0, lc0), (3, lc3), (5, lc5)]
def l0 (s : ByteArray) (i : Int) (o : List (TO U)) : TS U := mkS 109 [(0, .v (.string s)), (3, .ref 0 0 0), (4, .full 1), (5, .v (.int .i64 i))] o 0
def ix (s : ByteArray) (i from' : Int) (o : List (TO U)) (l : List (Nat × TV U)) : TS U := mkS 109 ([(0, .v (.string s)), (3, .ref 0 0 0), (4, .full 1), (5, .v (.int .i64 i)), (6, .ref 2 0 0), (7, .v (.int .i64 from'))] ++ l) o 0
noncomputable def SW : Code := bB (sR (sL (sR LB)))
noncomputable def SA : Code := cT (sR SW)
noncomputable def SBC : Code := cF (sR SW)
section
variable (R : Type) (K : Exit → TS U → Option R) (lp : Lp U) (s : ByteArray) (out : List R53) (fa fb k at' n i from' : Int) (w : ByteArray)
theorem a0 : evC X E27 an27 lp (sL L0) 0 (l0 s i (ob2 fa fb out)) K = cond (decide (i < s.size)) (K .normal (mkS 109 [(0, .v (.string s)), (3, .ref 0 0 0), (4, .full 1), (5, .v (.int .i64 i)), (19, .v (.bool true))] (ob2 fa fb out) 0)) (K (.exit 0) (mkS 109 [(0, .v (.string s)), (3, .ref 0 0 0), (4, .full 1), (5, .v (.int .i64 i)), (19, .v (.bool false))] (ob2 fa fb out) 0)) := by kernel_rfl
theorem a1 : evC X E27 an27 lp (sL LB) 1 (mkS 109 [(0, .v (.string s)), (3, .ref 0 0 0), (4, .full 1), (5, .v (.int .i64 i)), (19, .v (.bool true))] (ob2 fa fb out) 0) K = K .normal (ix s i i (ob27 fa fb out 4 i 0 ⟨#[]⟩) []) := by kernel_rfl
theorem a2 : evC X E27 an27 lp (sL (sL (sR LB))) 1 (ix s i from' (ob27 fa fb out k at' n w) []) K = (getB s i).bind fun c => K .normal (ix s i from' (ob27 fa fb out k at' n w) [(26, .v (.int .i64 (letter c)))]) := by kernel_rfl
end
theorem b1 (R : Type) (K : Exit →
  TS U →
    Option
      R) (lp : Lp
  U) (s : ByteArray) (out : List
  R53) (fa : Int) (fb : Int) (k : Int) (at' : Int) (n : Int) (i : Int) (from' : Int) (c : Int) (w : ByteArray) : (evC X
  E27 an27 lp (sL SW) 2 (ix s i from' (ob27 fa fb out k at' n w) [(26, TV.v (Value.int IntKind.i64 c))]) K) =
  K Exit.normal
  (mkS 109
    [(0, TV.v (Value.string s)), (3, TV.ref 0 0 0), (4, TV.full 1), (5, TV.v (Value.int IntKind.i64 i)),
      (6, TV.ref 2 0 0), (7, TV.v (Value.int IntKind.i64 from')), (26, TV.v (Value.int IntKind.i64 c)),
      (37, TV.v (Value.bool (decide (c = 1))))]
    [TO.cells [TV.v (Value.int IntKind.i64 fa), TV.v (Value.int IntKind.i64 fb)] false, TO.row C.t53 out false,
      TO.cells
        [TV.v (Value.int IntKind.i64 k), TV.v (Value.int IntKind.i64 at'), TV.v (Value.int IntKind.i64 n),
          TV.v (Value.string w)]
        false]
    0) := by kernel_rfl
theorem b2 (R : Type) (K : Exit →
  TS U →
    Option
      R) (s : ByteArray) (out : List
  R53) (fa : Int) (fb : Int) (k : Int) (at' : Int) (n : Int) (i : Int) (from' : Int) (c : Int) (w : ByteArray) : (evC X
  E27 an27 lp27 SA 2
  (ix s i from' (ob27 fa fb out k at' n w) [(26, TV.v (Value.int IntKind.i64 c)), (37, TV.v (Value.bool true))]) K) =
  if PreS s i then
  (cutB s (some from') (some (we s (s.size + 1) i))).bind fun (c : ByteArray) =>
    if True then
      bif kept c then
        K Exit.normal
          (mkS 109
            [(0, TV.v (Value.string s)), (3, TV.ref 0 0 0), (4, TV.full 1),
              (5, TV.v (Value.int IntKind.i64 (we s (s.size + 1) i))), (6, TV.ref 2 0 0),
              (7, TV.v (Value.int IntKind.i64 from'))]
            [TO.cells [TV.v (Value.int IntKind.i64 fa), TV.v (Value.int IntKind.i64 fb)] false, TO.row C.t53 out false,
              TO.cells
                [TV.v (Value.int IntKind.i64 3), TV.v (Value.int IntKind.i64 at'), TV.v (Value.int IntKind.i64 n),
                  TV.v (Value.string w)]
                false]
            0)
      else
        K Exit.normal
          (mkS 109
            [(0, TV.v (Value.string s)), (3, TV.ref 0 0 0), (4, TV.full 1),
              (5, TV.v (Value.int IntKind.i64 (we s (s.size + 1) i))), (6, TV.ref 2 0 0),
              (7, TV.v (Value.int IntKind.i64 from')), (57, TV.v (Value.bool false))]
            [TO.cells [TV.v (Value.int IntKind.i64 fa), TV.v (Value.int IntKind.i64 fb)] false, TO.row C.t53 out false,
              TO.cells
                [TV.v (Value.int IntKind.i64 1), TV.v (Value.int IntKind.i64 at'), TV.v (Value.int IntKind.i64 n),
                  TV.v (Value.string w)]
                false]
            0)
    else none
else none := by kernel_rfl
theorem b3 (R : Type) (K : Exit →
  TS U →
    Option
      R) (lp : Lp
  U) (s : ByteArray) (out : List
  R53) (fa : Int) (fb : Int) (k : Int) (at' : Int) (n : Int) (i : Int) (from' : Int) (c : Int) (w : ByteArray) : (evC X
  E27 an27 lp (sL SBC) 2
  (ix s i from' (ob27 fa fb out k at' n w) [(26, TV.v (Value.int IntKind.i64 c)), (37, TV.v (Value.bool false))]) K) =
  K Exit.normal
  (mkS 109
    [(0, TV.v (Value.string s)), (3, TV.ref 0 0 0), (4, TV.full 1), (5, TV.v (Value.int IntKind.i64 i)),
      (6, TV.ref 2 0 0), (7, TV.v (Value.int IntKind.i64 from')), (59, TV.v (Value.bool (decide (c = 2))))]
    [TO.cells [TV.v (Value.int IntKind.i64 fa), TV.v (Value.int IntKind.i64 fb)] false, TO.row C.t53 out false,
      TO.cells
        [TV.v (Value.int IntKind.i64 k), TV.v (Value.int IntKind.i64 at'), TV.v (Value.int IntKind.i64 n),
          TV.v (Value.string w)]
        false]
    0) := by kernel_rfl
theorem b4 (R : Type) (K : Exit →
  TS U →
    Option
      R) (s : ByteArray) (out : List
  R53) (fa : Int) (fb : Int) (k : Int) (at' : Int) (n : Int) (i : Int) (from' : Int) (w : ByteArray) : (evC X E27 an27
  lp27 (cT (sR SBC)) 2 (ix s i from' (ob27 fa fb out k at' n w) [(59, TV.v (Value.bool true))]) K) =
  if PreS s i then
  bif (nb s (s.size + 1) i n).snd.snd then
    K Exit.ret
      (mkS 109
        [(0, TV.v (Value.string s)), (2, TV.v (Value.slice none 0 0)), (3, TV.ref 0 0 0), (4, TV.full 1),
          (5, TV.v (Value.int IntKind.i64 (nb s (s.size + 1) i n).fst)), (6, TV.ref 2 0 0),
          (7, TV.v (Value.int IntKind.i64 from'))]
        [TO.cells [TV.v (Value.int IntKind.i64 180), TV.v (Value.int IntKind.i64 from')] false, TO.row C.t53 out false,
          TO.cells
            [TV.v (Value.int IntKind.i64 2), TV.v (Value.int IntKind.i64 at'),
              TV.v (Value.int IntKind.i64 (nb s (s.size + 1) i n).snd.fst), TV.v (Value.string w)]
            false]
        0)
  else
    K Exit.normal
      (mkS 109
        [(0, TV.v (Value.string s)), (3, TV.ref 0 0 0), (4, TV.full 1),
          (5, TV.v (Value.int IntKind.i64 (nb s (s.size + 1) i n).fst)), (6, TV.ref 2 0 0),
          (7, TV.v (Value.int IntKind.i64 from'))]
        [TO.cells [TV.v (Value.int IntKind.i64 fa), TV.v (Value.int IntKind.i64 fb)] false, TO.row C.t53 out false,
          TO.cells
            [TV.v (Value.int IntKind.i64 2), TV.v (Value.int IntKind.i64 at'),
              TV.v (Value.int IntKind.i64 (nb s (s.size + 1) i n).snd.fst), TV.v (Value.string w)]
            false]
        0)
else none := by kernel_rfl
theorem b5 (R : Type) (K : Exit →
  TS U →
    Option
      R) (lp : Lp
  U) (s : ByteArray) (out : List
  R53) (fa : Int) (fb : Int) (k : Int) (at' : Int) (n : Int) (i : Int) (from' : Int) (w : ByteArray) : (evC X E27 an27
  lp (cF (sR SBC)) 2 (ix s i from' (ob27 fa fb out k at' n w) [(59, TV.v (Value.bool false))]) K) =
  if Pre45 s i then
  bif decide (sgn s i = 0) then
    K Exit.ret
      (mkS 109
        [(0, TV.v (Value.string s)), (2, TV.v (Value.slice none 0 0)), (3, TV.ref 0 0 0), (4, TV.full 1),
          (5, TV.v (Value.int IntKind.i64 i)), (6, TV.ref 2 0 0), (7, TV.v (Value.int IntKind.i64 from')),
          (8, TV.v (Value.int IntKind.i64 (sgn s i))), (31, TV.v (Value.bool true)),
          (32, TV.v (Value.int IntKind.i64 from')),
          (33, TV.agg [TV.v (Value.int IntKind.i64 180), TV.v (Value.int IntKind.i64 from')])]
        [TO.cells [TV.v (Value.int IntKind.i64 180), TV.v (Value.int IntKind.i64 from')] false, TO.row C.t53 out false,
          TO.cells
            [TV.v (Value.int IntKind.i64 k), TV.v (Value.int IntKind.i64 at'), TV.v (Value.int IntKind.i64 n),
              TV.v (Value.string w)]
            false]
        0)
  else
    K Exit.normal
      (mkS 109
        [(0, TV.v (Value.string s)), (3, TV.ref 0 0 0), (4, TV.full 1),
          (5, TV.v (Value.int IntKind.i64 (IntKind.i64.wrap (i + sgn s i)))), (6, TV.ref 2 0 0),
          (7, TV.v (Value.int IntKind.i64 from'))]
        [TO.cells [TV.v (Value.int IntKind.i64 fa), TV.v (Value.int IntKind.i64 fb)] false, TO.row C.t53 out false,
          TO.cells
            [TV.v (Value.int IntKind.i64 k), TV.v (Value.int IntKind.i64 at'), TV.v (Value.int IntKind.i64 n),
              TV.v (Value.string w)]
            false]
        0)
else none := by kernel_rfl
end Go.Proofs.Ytpkgikchphgfaaa.Fl

/- The references' lexer: a round, and all of them. -/
namespace Go.Proofs.Ytpkgikchphgfaaa.Fl
open Go Go.RowKit Go.Proofs.Ytpkgikchphgfaaa.Eng
set_option linter.unusedVariables false
set_option linter.unusedSimpArgs false
set_option maxRecDepth 20000
theorem hL0 : loopAt Try.f41 0 = .seq (sL L0) (.block 1 (.seq (sL LB) (.seq (.seq (sL (sL (sR LB))) (.block 2 (.seq (sL SW) (sR SW)))) (sR (sR LB))))) := by kernel_rfl
section
variable (R : Type) (K : Exit → TS U → Option R) (lp : Lp U) (s : ByteArray) (out : List R53) (fa fb k at' n i from' c : Int) (w : ByteArray) (v : Bool)
theorem c1 : evC X E27 an27 lp (sR SW) 2 (ix s i from' (ob27 fa fb out k at' n w) [(26, .v (.int .i64 c)), (37, .v (.bool v))]) K = cond v (evC X E27 an27 lp SA 2 (ix s i from' (ob27 fa fb out k at' n w) [(26, .v (.int .i64 c)), (37, .v (.bool true))]) K) (evC X E27 an27 lp SBC 2 (ix s i from' (ob27 fa fb out k at' n w) [(26, .v (.int .i64 c)), (37, .v (.bool false))]) K) := by kernel_rfl
theorem c2 : evC X E27 an27 lp (sR SBC) 2 (ix s i from' (ob27 fa fb out k at' n w) [(59, .v (.bool v))]) K = cond v (evC X E27 an27 lp (cT (sR SBC)) 2 (ix s i from' (ob27 fa fb out k at' n w) [(59, .v (.bool true))]) K) (evC X E27 an27 lp (cF (sR SBC)) 2 (ix s i from' (ob27 fa fb out k at' n w) [(59, .v (.bool false))]) K) := by kernel_rfl
theorem hSBC : SBC = .seq (sL SBC) (sR SBC) := by kernel_rfl
theorem a3 : evC X E27 an27 lp (sR (sR LB)) 1 (ix s i from' (ob27 fa fb out k at' n w) []) K = (cutB s (some from') (some i)).bind fun c =>
    if (out.length + 1) * 40 ≤ 140737488355328 then (if PreS s i then K .normal (l0 s (sk s (s.size + 1) i false).1 (ob2 fa fb (out ++ [⟨k, at', n, c⟩]))) else none) else none := by kernel_rfl
theorem a3' : evC X E27 an27 lp (sR (sR LB)) 1 (ix s i from' (ob27 fa fb out k at' n w) [(57, .v (.bool false))]) K = (cutB s (some from') (some i)).bind fun c =>
    if (out.length + 1) * 40 ≤ 140737488355328 then (if PreS s i then K .normal (l0 s (sk s (s.size + 1) i false).1 (ob2 fa fb (out ++ [⟨k, at', n, c⟩]))) else none) else none := by kernel_rfl
end
theorem cutB_at {s : ByteArray} {i j : Int} (h0 : 0 ≤ i) (h1 : i ≤ j) (h2 : j ≤ s.size) : cutB s (some i) (some j) = some (cutS s i j) := by
  have e : cutB s (some i) (some j) = some (s.extract i.toNat j.toNat) := if_pos ⟨h0, h1, h2⟩
  unfold cutS
  rw [e]
  rfl
theorem we_gt {s : ByteArray} {N : Nat} {i c : Int} (hc : getB s i = some c) (hl : 0 < letter c) (hi : i < s.size) : i + 1 ≤ we s (N + 1) i ∧ we s (N + 1) i ≤ s.size := by
  rw [we, if_pos hi, hc]
  dsimp only
  rw [if_pos hl]
  exact we_ge s N (i + 1) (by omega)
theorem nb_gt {s : ByteArray} {N : Nat} {i n c : Int} (hc : getB s i = some c) (hl : letter c = 2) (hi : i < s.size) (hb : (nb s (N + 1) i n).2.2 = false) : i + 1 ≤ (nb s (N + 1) i n).1 ∧ (nb s (N + 1) i n).1 ≤ s.size := by
  rw [nb, if_pos hi, hc] at hb ⊢
  dsimp only at hb ⊢
  rw [if_pos hl] at hb ⊢
  split
  · rename_i hg
    rw [if_pos hg] at hb
    cases hb
  · exact nb_ge s N (i + 1) _ (by omega)
theorem sgn_gt {s : ByteArray} {i : Int} (hi : i < s.size) (h : sgn s i ≠ 0) : i + 1 ≤ i + sgn s i ∧ i + sgn s i ≤ s.size := by
  unfold sgn at h ⊢
  cases hs : isSg s i with
  | false => rw [hs] at h; exact absurd rfl h
  | true =>
    cases he : eqEq s i with
    | false => exact ⟨by simp only [cond_true, cond_false]; omega, by simp only [cond_true, cond_false]; omega⟩
    | true =>
      unfold eqEq at he
      rw [Bool.and_eq_true] at he
      have := of_decide_eq_true he.1
      simp only [cond_true]
      omega
theorem letter_cases (c : Int) : letter c = 0 ∨ letter c = 1 ∨ letter c = 2 := by
  unfold letter
  split
  · exact .inr (.inl rfl)
  · split
    · exact .inr (.inr rfl)
    · exact .inl rfl
theorem wd1_gt {s : ByteArray} {i : Int} (h0 : 0 ≤ i) (hi : i < s.size) {t : R53} {j : Int} (h : wd1 s i = some (t, j)) : i + 1 ≤ j ∧ j ≤ s.size := by
  obtain ⟨c, hc⟩ := getB_at h0 hi
  unfold wd1 at h
  rw [hc, Option.bind_some] at h
  split at h
  · rename_i hl
    cases h
    exact we_gt hc (by omega) hi
  · split at h
    · rename_i hl
      split at h
      · cases h
      · rename_i hb
        cases h
        exact nb_gt hc hl hi (by simpa using hb)
    · split at h
      · cases h
      · rename_i hs
        cases h
        exact sgn_gt hi hs
theorem roundL {R : Type} {K : Exit → TS U → Option R} {s : ByteArray} {out : List R53} {fa fb i : Int} (hs : s.size ≤ 1000000) (h0 : 0 ≤ i) (hi : i < s.size) (ho : out.length ≤ 1000000) :
    (∀ t j, wd1 s i = some (t, j) → evC X E27 an27 lp27 (loopAt Try.f41 0) 0 (l0 s i (ob2 fa fb out)) K = K .normal (l0 s (sk s (s.size + 1) j false).1 (ob2 fa fb (out ++ [t])))) ∧
    (wd1 s i = none → ∃ st : TS U, evNorm (X := X) (an27.out 0) st = some (badL s i out) ∧ evC X E27 an27 lp27 (loopAt Try.f41 0) 0 (l0 s i (ob2 fa fb out)) K = K .ret st) := by
  obtain ⟨c, hc⟩ := getB_at h0 hi
  have hd : decide (i < (s.size : Int)) = true := decide_eq_true hi
  have hps : PreS s i := ⟨hs, h0⟩
  have hp45 : Pre45 s i := ⟨hs, h0, hi⟩
  have hlen : ∀ _ : Unit, (out.length + 1) * 40 ≤ 140737488355328 := fun _ => by omega
  have hcut : ∀ j, i ≤ j → j ≤ s.size → cutB s (some i) (some j) = some (cutS s i j) := fun j h1 h2 => cutB_at h0 h1 h2
  rw [hL0, evC_seq, a0, hd, cond_true]
  dsimp only
  rw [evC_block, evC_seq, a1]
  dsimp only
  rw [evC_seq, evC_seq, a2, hc, Option.bind_some]
  dsimp only
  rw [evC_block, evC_seq, b1]
  have e1 : ∀ (v : Bool), mkS (U := U) 109 [(0, .v (.string s)), (3, .ref 0 0 0), (4, .full 1), (5, .v (.int .i64 i)), (6, .ref 2 0 0), (7, .v (.int .i64 i)), (26, .v (.int .i64 (letter c))), (37, .v (.bool v))] [.cells [.v (.int .i64 fa), .v (.int .i64 fb)] false, .row .t53 out false, .cells [.v (.int .i64 4), .v (.int .i64 i), .v (.int .i64 0), .v (.string ⟨#[]⟩)] false] 0 = ix s i i (ob27 fa fb out 4 i 0 ⟨#[]⟩) [(26, .v (.int .i64 (letter c))), (37, .v (.bool v))] := fun _ => rfl
  have e2 : ∀ (v : Bool), mkS (U := U) 109 [(0, .v (.string s)), (3, .ref 0 0 0), (4, .full 1), (5, .v (.int .i64 i)), (6, .ref 2 0 0), (7, .v (.int .i64 i)), (59, .v (.bool v))] [.cells [.v (.int .i64 fa), .v (.int .i64 fb)] false, .row .t53 out false, .cells [.v (.int .i64 4), .v (.int .i64 i), .v (.int .i64 0), .v (.string ⟨#[]⟩)] false] 0 = ix s i i (ob27 fa fb out 4 i 0 ⟨#[]⟩) [(59, .v (.bool v))] := fun _ => rfl
  have e3 : ∀ (k n j : Int), mkS (U := U) 109 [(0, .v (.string s)), (3, .ref 0 0 0), (4, .full 1), (5, .v (.int .i64 j)), (6, .ref 2 0 0), (7, .v (.int .i64 i))] [.cells [.v (.int .i64 fa), .v (.int .i64 fb)] false, .row .t53 out false, .cells [.v (.int .i64 k), .v (.int .i64 i), .v (.int .i64 n), .v (.string ⟨#[]⟩)] false] 0 = ix s j i (ob27 fa fb out k i n ⟨#[]⟩) [] := fun _ _ _ => rfl
  have e4 : ∀ (k n j : Int), mkS (U := U) 109 [(0, .v (.string s)), (3, .ref 0 0 0), (4, .full 1), (5, .v (.int .i64 j)), (6, .ref 2 0 0), (7, .v (.int .i64 i)), (57, .v (.bool false))] [.cells [.v (.int .i64 fa), .v (.int .i64 fb)] false, .row .t53 out false, .cells [.v (.int .i64 k), .v (.int .i64 i), .v (.int .i64 n), .v (.string ⟨#[]⟩)] false] 0 = ix s j i (ob27 fa fb out k i n ⟨#[]⟩) [(57, .v (.bool false))] := fun _ _ _ => rfl
  dsimp only
  rw [e1, c1]
  unfold wd1
  rw [hc, Option.bind_some]
  rcases letter_cases c with hl | hl | hl
  · rw [hl, if_neg (by decide), if_neg (by decide)]
    simp only [show decide ((0 : Int) = 1) = false from rfl, cond_false]
    rw [hSBC, evC_seq, b3]
    dsimp only
    rw [e2, c2]
    simp only [show decide ((0 : Int) = 2) = false from rfl, cond_false]
    rw [b5, if_pos hp45]
    by_cases hg : sgn s i = 0
    · rw [if_pos hg]
      simp only [hg, decide_true, cond_true]
      exact ⟨fun t j h => (by cases h), fun _ => ⟨_, by kernel_rfl, rfl⟩⟩
    · rw [if_neg hg]
      obtain ⟨hj1, hj2⟩ := sgn_gt hi hg
      have hw : IntKind.i64.wrap (i + sgn s i) = i + sgn s i := wrap_i64 (by omega) (by omega)
      simp only [hg, decide_false, cond_false]
      rw [hw, e3, a3, hcut _ (by omega) hj2, Option.bind_some, if_pos (hlen ()), if_pos (show PreS s (i + sgn s i) from ⟨hs, by omega⟩)]
      exact ⟨fun t j h => (by cases h; rfl), fun h => (by cases h)⟩
  · rw [hl, if_pos (rfl : (1 : Int) = 1)]
    obtain ⟨hj1, hj2⟩ := we_gt (N := s.size) hc (by omega) hi
    rw [show decide ((1 : Int) = 1) = true from rfl, cond_true]
    rw [b2, if_pos hps, hcut _ (by omega) hj2, Option.bind_some, if_pos trivial]
    cases hk : kept (cutS s i (we s (s.size + 1) i)) with
    | true =>
      rw [cond_true]
      dsimp only
      rw [e3, a3, hcut _ (by omega) hj2, Option.bind_some, if_pos (hlen ()), if_pos (show PreS s (we s (s.size + 1) i) from ⟨hs, by omega⟩)]
      exact ⟨fun t j h => (by cases h; rfl), fun h => (by cases h)⟩
    | false =>
      rw [cond_false]
      dsimp only
      rw [e4, a3', hcut _ (by omega) hj2, Option.bind_some, if_pos (hlen ()), if_pos (show PreS s (we s (s.size + 1) i) from ⟨hs, by omega⟩)]
      exact ⟨fun t j h => (by cases h; rfl), fun h => (by cases h)⟩
  · rw [hl, if_neg (by decide), if_pos (rfl : (2 : Int) = 2)]
    simp only [show decide ((2 : Int) = 1) = false from rfl, cond_false]
    rw [hSBC, evC_seq, b3]
    dsimp only
    rw [e2, c2]
    rw [show decide ((2 : Int) = 2) = true from rfl, cond_true]
    rw [b4, if_pos hps]
    cases hb : (nb s (s.size + 1) i 0).2.2 with
    | true =>
      rw [cond_true]
      exact ⟨fun t j h => (by cases h), fun _ => ⟨_, by kernel_rfl, rfl⟩⟩
    | false =>
      obtain ⟨hj1, hj2⟩ := nb_gt (N := s.size) (n := 0) hc hl hi hb
      rw [cond_false]
      dsimp only
      rw [e3, a3, hcut _ (by omega) hj2, Option.bind_some, if_pos (hlen ()), if_pos (show PreS s (nb s (s.size + 1) i 0).1 from ⟨hs, by omega⟩)]
      exact ⟨fun t j h => (by cases h; rfl), fun h => (by cases h)⟩
def end0 (s : ByteArray) (fa fb : Int) (r : List R53 × Option Int) : Exit × TS U := cond r.2.isSome (.ret, badL s (r.2.getD 0) r.1) (.exit 0, exL s fa fb r.1)
theorem exitL {s : ByteArray} {out : List R53} {fa fb i : Int} (hi : ¬ i < s.size) (N : Nat) : fnLoop X E27 an27 lp27 Try.f41 0 (N + 1) (l0 s i (ob2 fa fb out)) = some (.exit 0, exL s fa fb out) := by
  rw [fnLoop_succ, hL0, evC_seq, a0, show decide (i < (s.size : Int)) = false from decide_eq_false hi, cond_false]
  kernel_rfl
theorem normL (s : ByteArray) (i fa fb : Int) (out : List R53) : evNorm (X := X) (an27.live 0) (l0 s i (ob2 fa fb out)) = some (l0 s i (ob2 fa fb out)) := by kernel_rfl
theorem roundsL {s : ByteArray} {fa fb : Int} (hs : s.size ≤ 100000) : ∀ (N : Nat) (i : Int) (out : List R53), 0 ≤ i → (s.size : Int) ≤ i + N → out.length + N ≤ 1000000 →
    fnLoop X E27 an27 lp27 Try.f41 0 (N + 1) (l0 s i (ob2 fa fb out)) = some (end0 s fa fb (lxs s (N + 1) i out)) := by
  intro N
  induction N with
  | zero =>
    intro i out h0 h1 h2
    rw [exitL (by omega), lxs, if_neg (by omega)]
    rfl
  | succ N ih =>
    intro i out h0 h1 h2
    rw [lxs]
    by_cases hi : i < (s.size : Int)
    · rw [if_pos hi, fnLoop_succ]
      generalize hK : (fun (ex : Exit) (s' : TS X.U) => _ : Exit → TS X.U → Option (Exit × TS X.U)) = K1
      obtain ⟨hr1, hr2⟩ := roundL (K := K1) (fa := fa) (fb := fb) (s := s) (i := i) (out := out) (by omega) h0 hi (by omega)
      cases hw : wd1 s i with
      | some x =>
        obtain ⟨t, j⟩ := x
        obtain ⟨hj1, hj2⟩ := wd1_gt h0 hi hw
        have hk := sk_ge s (s.size + 1) j false hj2
        rw [hr1 t j hw, ← hK]
        dsimp only
        rw [normL]
        dsimp only
        exact ih _ _ (by omega) (by omega) (by rw [List.length_append]; simp only [List.length_singleton]; omega)
      | none =>
        obtain ⟨st, hn, he⟩ := hr2 hw
        rw [he, ← hK]
        dsimp only
        rw [hn]
        rfl
    · rw [if_neg hi, exitL hi]
      rfl
theorem lp27_ok : ∀ c, Try.f41.body = some c → LpOk X E27 an27 lp27 (loops c 0) := lpL_ok (by kernel_rfl) fun b L hm st p hs => by
  cases hm with
  | head =>
    obtain ⟨⟨fa, fb, out, t, i⟩, hx, ⟨h1, h2, h3⟩, rfl⟩ := LC.of2_some hs
    obtain rfl := List.length_eq_zero_iff.1 h3
    obtain rfl := dl0_ok hx
    exact ⟨t.size + 1, roundsL h1 t.size i [] h2 (by omega) (by simp only [List.length_nil]; omega)⟩
  | tail _ hm => cases hm with
    | head => exact lc3_ok _ st p hs
    | tail _ hm => cases hm with
      | head => exact lc5_ok _ st p hs
      | tail _ hm => cases hm
end Go.Proofs.Ytpkgikchphgfaaa.Fl

/- The references' lexer. -/
namespace Go.Proofs.Ytpkgikchphgfaaa.Fl
open Go Go.RowKit Go.Proofs.Ytpkgikchphgfaaa.Eng
set_option linter.unusedVariables false
set_option linter.unusedSimpArgs false
set_option maxRecDepth 20000
/-- The words of a text; where none can be, if so. -/
def lexP (s : ByteArray) : List R53 × Option Int := lxs s (s.size + 1) (sk s (s.size + 1) 0 false).1 []
theorem e27 (s : ByteArray) : (evFn X E27 an27 lp27 Try.f41 [] [TV.v (Value.string s)]
  fun (o : List (TO X.U)) (v : TV X.U) => some (o, v)) =
  bif decide (32768 < (↑s.size : Int)) then
  some
    ([],
      TV.tup
        [TV.v (Value.slice none 0 0), TV.agg [TV.v (Value.int IntKind.i64 184), TV.v (Value.int IntKind.i64 32768)]])
else
  if PreS s 0 then
    if PreL s (sk s (s.size + 1) 0 false).fst 0 then
      bif (lxs s (s.size + 1) (sk s (s.size + 1) 0 false).fst []).snd.isSome then
        some
          ([],
            TV.tup
              [TV.v (Value.slice none 0 0),
                TV.agg
                  [TV.v (Value.int IntKind.i64 180),
                    TV.v (Value.int IntKind.i64 ((lxs s (s.size + 1) (sk s (s.size + 1) 0 false).fst []).snd.getD 0))]])
      else
        if ((lxs s (s.size + 1) (sk s (s.size + 1) 0 false).fst []).fst.length + 1) * 40 ≤ 140737488355328 then
          some
            ([],
              TV.tup
                [TV.lst C.t53
                    ((lxs s (s.size + 1) (sk s (s.size + 1) 0 false).fst []).fst ++
                      [{ Kind := 0, At := (↑s.size : Int), N := 0, S := (⟨#[]⟩ : ByteArray) }]),
                  TV.agg [TV.v (Value.int IntKind.i64 0), TV.v (Value.int IntKind.i64 0)]])
        else none
    else none
  else none := by kernel_rfl
theorem lxs_len {s : ByteArray} : ∀ (N : Nat) (i : Int) (out : List R53), (lxs s N i out).1.length ≤ out.length + N := by
  intro N
  induction N with
  | zero => intro i out; exact Nat.le_refl _
  | succ N ih =>
    intro i out
    rw [lxs]
    split
    · split
      · rename_i t j h
        have := ih (sk s (s.size + 1) j false).1 (out ++ [t])
        rw [List.length_append] at this
        simp only [List.length_singleton] at this
        omega
      · exact Nat.le_add_right _ _
    · exact Nat.le_add_right _ _
/-- Is there a flaw in its words, where, and which? -/
def lexF (s : ByteArray) : Bool := decide (32768 < (s.size : Int)) || (lexP s).2.isSome
def lexA (s : ByteArray) : Int := cond (decide (32768 < (s.size : Int))) 32768 ((lexP s).2.getD 0)
def lexC (s : ByteArray) : Int := cond (decide (32768 < (s.size : Int))) 184 180
def lexL (s : ByteArray) : List R53 := (lexP s).1 ++ [⟨0, s.size, 0, ⟨#[]⟩⟩]

def sLex : Spc U := .of2 dstr (fun s => s.size ≤ 100000) lexF (fun s => []) (fun s => .tup [.v (.slice none 0 0), .agg [.v (.int .i64 (lexC s)), .v (.int .i64 (lexA s))]])
  (fun s => []) (fun s => .tup [.lst .t53 (lexL s), .agg [.v (.int .i64 0), .v (.int .i64 0)]])
theorem sLex_ok : SpecOk Try.prog 41 sLex := by
  refine fn_ok2 X_ok mixed E27_ok an27 lp27 Try.func41 (by kernel_rfl) (by kernel_rfl) lp27_ok fun objs args s hx hp => ?_
  obtain ⟨rfl, rfl⟩ := dstr_ok hx
  dsimp only at hp ⊢
  have h1 : PreS s 0 := ⟨by omega, by decide⟩
  have h2 := sk_ge s (s.size + 1) 0 false (by omega)
  have h3 : PreL s (sk s (s.size + 1) 0 false).1 0 := ⟨hp, h2.1, rfl⟩
  have h4 := lxs_len (s := s) (s.size + 1) (sk s (s.size + 1) 0 false).1 []
  have h5 : ((lexP s).1.length + 1) * 40 ≤ 140737488355328 := by unfold lexP; simp only [List.length_nil] at h4; omega
  rw [e27, if_pos h1, if_pos h3]
  rw [show lxs s (s.size + 1) (sk s (s.size + 1) 0 false).1 [] = lexP s from rfl]
  unfold lexF lexC lexA lexL
  cases decide (32768 < (s.size : Int)) with
  | true => rfl
  | false =>
    simp only [cond_false, Bool.false_or]
    cases h : (lexP s).2.isSome with
    | true => rfl
    | false =>
      rw [cond_false, if_pos h5]
      rfl
end Go.Proofs.Ytpkgikchphgfaaa.Fl


/- Texts of this claim, put together: part 8. -/
import Derived.Test.YtgdnomnealjdlaaMgF
import Derived.Test.YtgdnomnealjdlaaMgG
/- The references' lexer: a round, and all of them. -/
namespace Go.Proofs.Ytgdnomnealjdlaa.Fl
open Go Go.RowKit Go.Proofs.Ytgdnomnealjdlaa.Eng
set_option linter.unusedVariables false
set_option linter.unusedSimpArgs false
set_option maxRecDepth 20000
theorem hL0 : loopAt Try.f27 0 = .seq (sL L0) (.block 1 (.seq (sL LB) (.seq (.seq (sL (sL (sR LB))) (.block 2 (.seq (sL SW) (sR SW)))) (sR (sR LB))))) := by kernel_rfl
section
variable (R : Type) (K : Exit → TS U → Option R) (lp : Lp U) (s : ByteArray) (out : List R53) (fa fb k at' n i from' c : Int) (w : ByteArray) (v : Bool)
theorem c1 : evC X E27 an27 lp (sR SW) 2 (ix s i from' (ob27 fa fb out k at' n w) [(26, .v (.int .i64 c)), (37, .v (.bool v))]) K = cond v (evC X E27 an27 lp SA 2 (ix s i from' (ob27 fa fb out k at' n w) [(26, .v (.int .i64 c)), (37, .v (.bool true))]) K) (evC X E27 an27 lp SBC 2 (ix s i from' (ob27 fa fb out k at' n w) [(26, .v (.int .i64 c)), (37, .v (.bool false))]) K) := by kernel_rfl
theorem c2 : evC X E27 an27 lp (sR SBC) 2 (ix s i from' (ob27 fa fb out k at' n w) [(59, .v (.bool v))]) K = cond v (evC X E27 an27 lp (cT (sR SBC)) 2 (ix s i from' (ob27 fa fb out k at' n w) [(59, .v (.bool true))]) K) (evC X E27 an27 lp (cF (sR SBC)) 2 (ix s i from' (ob27 fa fb out k at' n w) [(59, .v (.bool false))]) K) := by kernel_rfl
theorem hSBC : SBC = .seq (sL SBC) (sR SBC) := by kernel_rfl
theorem a3 : evC X E27 an27 lp (sR (sR LB)) 1 (ix s i from' (ob27 fa fb out k at' n w) []) K = (cutB s (some from') (some i)).bind fun c =>
    if (out.length + 1) * 40 ≤ 140737488355328 then (if PreS s i then K .normal (l0 s (sk s (s.size + 1) i false).1 (ob2 fa fb (out ++ [⟨k, at', n, c⟩]))) else none) else none := by kernel_rfl
theorem a3' : evC X E27 an27 lp (sR (sR LB)) 1 (ix s i from' (ob27 fa fb out k at' n w) [(57, .v (.bool false))]) K = (cutB s (some from') (some i)).bind fun c =>
    if (out.length + 1) * 40 ≤ 140737488355328 then (if PreS s i then K .normal (l0 s (sk s (s.size + 1) i false).1 (ob2 fa fb (out ++ [⟨k, at', n, c⟩]))) else none) else none := by kernel_rfl
end
theorem cutB_at {s : ByteArray} {i j : Int} (h0 : 0 ≤ i) (h1 : i ≤ j) (h2 : j ≤ s.size) : cutB s (some i) (some j) = some (cutS s i j) := by
  have e : cutB s (some i) (some j) = some (s.extract i.toNat j.toNat) := if_pos ⟨h0, h1, h2⟩
  unfold cutS
  rw [e]
  rfl
theorem we_gt {s : ByteArray} {N : Nat} {i c : Int} (hc : getB s i = some c) (hl : 0 < letter c) (hi : i < s.size) : i + 1 ≤ we s (N + 1) i ∧ we s (N + 1) i ≤ s.size := by
  rw [we, if_pos hi, hc]
  dsimp only
  rw [if_pos hl]
  exact we_ge s N (i + 1) (by omega)
theorem nb_gt {s : ByteArray} {N : Nat} {i n c : Int} (hc : getB s i = some c) (hl : letter c = 2) (hi : i < s.size) (hb : (nb s (N + 1) i n).2.2 = false) : i + 1 ≤ (nb s (N + 1) i n).1 ∧ (nb s (N + 1) i n).1 ≤ s.size := by
  rw [nb, if_pos hi, hc] at hb ⊢
  dsimp only at hb ⊢
  rw [if_pos hl] at hb ⊢
  split
  · rename_i hg
    rw [if_pos hg] at hb
    cases hb
  · exact nb_ge s N (i + 1) _ (by omega)
theorem sgn_gt {s : ByteArray} {i : Int} (hi : i < s.size) (h : sgn s i ≠ 0) : i + 1 ≤ i + sgn s i ∧ i + sgn s i ≤ s.size := by
  unfold sgn at h ⊢
  cases hs : isSg s i with
  | false => rw [hs] at h; exact absurd rfl h
  | true =>
    cases he : eqEq s i with
    | false => exact ⟨by simp only [cond_true, cond_false]; omega, by simp only [cond_true, cond_false]; omega⟩
    | true =>
      unfold eqEq at he
      rw [Bool.and_eq_true] at he
      have := of_decide_eq_true he.1
      simp only [cond_true]
      omega
theorem letter_cases (c : Int) : letter c = 0 ∨ letter c = 1 ∨ letter c = 2 := by
  unfold letter
  split
  · exact .inr (.inl rfl)
  · split
    · exact .inr (.inr rfl)
    · exact .inl rfl
theorem wd1_gt {s : ByteArray} {i : Int} (h0 : 0 ≤ i) (hi : i < s.size) {t : R53} {j : Int} (h : wd1 s i = some (t, j)) : i + 1 ≤ j ∧ j ≤ s.size := by
  obtain ⟨c, hc⟩ := getB_at h0 hi
  unfold wd1 at h
  rw [hc, Option.bind_some] at h
  split at h
  · rename_i hl
    cases h
    exact we_gt hc (by omega) hi
  · split at h
    · rename_i hl
      split at h
      · cases h
      · rename_i hb
        cases h
        exact nb_gt hc hl hi (by simpa using hb)
    · split at h
      · cases h
      · rename_i hs
        cases h
        exact sgn_gt hi hs
theorem roundL {R : Type} {K : Exit → TS U → Option R} {s : ByteArray} {out : List R53} {fa fb i : Int} (hs : s.size ≤ 1000000) (h0 : 0 ≤ i) (hi : i < s.size) (ho : out.length ≤ 1000000) :
    (∀ t j, wd1 s i = some (t, j) → evC X E27 an27 lp27 (loopAt Try.f27 0) 0 (l0 s i (ob2 fa fb out)) K = K .normal (l0 s (sk s (s.size + 1) j false).1 (ob2 fa fb (out ++ [t])))) ∧
    (wd1 s i = none → ∃ st : TS U, evNorm (X := X) (an27.out 0) st = some (badL s i out) ∧ evC X E27 an27 lp27 (loopAt Try.f27 0) 0 (l0 s i (ob2 fa fb out)) K = K .ret st) := by
  obtain ⟨c, hc⟩ := getB_at h0 hi
  have hd : decide (i < (s.size : Int)) = true := decide_eq_true hi
  have hps : PreS s i := ⟨hs, h0⟩
  have hp45 : Pre45 s i := ⟨hs, h0, hi⟩
  have hlen : ∀ _ : Unit, (out.length + 1) * 40 ≤ 140737488355328 := fun _ => by omega
  have hcut : ∀ j, i ≤ j → j ≤ s.size → cutB s (some i) (some j) = some (cutS s i j) := fun j h1 h2 => cutB_at h0 h1 h2
  rw [hL0, evC_seq, a0, hd, cond_true]
  dsimp only
  rw [evC_block, evC_seq, a1]
  dsimp only
  rw [evC_seq, evC_seq, a2, hc, Option.bind_some]
  dsimp only
  rw [evC_block, evC_seq, b1]
  have e1 : ∀ (v : Bool), mkS (U := U) 109 [(0, .v (.string s)), (3, .ref 0 0 0), (4, .full 1), (5, .v (.int .i64 i)), (6, .ref 2 0 0), (7, .v (.int .i64 i)), (26, .v (.int .i64 (letter c))), (37, .v (.bool v))] [.cells [.v (.int .i64 fa), .v (.int .i64 fb)] false, .row .t53 out false, .cells [.v (.int .i64 4), .v (.int .i64 i), .v (.int .i64 0), .v (.string ⟨#[]⟩)] false] 0 = ix s i i (ob27 fa fb out 4 i 0 ⟨#[]⟩) [(26, .v (.int .i64 (letter c))), (37, .v (.bool v))] := fun _ => rfl
  have e2 : ∀ (v : Bool), mkS (U := U) 109 [(0, .v (.string s)), (3, .ref 0 0 0), (4, .full 1), (5, .v (.int .i64 i)), (6, .ref 2 0 0), (7, .v (.int .i64 i)), (59, .v (.bool v))] [.cells [.v (.int .i64 fa), .v (.int .i64 fb)] false, .row .t53 out false, .cells [.v (.int .i64 4), .v (.int .i64 i), .v (.int .i64 0), .v (.string ⟨#[]⟩)] false] 0 = ix s i i (ob27 fa fb out 4 i 0 ⟨#[]⟩) [(59, .v (.bool v))] := fun _ => rfl
  have e3 : ∀ (k n j : Int), mkS (U := U) 109 [(0, .v (.string s)), (3, .ref 0 0 0), (4, .full 1), (5, .v (.int .i64 j)), (6, .ref 2 0 0), (7, .v (.int .i64 i))] [.cells [.v (.int .i64 fa), .v (.int .i64 fb)] false, .row .t53 out false, .cells [.v (.int .i64 k), .v (.int .i64 i), .v (.int .i64 n), .v (.string ⟨#[]⟩)] false] 0 = ix s j i (ob27 fa fb out k i n ⟨#[]⟩) [] := fun _ _ _ => rfl
  have e4 : ∀ (k n j : Int), mkS (U := U) 109 [(0, .v (.string s)), (3, .ref 0 0 0), (4, .full 1), (5, .v (.int .i64 j)), (6, .ref 2 0 0), (7, .v (.int .i64 i)), (57, .v (.bool false))] [.cells [.v (.int .i64 fa), .v (.int .i64 fb)] false, .row .t53 out false, .cells [.v (.int .i64 k), .v (.int .i64 i), .v (.int .i64 n), .v (.string ⟨#[]⟩)] false] 0 = ix s j i (ob27 fa fb out k i n ⟨#[]⟩) [(57, .v (.bool false))] := fun _ _ _ => rfl
  dsimp only
  rw [e1, c1]
  unfold wd1
  rw [hc, Option.bind_some]
  rcases letter_cases c with hl | hl | hl
  · rw [hl, if_neg (by decide), if_neg (by decide)]
    simp only [show decide ((0 : Int) = 1) = false from rfl, cond_false]
    rw [hSBC, evC_seq, b3]
    dsimp only
    rw [e2, c2]
    simp only [show decide ((0 : Int) = 2) = false from rfl, cond_false]
    rw [b5, if_pos hp45]
    by_cases hg : sgn s i = 0
    · rw [if_pos hg]
      simp only [hg, decide_true, cond_true]
      exact ⟨fun t j h => (by cases h), fun _ => ⟨_, by kernel_rfl, rfl⟩⟩
    · rw [if_neg hg]
      obtain ⟨hj1, hj2⟩ := sgn_gt hi hg
      have hw : IntKind.i64.wrap (i + sgn s i) = i + sgn s i := wrap_i64 (by omega) (by omega)
      simp only [hg, decide_false, cond_false]
      rw [hw, e3, a3, hcut _ (by omega) hj2, Option.bind_some, if_pos (hlen ()), if_pos (show PreS s (i + sgn s i) from ⟨hs, by omega⟩)]
      exact ⟨fun t j h => (by cases h; rfl), fun h => (by cases h)⟩
  · rw [hl, if_pos (rfl : (1 : Int) = 1)]
    obtain ⟨hj1, hj2⟩ := we_gt (N := s.size) hc (by omega) hi
    rw [show decide ((1 : Int) = 1) = true from rfl, cond_true]
    rw [b2, if_pos hps, hcut _ (by omega) hj2, Option.bind_some, if_pos trivial]
    cases hk : kept (cutS s i (we s (s.size + 1) i)) with
    | true =>
      rw [cond_true]
      dsimp only
      rw [e3, a3, hcut _ (by omega) hj2, Option.bind_some, if_pos (hlen ()), if_pos (show PreS s (we s (s.size + 1) i) from ⟨hs, by omega⟩)]
      exact ⟨fun t j h => (by cases h; rfl), fun h => (by cases h)⟩
    | false =>
      rw [cond_false]
      dsimp only
      rw [e4, a3', hcut _ (by omega) hj2, Option.bind_some, if_pos (hlen ()), if_pos (show PreS s (we s (s.size + 1) i) from ⟨hs, by omega⟩)]
      exact ⟨fun t j h => (by cases h; rfl), fun h => (by cases h)⟩
  · rw [hl, if_neg (by decide), if_pos (rfl : (2 : Int) = 2)]
    simp only [show decide ((2 : Int) = 1) = false from rfl, cond_false]
    rw [hSBC, evC_seq, b3]
    dsimp only
    rw [e2, c2]
    rw [show decide ((2 : Int) = 2) = true from rfl, cond_true]
    rw [b4, if_pos hps]
    cases hb : (nb s (s.size + 1) i 0).2.2 with
    | true =>
      rw [cond_true]
      exact ⟨fun t j h => (by cases h), fun _ => ⟨_, by kernel_rfl, rfl⟩⟩
    | false =>
      obtain ⟨hj1, hj2⟩ := nb_gt (N := s.size) (n := 0) hc hl hi hb
      rw [cond_false]
      dsimp only
      rw [e3, a3, hcut _ (by omega) hj2, Option.bind_some, if_pos (hlen ()), if_pos (show PreS s (nb s (s.size + 1) i 0).1 from ⟨hs, by omega⟩)]
      exact ⟨fun t j h => (by cases h; rfl), fun h => (by cases h)⟩
def end0 (s : ByteArray) (fa fb : Int) (r : List R53 × Option Int) : Exit × TS U := cond r.2.isSome (.ret, badL s (r.2.getD 0) r.1) (.exit 0, exL s fa fb r.1)
theorem exitL {s : ByteArray} {out : List R53} {fa fb i : Int} (hi : ¬ i < s.size) (N : Nat) : fnLoop X E27 an27 lp27 Try.f27 0 (N + 1) (l0 s i (ob2 fa fb out)) = some (.exit 0, exL s fa fb out) := by
  rw [fnLoop_succ, hL0, evC_seq, a0, show decide (i < (s.size : Int)) = false from decide_eq_false hi, cond_false]
  kernel_rfl
theorem normL (s : ByteArray) (i fa fb : Int) (out : List R53) : evNorm (X := X) (an27.live 0) (l0 s i (ob2 fa fb out)) = some (l0 s i (ob2 fa fb out)) := by kernel_rfl
theorem roundsL {s : ByteArray} {fa fb : Int} (hs : s.size ≤ 100000) : ∀ (N : Nat) (i : Int) (out : List R53), 0 ≤ i → (s.size : Int) ≤ i + N → out.length + N ≤ 1000000 →
    fnLoop X E27 an27 lp27 Try.f27 0 (N + 1) (l0 s i (ob2 fa fb out)) = some (end0 s fa fb (lxs s (N + 1) i out)) := by
  intro N
  induction N with
  | zero =>
    intro i out h0 h1 h2
    rw [exitL (by omega), lxs, if_neg (by omega)]
    rfl
  | succ N ih =>
    intro i out h0 h1 h2
    rw [lxs]
    by_cases hi : i < (s.size : Int)
    · rw [if_pos hi, fnLoop_succ]
      generalize hK : (fun (ex : Exit) (s' : TS X.U) => _ : Exit → TS X.U → Option (Exit × TS X.U)) = K1
      obtain ⟨hr1, hr2⟩ := roundL (K := K1) (fa := fa) (fb := fb) (s := s) (i := i) (out := out) (by omega) h0 hi (by omega)
      cases hw : wd1 s i with
      | some x =>
        obtain ⟨t, j⟩ := x
        obtain ⟨hj1, hj2⟩ := wd1_gt h0 hi hw
        have hk := sk_ge s (s.size + 1) j false hj2
        rw [hr1 t j hw, ← hK]
        dsimp only
        rw [normL]
        dsimp only
        exact ih _ _ (by omega) (by omega) (by rw [List.length_append]; simp only [List.length_singleton]; omega)
      | none =>
        obtain ⟨st, hn, he⟩ := hr2 hw
        rw [he, ← hK]
        dsimp only
        rw [hn]
        rfl
    · rw [if_neg hi, exitL hi]
      rfl
theorem lp27_ok : ∀ c, Try.f27.body = some c → LpOk X E27 an27 lp27 (loops c 0) := lpL_ok (by kernel_rfl) fun b L hm st p hs => by
  cases hm with
  | head =>
    obtain ⟨⟨fa, fb, out, t, i⟩, hx, ⟨h1, h2, h3⟩, rfl⟩ := LC.of2_some hs
    obtain rfl := List.length_eq_zero_iff.1 h3
    obtain rfl := dl0_ok hx
    exact ⟨t.size + 1, roundsL h1 t.size i [] h2 (by omega) (by simp only [List.length_nil]; omega)⟩
  | tail _ hm => cases hm with
    | head => exact lc3_ok _ st p hs
    | tail _ hm => cases hm with
      | head => exact lc5_ok _ st p hs
      | tail _ hm => cases hm
end Go.Proofs.Ytgdnomnealjdlaa.Fl

/- The references' lexer. -/
namespace Go.Proofs.Ytgdnomnealjdlaa.Fl
open Go Go.RowKit Go.Proofs.Ytgdnomnealjdlaa.Eng
set_option linter.unusedVariables false
set_option linter.unusedSimpArgs false
set_option maxRecDepth 20000
/-- The words of a text; where none can be, if so. -/
def lexP (s : ByteArray) : List R53 × Option Int := lxs s (s.size + 1) (sk s (s.size + 1) 0 false).1 []
theorem e27 (s : ByteArray) : (evFn X E27 an27 lp27 Try.f27 [] [TV.v (Value.string s)]
  fun (o : List (TO X.U)) (v : TV X.U) => some (o, v)) =
  bif decide (32768 < (↑s.size : Int)) then
  some
    ([],
      TV.tup
        [TV.v (Value.slice none 0 0), TV.agg [TV.v (Value.int IntKind.i64 184), TV.v (Value.int IntKind.i64 32768)]])
else
  if PreS s 0 then
    if PreL s (sk s (s.size + 1) 0 false).fst 0 then
      bif (lxs s (s.size + 1) (sk s (s.size + 1) 0 false).fst []).snd.isSome then
        some
          ([],
            TV.tup
              [TV.v (Value.slice none 0 0),
                TV.agg
                  [TV.v (Value.int IntKind.i64 180),
                    TV.v (Value.int IntKind.i64 ((lxs s (s.size + 1) (sk s (s.size + 1) 0 false).fst []).snd.getD 0))]])
      else
        if ((lxs s (s.size + 1) (sk s (s.size + 1) 0 false).fst []).fst.length + 1) * 40 ≤ 140737488355328 then
          some
            ([],
              TV.tup
                [TV.lst C.t53
                    ((lxs s (s.size + 1) (sk s (s.size + 1) 0 false).fst []).fst ++
                      [{ Kind := 0, At := (↑s.size : Int), N := 0, S := (⟨#[]⟩ : ByteArray) }]),
                  TV.agg [TV.v (Value.int IntKind.i64 0), TV.v (Value.int IntKind.i64 0)]])
        else none
    else none
  else none := by kernel_rfl
theorem lxs_len {s : ByteArray} : ∀ (N : Nat) (i : Int) (out : List R53), (lxs s N i out).1.length ≤ out.length + N := by
  intro N
  induction N with
  | zero => intro i out; exact Nat.le_refl _
  | succ N ih =>
    intro i out
    rw [lxs]
    split
    · split
      · rename_i t j h
        have := ih (sk s (s.size + 1) j false).1 (out ++ [t])
        rw [List.length_append] at this
        simp only [List.length_singleton] at this
        omega
      · exact Nat.le_add_right _ _
    · exact Nat.le_add_right _ _
/-- Is there a flaw in its words, where, and which? -/
def lexF (s : ByteArray) : Bool := decide (32768 < (s.size : Int)) || (lexP s).2.isSome
def lexA (s : ByteArray) : Int := cond (decide (32768 < (s.size : Int))) 32768 ((lexP s).2.getD 0)
def lexC (s : ByteArray) : Int := cond (decide (32768 < (s.size : Int))) 184 180
def lexL (s : ByteArray) : List R53 := (lexP s).1 ++ [⟨0, s.size, 0, ⟨#[]⟩⟩]

def sLex : Spc U := .of2 dstr (fun s => s.size ≤ 100000) lexF (fun s => []) (fun s => .tup [.v (.slice none 0 0), .agg [.v (.int .i64 (lexC s)), .v (.int .i64 (lexA s))]])
  (fun s => []) (fun s => .tup [.lst .t53 (lexL s), .agg [.v (.int .i64 0), .v (.int .i64 0)]])
theorem sLex_ok : SpecOk Try.prog 27 sLex := by
  refine fn_ok2 X_ok mixed E27_ok an27 lp27 Try.func27 (by kernel_rfl) (by kernel_rfl) lp27_ok fun objs args s hx hp => ?_
  obtain ⟨rfl, rfl⟩ := dstr_ok hx
  dsimp only at hp ⊢
  have h1 : PreS s 0 := ⟨by omega, by decide⟩
  have h2 := sk_ge s (s.size + 1) 0 false (by omega)
  have h3 : PreL s (sk s (s.size + 1) 0 false).1 0 := ⟨hp, h2.1, rfl⟩
  have h4 := lxs_len (s := s) (s.size + 1) (sk s (s.size + 1) 0 false).1 []
  have h5 : ((lexP s).1.length + 1) * 40 ≤ 140737488355328 := by unfold lexP; simp only [List.length_nil] at h4; omega
  rw [e27, if_pos h1, if_pos h3]
  rw [show lxs s (s.size + 1) (sk s (s.size + 1) 0 false).1 [] = lexP s from rfl]
  unfold lexF lexC lexA lexL
  cases decide (32768 < (s.size : Int)) with
  | true => rfl
  | false =>
    simp only [cond_false, Bool.false_or]
    cases h : (lexP s).2.isSome with
    | true => rfl
    | false =>
      rw [cond_false, if_pos h5]
      rfl
end Go.Proofs.Ytgdnomnealjdlaa.Fl


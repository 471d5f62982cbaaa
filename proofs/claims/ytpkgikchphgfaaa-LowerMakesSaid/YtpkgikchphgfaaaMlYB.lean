/- Texts of this claim, put together: part 26. -/
import Derived.Test.YtpkgikchphgfaaaMlYA
/- The program's lowerer: a function. -/
namespace Go.Proofs.Ytpkgikchphgfaaa.Lw
open Go Go.RowKit Go.Proofs.Ytpkgikchphgfaaa.Eng Go.Proofs.Ytpkgikchphgfaaa.Fl
set_option linter.unusedVariables false
set_option linter.unusedSimpArgs false
set_option maxRecDepth 20000
/-- With the variables, one behind another: the map, the row; which ones are handed over. -/
def ft (np : Int) : List R82 → Int → LB × Bool × List Int → LB × Bool × List Int
  | [], _, r => r
  | x :: l, i, (s, pB, ps) => ft np l (i + 1) (s.addV x, cond (decide (i < np)) (true, ps ++ [(s.V.length : Int)]) (pB, ps))
theorem rounds28d (lp : Lp U) (l : List R90) (v : Int) (z : R90) (f : Int) (d : List R82) (hd : d.length ≤ 3000000) : ∀ (n : Nat) (s : LB) (pB : Bool) (ps : List Int) (i : Int), (s.vB = false → s.V = []) → (pB = false → ps = []) → 0 ≤ i → (d.length : Int) ≤ i + n → (ps.length : Int) ≤ i → (s.V.length : Int) + d.length ≤ 3000000 + i →
    fnLoop X Lg an28 lp Try.f28 4 (n + 1) (S28d s l v z f pB ps true d i) = some (Z28d (ft z.Params.length (d.drop i.toNat) i (s, pB, ps)).1 l v z f (ft z.Params.length (d.drop i.toNat) i (s, pB, ps)).2.1 (ft z.Params.length (d.drop i.toNat) i (s, pB, ps)).2.2) := by
  intro n
  induction n with
  | zero =>
    intro s pB ps i hv hp h0 h1 h2 h3
    rw [r28d lp s hv l v z f pB ps hp, decide_eq_false (by omega), List.drop_eq_nil_of_le (by omega), ft]
    rfl
  | succ n ih =>
    intro s pB ps i hv hp h0 h1 h2 h3
    rw [r28d lp s hv l v z f pB ps hp]
    by_cases hi : i < (d.length : Int)
    · have hx : d[i.toNat]? = some d[i.toNat] := List.getElem?_eq_getElem (by omega)
      have hdr : d.drop i.toNat = d[i.toNat] :: d.drop (i.toNat + 1) := List.drop_eq_getElem_cons (by omega)
      have hw : IntKind.i64.wrap (i + 1) = i + 1 := wrap_i64 (by omega) (by omega)
      have et : (i + 1).toNat = i.toNat + 1 := by omega
      have hV : ((s.addV d[i.toNat]).V.length : Int) = s.V.length + 1 := by
        show ((s.V ++ [_]).length : Int) = _
        rw [List.length_append]
        rfl
      rw [decide_eq_true hi, cond_true, if_pos ⟨h0, hi⟩, hx, Option.bind_some, hdr, ft, hw]
      by_cases hnp : i < (z.Params.length : Int)
      · rw [decide_eq_true hnp, cond_true, cond_true, if_pos (by omega), if_pos (by omega)]
        have := ih (s.addV d[i.toNat]) true (ps ++ [(s.V.length : Int)]) (i + 1) (fun h => by cases h) (fun h => by cases h) (by omega) (by omega) (by rw [List.length_append]; simp only [List.length_singleton]; omega) (by omega)
        rw [et] at this
        exact this
      · rw [decide_eq_false hnp, cond_false, cond_false, if_pos (by omega)]
        have := ih (s.addV d[i.toNat]) pB ps (i + 1) (fun h => by cases h) hp (by omega) (by omega) (by omega) (by omega)
        rw [et] at this
        exact this
    · rw [decide_eq_false hi, List.drop_eq_nil_of_le (by omega), ft]
      rfl
end Go.Proofs.Ytpkgikchphgfaaa.Lw

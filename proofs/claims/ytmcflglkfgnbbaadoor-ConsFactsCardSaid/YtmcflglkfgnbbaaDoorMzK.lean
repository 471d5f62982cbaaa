/- Texts of this claim, put together: part 11. -/
import Derived.Test.YtmcflglkfgnbbaaDoorMzJ
/- What is in either: sets. -/
namespace Go.Proofs.YtmcflglkfgnbbaaDoor.Bt
open Go Go.RowKit Go.Proofs.YtmcflglkfgnbbaaDoor.Eng Go.Proofs.YtmcflglkfgnbbaaDoor.Nd
set_option linter.unusedVariables false
set_option linter.unusedSimpArgs false
set_option maxRecDepth 20000
def an16 : Ann := ⟨fun | 0 => 252 | _ => 0, fun | 0 => 48 | _ => 0, fun | 12 => [5] | _ => [], false⟩
def S16 (S T P : List R54) (i k : Int) : TS U := mkS 118 [(2, .ref 0 0 0), (3, .ref 1 0 0), (4, .ref 2 0 0), (5, nvF 3 P), (6, .v (.int .i64 i)), (7, .v (.int .i64 k))] ([.cells [.lst .t54 S] false, .cells [.lst .t54 T] false, .cells [nlv] false] ++ nvR .t54 P) 0
def Z16 (P : List R54) : TS U := mkS 118 [(4, .ref 0 0 0), (5, nvF 1 P)] ([.cells [nlv] false] ++ nvR .t54 P) 0
def orW (a b : Int) : Int := IntKind.u64.wrap (((BitVec.ofInt IntKind.u64.bits a ||| BitVec.ofInt IntKind.u64.bits b).toNat : Nat) : Int)
noncomputable def st16 (lp : Lp U) (N : Nat) (S T P : List R54) (z : R54) (i k : Int) : Option (Exit × TS U) := if (P.length + 1) * 16 ≤ 140737488355328 then fnLoop X E0 an16 lp Tryd.f16 0 N (S16 S T (P ++ [z]) i k) else none
noncomputable def bd16 (lp : Lp U) (N : Nat) (S T P : List R54) (i k : Int) : Option (Exit × TS U) :=
  cond (decide (k = (T.length : Int))) ((getI S i).bind fun z => st16 lp N S T P z (IntKind.i64.wrap (i + 1)) k)
    (cond (decide (i < (S.length : Int))) ((getI S i).bind fun z => (getI T k).bind fun y => cond (decide (z.At < y.At)) ((getI S i).bind fun z => st16 lp N S T P z (IntKind.i64.wrap (i + 1)) k)
      (cond (decide (i = (S.length : Int))) ((getI T k).bind fun y => st16 lp N S T P y i (IntKind.i64.wrap (k + 1)))
        ((getI T k).bind fun y => (getI S i).bind fun z => cond (decide (y.At < z.At)) ((getI T k).bind fun y => st16 lp N S T P y i (IntKind.i64.wrap (k + 1)))
          ((getI S i).bind fun z => (getI S i).bind fun u => (getI T k).bind fun y => st16 lp N S T P ⟨z.At, orW u.Bits y.Bits⟩ (IntKind.i64.wrap (i + 1)) (IntKind.i64.wrap (k + 1))))))
      (cond (decide (i = (S.length : Int))) ((getI T k).bind fun y => st16 lp N S T P y i (IntKind.i64.wrap (k + 1)))
        ((getI T k).bind fun y => (getI S i).bind fun z => cond (decide (y.At < z.At)) ((getI T k).bind fun y => st16 lp N S T P y i (IntKind.i64.wrap (k + 1)))
          ((getI S i).bind fun z => (getI S i).bind fun u => (getI T k).bind fun y => st16 lp N S T P ⟨z.At, orW u.Bits y.Bits⟩ (IntKind.i64.wrap (i + 1)) (IntKind.i64.wrap (k + 1))))))
theorem r16 (lp : Lp U) (N : Nat) (S T P : List R54) (i k : Int) : fnLoop X E0 an16 lp Tryd.f16 0 N.succ (S16 S T P i k) =
    cond (decide (i < (S.length : Int))) (bd16 lp N S T P i k) (cond (decide (k < (T.length : Int))) (bd16 lp N S T P i k) (some (.exit 0, Z16 P))) := by cases P <;> kernel_rfl
end Go.Proofs.YtmcflglkfgnbbaaDoor.Bt


/- Pieces of code. -/
import Derived.Test.YtcbbpidnocgoiaaDoorEvL
namespace Go.Proofs.YtcbbpidnocgoiaaDoor.Eng
open Go Go.RowKit
set_option linter.unusedVariables false
def sL : Code → Code
  | .seq x _ => x
  | c => c
def sR : Code → Code
  | .seq _ y => y
  | c => c
def bB : Code → Code
  | .block _ x => x
  | c => c
def cT : Code → Code
  | .cond _ x _ => x
  | c => c
def cF : Code → Code
  | .cond _ _ x => x
  | c => c
section
variable {P : Program} {X : Cx} {E : FuncId → Option (Spc X.U)} {an : Ann} {lp : Lp X.U} {R : Type}
theorem evC_seq {x y : Code} {b : Nat} {s : TS X.U} {K : Exit → TS X.U → Option R} : evC X E an lp (.seq x y) b s K = evC X E an lp x b s fun ex s' => match ex with
    | .normal => evC X E an lp y b s' K
    | e => K e s' := rfl
theorem evC_block {id b : Nat} {x : Code} {s : TS X.U} {K : Exit → TS X.U → Option R} : evC X E an lp (.block id x) b s K = evC X E an lp x id s fun ex s' => match ex with
    | .exit i => match Nat.beq i id with
      | true => K .normal s'
      | false => K (.exit i) s'
    | e => K e s' := rfl
theorem fnLoop_succ {fn : Func} {b n : Nat} {s : TS X.U} : fnLoop X E an lp fn b (n + 1) s = evC X E an lp (loopAt fn b) b s fun ex s' => match ex with
    | .normal => match evNorm (an.live b) s' with
      | some s1 => fnLoop X E an lp fn b n s1
      | none => none
    | e => match evNorm (an.out b) s' with
      | some s1 => some (e, s1)
      | none => none := rfl
end
end Go.Proofs.YtcbbpidnocgoiaaDoor.Eng

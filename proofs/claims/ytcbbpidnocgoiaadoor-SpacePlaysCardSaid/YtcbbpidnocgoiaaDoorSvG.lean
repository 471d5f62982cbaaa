/- Places: the law's rounds. -/
import Derived.Test.YtcbbpidnocgoiaaDoorSvF
import Derived.Test.YtcbbpidnocgoiaaDoorSvP
namespace Go.Proofs.YtcbbpidnocgoiaaDoor.Sv
open Go Go.RowKit Go.Proofs.YtcbbpidnocgoiaaDoor.Eng Go.Proofs.YtcbbpidnocgoiaaDoor.Pu
set_option linter.unusedVariables false
set_option linter.unusedSimpArgs false
set_option maxRecDepth 20000
def bn (x y : Bool) : Bool := !(x == y)
def lfA (n : Int) (ws : List Int) (a : Int) : Int := (lf n ws (ws.length + 1) (if a < 0 then 0 else a)).getD (-1)
def pfA (us : List Bool) (a : Int) : Int := (pf us (us.length + 1) (if a < 0 then 0 else a)).getD (-1)
def evB (z : R29) : Bool := decide (IntKind.i64.wrap (BitVec.ofInt IntKind.i64.bits z.What &&& BitVec.ofInt IntKind.i64.bits 1).toNat = 0)
def tx (n : Int) (ws : List Int) (us : List Bool) (acts : List R29) (i a : Int) (b : Bool) (l : List (Nat × TV U)) : TS U := mkS 129 ([(1, .lst .t29 acts), (5, .v (.int .i64 n)), (6, .ref 0 0 0), (7, .full 2), (8, .v (.int .i64 i)), (9, .v (.int .i64 a)), (10, .v (.bool b))] ++ l) (ob3 n ws us) 0
def tu (n : Int) (ws : List Int) (us : List Bool) (acts : List R29) (i : Int) (v : Bool) : TS U := mkS 129 [(1, .lst .t29 acts), (5, .v (.int .i64 n)), (6, .ref 0 0 0), (7, .full 2), (8, .v (.int .i64 i)), (112, .v (.bool v))] (ob3 n ws us) 0
section
variable (R : Type) (lp : Lp U) (K : Exit → TS U → Option R) (n : Int) (acts : List R29) (ws : List Int) (us : List Bool) (i a : Int) (b w v : Bool)
theorem q1 : evC X E3 an3 lp (sL B0) 0 (t0 n ws us acts i) K = cond (decide (i < acts.length)) (cond (decide (i < 200)) (K .normal (t1 n ws us acts i)) (K (.exit 0) (mkS 129 [(1, .lst .t29 acts), (5, .v (.int .i64 n)), (6, .ref 0 0 0), (7, .full 2), (8, .v (.int .i64 i)), (35, .v (.bool false))] (ob3 n ws us) 0)))
    (K (.exit 0) (mkS 129 [(1, .lst .t29 acts), (5, .v (.int .i64 n)), (6, .ref 0 0 0), (7, .full 2), (8, .v (.int .i64 i)), (35, .v (.bool false))] (ob3 n ws us) 0)) := by kernel_rfl
theorem q2 : evC X E3 an3 lp (sL BB) 1 (t1 n ws us acts i) K = (getI acts i).bind fun z => K .normal (t2 n ws us acts i z.At) := by kernel_rfl
theorem q3 : evC X E3 an3 lp (sL (sR BB)) 1 (t2 n ws us acts i a) K = cond (decide (0 ≤ a)) (K .normal (tx n ws us acts i a (decide (a < n)) [])) (K .normal (tx n ws us acts i a false [])) := by kernel_rfl
theorem q4 : evC X E3 an3 lp (sL (sR (sR BB))) 1 (tx n ws us acts i a b []) K = K .normal (tx n ws us acts i a b []) := by kernel_rfl
theorem q50 : evC X E3 an3 lp (sL SW) 2 (tx n ws us acts i a b []) K = (getI acts i).bind fun z => K .normal (tx n ws us acts i a b [(62, .v (.bool (evB z)))]) := by kernel_rfl
theorem q5c : evC X E3 an3 lp (sR SW) 2 (tx n ws us acts i a b [(62, .v (.bool v))]) K = cond v (evC X E3 an3 lp (cT (sR SW)) 2 (tx n ws us acts i a b [(62, .v (.bool true))]) K) (evC X E3 an3 lp (cF (sR SW)) 2 (tx n ws us acts i a b [(62, .v (.bool false))]) K) := by kernel_rfl
theorem q51 : evC X E3 an3 lp (sL (cT (sR SW))) 2 (tx n ws us acts i a b [(62, .v (.bool true))]) K = cond b (if 0 ≤ a ∧ a < (us.length : Int) then us[a.toNat]?.bind fun y => K .normal (tx n ws us acts i a b [(11, .v (.bool (!y)))]) else none) (K .normal (tx n ws us acts i a b [(11, .v (.bool false))])) := by kernel_rfl
theorem q53 : evC X E3 an3 lp (sL (cF (sR SW))) 2 (tx n ws us acts i a b [(62, .v (.bool false))]) K = cond b (if 0 ≤ a ∧ a < (us.length : Int) then us[a.toNat]?.bind fun y => K .normal (tx n ws us acts i a b [(11, .v (.bool y))]) else none) (K .normal (tx n ws us acts i a b [(11, .v (.bool false))])) := by kernel_rfl
theorem q52 : evC X E3 an3 lp (sL (sR (cT (sR SW)))) 2 (tx n ws us acts i a b [(11, .v (.bool w))]) K = if Pre n ws then K .normal (tx n (if usedB n ws a then ws else setW ws a) us acts i a b [(11, .v (.bool w)), (82, .v (.bool (bn (!usedB n ws a) w)))]) else none := by kernel_rfl
theorem q54 : evC X E3 an3 lp (sL (sR (cF (sR SW)))) 2 (tx n ws us acts i a b [(11, .v (.bool w))]) K = if Pre n ws then K .normal (tx n (if inB n a && bitI ws a then clrW ws a else ws) us acts i a b [(11, .v (.bool w)), (61, .v (.bool (bn (inB n a && bitI ws a) w)))]) else none := by kernel_rfl
theorem q55 : evC X E3 an3 lp (sR (sR (cT (sR SW)))) 2 (tx n ws us acts i a b [(11, .v (.bool w)), (82, .v (.bool false))]) K = K .normal (tx n ws us acts i a b [(11, .v (.bool w)), (82, .v (.bool false))]) := by kernel_rfl
theorem q56 : evC X E3 an3 lp (sR (sR (cF (sR SW)))) 2 (tx n ws us acts i a b [(11, .v (.bool w)), (61, .v (.bool false))]) K = K .normal (tx n ws us acts i a b [(11, .v (.bool w)), (61, .v (.bool false))]) := by kernel_rfl
theorem q66 (x : Nat) (hx : x = 82 ∨ x = 61) : evC X E3 an3 lp (sL (sR (sR (sR (sR BB))))) 1 (tx n ws us acts i a b [(11, .v (.bool w)), (x, .v (.bool false))]) K =
    cond w (if 0 ≤ a ∧ a < (us.length : Int) then us[a.toNat]?.bind fun y => if 0 ≤ a ∧ a < (us.length : Int) then us[a.toNat]?.bind fun z => K .normal (tx n ws (us.set a.toNat (!y)) acts i a b []) else none else none) (K .normal (tx n ws us acts i a b [(83, .v (.bool false))])) := by
  rcases hx with rfl | rfl <;> kernel_rfl
def fin7 (v : Bool) : Option R := cond v (K .normal (tu n ws us acts i true)) (if Pre n ws then (if us.length ≤ 1000000 then K .normal (tu n ws us acts i (!decide (lfA n ws a = pfA us a))) else none) else none)
theorem q7 (l : List (Nat × TV U)) (hl : l = [] ∨ l = [(83, .v (.bool false))]) : evC X E3 an3 lp (sL (sR (sR (sR (sR (sR BB)))))) 1 (tx n ws us acts i a b l) K =
    if Pre n ws then cond (!b) (fin7 R K n acts ws us i a (bn (usedB n ws a) true)) (if 0 ≤ a ∧ a < (us.length : Int) then us[a.toNat]?.bind fun y => fin7 R K n acts ws us i a (bn (usedB n ws a) y) else none) else none := by
  rcases hl with rfl | rfl <;> kernel_rfl
theorem q7c : evC X E3 an3 lp (sR (sR (sR (sR (sR (sR BB)))))) 1 (tu n ws us acts i false) K = K .normal (tu n ws us acts i false) := by kernel_rfl
theorem q8 : evC X E3 an3 lp (sR (sR B0)) 0 (tu n ws us acts i false) K = K .normal (t0 n ws us acts (IntKind.i64.wrap (i + 1))) := by kernel_rfl
end
theorem hB0 : loopAt Tryd.f3 0 = .seq (sL B0) (.seq (.block 1 (.seq (sL BB) (.seq (sL (sR BB)) (.seq (sL (sR (sR BB))) (.seq (.block 2 (.seq (sL SW) (sR SW))) (.seq (sL (sR (sR (sR (sR BB))))) (.seq (sL (sR (sR (sR (sR (sR BB)))))) (sR (sR (sR (sR (sR (sR BB)))))))))))))
    (sR (sR B0))) := by kernel_rfl
theorem hT : cT (sR SW) = .seq (sL (cT (sR SW))) (.seq (sL (sR (cT (sR SW)))) (sR (sR (cT (sR SW))))) := by kernel_rfl
theorem hF : cF (sR SW) = .seq (sL (cF (sR SW))) (.seq (sL (sR (cF (sR SW)))) (sR (sR (cF (sR SW))))) := by kernel_rfl
end Go.Proofs.YtcbbpidnocgoiaaDoor.Sv

-- Written by a program of this session.
import Derived.Test.YtnejefipkmnioaaProg
import Derived.Below
import Derived.Deep.Draws
import Derived.Deep.AppendLies
import Derived.Maps.AppendAt
import Derived.OwnWalk
import Derived.Laws.BytesArg
import Derived.Laws.MakeOwn
import Derived.Laws.OwnMore
import Derived.Deep.OwnRows
import Derived.Tactics
import Derived.Lib.ConvBytes
import Derived.Laws.Slices
import Derived.WalkKit
import Derived.KernelRfl
import Derived.RowKit3
import Derived.Deep.LoopGhost
import Derived.Deep.QuietTactic
import Derived.BigQuiet
import Derived.WideLaws
import Derived.Deep.DeepCutAuto
import Derived.Deep.CutBlock
import Derived.Deep.RegionHeld3
import Derived.Laws.Rows
import Derived.Lib.AppendStr
import Derived.ArgAppend
import Derived.Laws.IdiomCopy
import Derived.OrdersHeld
import Derived.Laws.BitsLemmas
import Derived.RowKit
import Derived.Test.YtnejefipkmnioaaWWords
import Derived.Test.YtnejefipkmnioaaWLast
import Derived.Test.YtnejefipkmnioaaWTab
import Derived.Test.YtnejefipkmnioaaWFour
import Derived.Test.YtnejefipkmnioaaWQPut
import Derived.Test.YtnejefipkmnioaaWApart
import Derived.Test.YtnejefipkmnioaaWArr
import Derived.Test.YtnejefipkmnioaaWZeros
import Derived.Test.YtnejefipkmnioaaWFoot
import Derived.Test.YtnejefipkmnioaaWKept
import Derived.Test.YtnejefipkmnioaaWShare
import Derived.Test.YtnejefipkmnioaaWN
import Derived.Test.YtnejefipkmnioaaWFootNe
import Derived.Test.YtnejefipkmnioaaWAt
import Derived.Test.YtnejefipkmnioaaWEqStruct
import Derived.Test.YtnejefipkmnioaaWRepsOne
import Derived.Test.YtnejefipkmnioaaWInv
import Derived.Test.YtnejefipkmnioaaWInvWords
import Derived.Test.YtnejefipkmnioaaWGuard
import Derived.Test.YtnejefipkmnioaaWNEv
import Derived.Test.YtnejefipkmnioaaWMore
namespace Go.Proofs.Ytnejefipkmnioaa.QPhaseTexts
open Go.RowKit Go.Proofs.YtnejefipkmnioaaW.PrintWords Go.Proofs.YtnejefipkmnioaaW.PrintLast Go.Proofs.YtnejefipkmnioaaW.PrintMore
attribute [local go_sem] max2_int min2_int max_two min_two max_three min_three max_four min_four   -- for this text's walks alone
set_option linter.unusedVariables false
set_option linter.unusedSimpArgs false



def errW : Option Int → Value
  | none => .nilIface
  | some c => .iface 0 (.int .i64 c)
theorem errW_none : errW none = .nilIface := rfl
theorem errW_some (c : Int) : errW (some c) = .iface 0 (.int .i64 c) := rfl

theorem info5 : (Try.prog.info? 5).map (fun i => (i.zero, i.size, i.bytes)) = some (some (.int .u8 0), 1, 1) := by kernel_rfl
-- the values' own types

end Go.Proofs.Ytnejefipkmnioaa.QPhaseTexts

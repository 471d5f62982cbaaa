-- Written by a program of this session.
import Derived.Test.YtbfoajffacdjpaaProg
import Derived.Below
import Derived.Deep.Draws
import Derived.Deep.AppendLies
import Derived.Maps.AppendAt
import Derived.OwnWalk
import Derived.Laws.BytesArg
import Derived.Laws.MakeOwn
import Derived.Laws.OwnMore
import Derived.Deep.OwnRows
import Derived.Tactics
import Derived.Lib.ConvBytes
import Derived.Laws.Slices
import Derived.WalkKit
import Derived.KernelRfl
import Derived.RowKit3
import Derived.Deep.LoopGhost
import Derived.Deep.QuietTactic
import Derived.BigQuiet
import Derived.WideLaws
import Derived.Deep.DeepCutAuto
import Derived.Deep.CutBlock
import Derived.Deep.RegionHeld3
import Derived.Laws.Rows
import Derived.Lib.AppendStr
import Derived.ArgAppend
import Derived.Laws.IdiomCopy
import Derived.OrdersHeld
import Derived.Laws.BitsLemmas
import Derived.RowKit
import Derived.Test.YtbfoajffacdjpaaWWords
import Derived.Test.YtbfoajffacdjpaaWLast
import Derived.Test.YtbfoajffacdjpaaWTab
import Derived.Test.YtbfoajffacdjpaaWFour
import Derived.Test.YtbfoajffacdjpaaWQPut
import Derived.Test.YtbfoajffacdjpaaWApart
import Derived.Test.YtbfoajffacdjpaaWArr
import Derived.Test.YtbfoajffacdjpaaWZeros
import Derived.Test.YtbfoajffacdjpaaWFoot
import Derived.Test.YtbfoajffacdjpaaWKept
import Derived.Test.YtbfoajffacdjpaaWShare
import Derived.Test.YtbfoajffacdjpaaWN
import Derived.Test.YtbfoajffacdjpaaWFootNe
import Derived.Test.YtbfoajffacdjpaaWAt
import Derived.Test.YtbfoajffacdjpaaWEqStruct
import Derived.Test.YtbfoajffacdjpaaWRepsOne
import Derived.Test.YtbfoajffacdjpaaWInv
import Derived.Test.YtbfoajffacdjpaaWInvWords
import Derived.Test.YtbfoajffacdjpaaWGuard
import Derived.Test.YtbfoajffacdjpaaWNEv
import Derived.Test.YtbfoajffacdjpaaWMore
namespace Go.Proofs.Ytbfoajffacdjpaa.QWireNone
open Go.RowKit Go.Proofs.YtbfoajffacdjpaaW.PrintWords Go.Proofs.YtbfoajffacdjpaaW.PrintLast Go.Proofs.YtbfoajffacdjpaaW.PrintMore
attribute [local go_sem] max2_int min2_int max_two min_two max_three min_three max_four min_four   -- for this text's walks alone
set_option linter.unusedVariables false
set_option linter.unusedSimpArgs false



def errW : Option Int → Value
  | none => .nilIface
  | some c => .iface 0 (.int .i64 c)
theorem errW_none : errW none = .nilIface := rfl
theorem errW_some (c : Int) : errW (some c) = .iface 0 (.int .i64 c) := rfl

theorem info5 : (Try.prog.info? 5).map (fun i => (i.zero, i.size, i.bytes)) = some (some (.int .u8 0), 1, 1) := by kernel_rfl
-- the values' own types

end Go.Proofs.Ytbfoajffacdjpaa.QWireNone

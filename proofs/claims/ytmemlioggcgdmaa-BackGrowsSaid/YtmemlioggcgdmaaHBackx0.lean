-- WRITTEN BY A PROGRAM OF THIS SESSION (wip/tools/myprint.py, over the kit's printer), with texts proved by hand among it
import Derived.Test.YtmemlioggcgdmaaProg
import Derived.Below
import Derived.Deep.Draws
import Derived.Deep.AppendLies
import Derived.Maps.AppendAt
import Derived.OwnWalk
import Derived.Laws.BytesArg
import Derived.Laws.MakeOwn
import Derived.Laws.OwnMore
import Derived.Deep.OwnRows
import Derived.Tactics
import Derived.Lib.ConvBytes
import Derived.Laws.Slices
import Derived.WalkKit
import Derived.KernelRfl
import Derived.RowKit3
import Derived.Deep.LoopGhost
import Derived.Deep.QuietTactic
import Derived.BigQuiet
import Derived.WideLaws
import Derived.Deep.DeepCutAuto
import Derived.Deep.CutBlock
import Derived.Deep.RegionHeld3
import Derived.Laws.Rows
import Derived.Lib.AppendStr
import Derived.ArgAppend
import Derived.Laws.IdiomCopy
import Derived.OrdersHeld
import Derived.Laws.BitsLemmas
import Derived.RowKit
import Derived.Test.YtmemlioggcgdmaaWWords
import Derived.Test.YtmemlioggcgdmaaWLast
import Derived.Test.YtmemlioggcgdmaaWTab
import Derived.Test.YtmemlioggcgdmaaWFour
import Derived.Test.YtmemlioggcgdmaaWQPut
import Derived.Test.YtmemlioggcgdmaaWApart
import Derived.Test.YtmemlioggcgdmaaWArr
import Derived.Test.YtmemlioggcgdmaaWZeros
import Derived.Test.YtmemlioggcgdmaaWFoot
import Derived.Test.YtmemlioggcgdmaaWKept
import Derived.Test.YtmemlioggcgdmaaWShare
import Derived.Test.YtmemlioggcgdmaaWN
import Derived.Test.YtmemlioggcgdmaaWFootNe
import Derived.Test.YtmemlioggcgdmaaWAt
import Derived.Test.YtmemlioggcgdmaaWEqStruct
import Derived.Test.YtmemlioggcgdmaaWRepsOne
import Derived.Test.YtmemlioggcgdmaaWInv
import Derived.Test.YtmemlioggcgdmaaWInvWords
import Derived.Test.YtmemlioggcgdmaaWGuard
import Derived.Test.YtmemlioggcgdmaaWNEv
import Derived.Test.YtmemlioggcgdmaaWMore
namespace Go.Proofs.Ytmemlioggcgdmaa.HBack
open Go.RowKit Go.Proofs.YtmemlioggcgdmaaW.PrintWords Go.Proofs.YtmemlioggcgdmaaW.PrintLast Go.Proofs.YtmemlioggcgdmaaW.PrintMore
attribute [local go_sem] max2_int min2_int max_two min_two max_three min_three max_four min_four   -- for this text's walks alone
set_option linter.unusedVariables false
set_option linter.unusedSimpArgs false



def errW : Option Int → Value
  | none => .nilIface
  | some c => .iface 0 (.int .i64 c)
theorem errW_none : errW none = .nilIface := rfl
theorem errW_some (c : Int) : errW (some c) = .iface 0 (.int .i64 c) := rfl

-- the values' own types

end Go.Proofs.Ytmemlioggcgdmaa.HBack

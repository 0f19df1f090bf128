-- Written by a program of this session (a changed copy of the print): functions and their walks.
import Derived.Test.YtgdeohpkfpbeiaaProg
import Derived.Below
import Derived.Deep.Draws
import Derived.Deep.AppendLies
import Derived.Maps.AppendAt
import Derived.OwnWalk
import Derived.Laws.BytesArg
import Derived.Laws.MakeOwn
import Derived.Laws.OwnMore
import Derived.Deep.OwnRows
import Derived.Tactics
import Derived.Lib.ConvBytes
import Derived.Laws.Slices
import Derived.WalkKit
import Derived.KernelRfl
import Derived.RowKit3
import Derived.Deep.LoopGhost
import Derived.Deep.QuietTactic
import Derived.BigQuiet
import Derived.WideLaws
import Derived.Deep.DeepCutAuto
import Derived.Deep.CutBlock
import Derived.Deep.RegionHeld3
import Derived.Laws.Rows
import Derived.Lib.AppendStr
import Derived.ArgAppend
import Derived.Laws.IdiomCopy
import Derived.OrdersHeld
import Derived.Laws.BitsLemmas
import Derived.RowKit
import Derived.Test.YtgdeohpkfpbeiaaWWords
import Derived.Test.YtgdeohpkfpbeiaaWLast
import Derived.Test.YtgdeohpkfpbeiaaWTab
import Derived.Test.YtgdeohpkfpbeiaaWFour
import Derived.Test.YtgdeohpkfpbeiaaWQPut
import Derived.Test.YtgdeohpkfpbeiaaWApart
import Derived.Test.YtgdeohpkfpbeiaaWArr
import Derived.Test.YtgdeohpkfpbeiaaWZeros
import Derived.Test.YtgdeohpkfpbeiaaWFoot
import Derived.Test.YtgdeohpkfpbeiaaWKept
import Derived.Test.YtgdeohpkfpbeiaaWShare
import Derived.Test.YtgdeohpkfpbeiaaWN
import Derived.Test.YtgdeohpkfpbeiaaWFootNe
import Derived.Test.YtgdeohpkfpbeiaaWAt
import Derived.Test.YtgdeohpkfpbeiaaWEqStruct
import Derived.Test.YtgdeohpkfpbeiaaWRepsOne
import Derived.Test.YtgdeohpkfpbeiaaWInv
import Derived.Test.YtgdeohpkfpbeiaaWInvWords
import Derived.Test.YtgdeohpkfpbeiaaWGuard
import Derived.Test.YtgdeohpkfpbeiaaWNEv
import Derived.Test.YtgdeohpkfpbeiaaWMore
namespace Go.Proofs.Ytgdeohpkfpbeiaa.PSumIs
open Go.RowKit Go.Proofs.YtgdeohpkfpbeiaaW.PrintWords Go.Proofs.YtgdeohpkfpbeiaaW.PrintLast Go.Proofs.YtgdeohpkfpbeiaaW.PrintMore
attribute [local go_sem] max2_int min2_int max_two min_two max_three min_three max_four min_four   -- for this text's walks alone
set_option linter.unusedVariables false
set_option linter.unusedSimpArgs false



def errW : Option Int → Value
  | none => .nilIface
  | some c => .iface 0 (.int .i64 c)
theorem errW_none : errW none = .nilIface := rfl
theorem errW_some (c : Int) : errW (some c) = .iface 0 (.int .i64 c) := rfl

-- the values' own types

end Go.Proofs.Ytgdeohpkfpbeiaa.PSumIs

-- PRINTED BY print.sh 35421559b90ae4d0a3588c463048766b98c2df88dd9212a6774a882060cdf62d: not written by this session
import Derived.Test.YtghmelcbkjejeaaProg
import Derived.Below
import Derived.Deep.Draws
import Derived.Deep.AppendLies
import Derived.Maps.AppendAt
import Derived.OwnWalk
import Derived.Laws.BytesArg
import Derived.Laws.MakeOwn
import Derived.Laws.OwnMore
import Derived.Deep.OwnRows
import Derived.Tactics
import Derived.Lib.ConvBytes
import Derived.Laws.Slices
import Derived.WalkKit
import Derived.KernelRfl
import Derived.RowKit3
import Derived.Deep.LoopGhost
import Derived.Deep.QuietTactic
import Derived.BigQuiet
import Derived.WideLaws
import Derived.Deep.DeepCutAuto
import Derived.Deep.CutBlock
import Derived.Deep.RegionHeld3
import Derived.Laws.Rows
import Derived.Lib.AppendStr
import Derived.ArgAppend
import Derived.Laws.IdiomCopy
import Derived.OrdersHeld
import Derived.Laws.BitsLemmas
import Derived.RowKit
import Derived.Test.YtghmelcbkjejeaaWWords
import Derived.Test.YtghmelcbkjejeaaWLast
import Derived.Test.YtghmelcbkjejeaaWTab
import Derived.Test.YtghmelcbkjejeaaWFour
import Derived.Test.YtghmelcbkjejeaaWQPut
import Derived.Test.YtghmelcbkjejeaaWApart
import Derived.Test.YtghmelcbkjejeaaWArr
import Derived.Test.YtghmelcbkjejeaaWZeros
import Derived.Test.YtghmelcbkjejeaaWFoot
import Derived.Test.YtghmelcbkjejeaaWKept
import Derived.Test.YtghmelcbkjejeaaWShare
import Derived.Test.YtghmelcbkjejeaaWN
import Derived.Test.YtghmelcbkjejeaaWFootNe
import Derived.Test.YtghmelcbkjejeaaWAt
import Derived.Test.YtghmelcbkjejeaaWEqStruct
import Derived.Test.YtghmelcbkjejeaaWRepsOne
import Derived.Test.YtghmelcbkjejeaaWInv
import Derived.Test.YtghmelcbkjejeaaWInvWords
import Derived.Test.YtghmelcbkjejeaaWGuard
import Derived.Test.YtghmelcbkjejeaaWNEv
import Derived.Test.YtghmelcbkjejeaaWMore
namespace Go.Proofs.Ytghmelcbkjejeaa.PAesBox
open Go.RowKit Go.Proofs.YtghmelcbkjejeaaW.PrintWords Go.Proofs.YtghmelcbkjejeaaW.PrintLast Go.Proofs.YtghmelcbkjejeaaW.PrintMore
attribute [local go_sem] max2_int min2_int max_two min_two max_three min_three max_four min_four   -- for this text's walks alone
set_option linter.unusedVariables false
set_option linter.unusedSimpArgs false



def errW : Option Int → Value
  | none => .nilIface
  | some c => .iface 0 (.int .i64 c)
theorem errW_none : errW none = .nilIface := rfl
theorem errW_some (c : Int) : errW (some c) = .iface 0 (.int .i64 c) := rfl

-- the values' own types

end Go.Proofs.Ytghmelcbkjejeaa.PAesBox

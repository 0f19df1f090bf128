-- PRINTED BY print.sh 35421559b90ae4d0a3588c463048766b98c2df88dd9212a6774a882060cdf62d: not written by this session
import Derived.Test.YtkjocdhpccfiiaaProg
import Derived.Below
import Derived.Deep.Draws
import Derived.Deep.AppendLies
import Derived.Maps.AppendAt
import Derived.OwnWalk
import Derived.Laws.BytesArg
import Derived.Laws.MakeOwn
import Derived.Laws.OwnMore
import Derived.Deep.OwnRows
import Derived.Tactics
import Derived.Lib.ConvBytes
import Derived.Laws.Slices
import Derived.WalkKit
import Derived.KernelRfl
import Derived.RowKit3
import Derived.Deep.LoopGhost
import Derived.Deep.QuietTactic
import Derived.BigQuiet
import Derived.WideLaws
import Derived.Deep.DeepCutAuto
import Derived.Deep.CutBlock
import Derived.Deep.RegionHeld3
import Derived.Laws.Rows
import Derived.Lib.AppendStr
import Derived.ArgAppend
import Derived.Laws.IdiomCopy
import Derived.OrdersHeld
import Derived.Laws.BitsLemmas
import Derived.RowKit
import Derived.Test.YtkjocdhpccfiiaaWWords
import Derived.Test.YtkjocdhpccfiiaaWLast
import Derived.Test.YtkjocdhpccfiiaaWTab
import Derived.Test.YtkjocdhpccfiiaaWFour
import Derived.Test.YtkjocdhpccfiiaaWQPut
import Derived.Test.YtkjocdhpccfiiaaWApart
import Derived.Test.YtkjocdhpccfiiaaWArr
import Derived.Test.YtkjocdhpccfiiaaWZeros
import Derived.Test.YtkjocdhpccfiiaaWFoot
import Derived.Test.YtkjocdhpccfiiaaWKept
import Derived.Test.YtkjocdhpccfiiaaWShare
import Derived.Test.YtkjocdhpccfiiaaWN
import Derived.Test.YtkjocdhpccfiiaaWFootNe
import Derived.Test.YtkjocdhpccfiiaaWAt
import Derived.Test.YtkjocdhpccfiiaaWEqStruct
import Derived.Test.YtkjocdhpccfiiaaWRepsOne
import Derived.Test.YtkjocdhpccfiiaaWInv
import Derived.Test.YtkjocdhpccfiiaaWInvWords
import Derived.Test.YtkjocdhpccfiiaaWGuard
import Derived.Test.YtkjocdhpccfiiaaWNEv
import Derived.Test.YtkjocdhpccfiiaaWMore
namespace Go.Proofs.Ytkjocdhpccfiiaa.PNames
open Go.RowKit Go.Proofs.YtkjocdhpccfiiaaW.PrintWords Go.Proofs.YtkjocdhpccfiiaaW.PrintLast Go.Proofs.YtkjocdhpccfiiaaW.PrintMore
attribute [local go_sem] max2_int min2_int max_two min_two max_three min_three max_four min_four   -- for this text's walks alone
set_option linter.unusedVariables false
set_option linter.unusedSimpArgs false



def errW : Option Int → Value
  | none => .nilIface
  | some c => .iface 0 (.int .i64 c)
theorem errW_none : errW none = .nilIface := rfl
theorem errW_some (c : Int) : errW (some c) = .iface 0 (.int .i64 c) := rfl

-- the values' own types

end Go.Proofs.Ytkjocdhpccfiiaa.PNames

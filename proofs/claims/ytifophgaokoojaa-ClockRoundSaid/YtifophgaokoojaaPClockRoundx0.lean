-- PRINTED BY print.sh 35421559b90ae4d0a3588c463048766b98c2df88dd9212a6774a882060cdf62d: not written by this session
import Derived.Test.YtifophgaokoojaaProg
import Derived.Below
import Derived.Deep.Draws
import Derived.Deep.AppendLies
import Derived.Maps.AppendAt
import Derived.OwnWalk
import Derived.Laws.BytesArg
import Derived.Laws.MakeOwn
import Derived.Laws.OwnMore
import Derived.Deep.OwnRows
import Derived.Tactics
import Derived.Lib.ConvBytes
import Derived.Laws.Slices
import Derived.WalkKit
import Derived.KernelRfl
import Derived.RowKit3
import Derived.Deep.LoopGhost
import Derived.Deep.QuietTactic
import Derived.BigQuiet
import Derived.WideLaws
import Derived.Deep.DeepCutAuto
import Derived.Deep.CutBlock
import Derived.Deep.RegionHeld3
import Derived.Laws.Rows
import Derived.Lib.AppendStr
import Derived.ArgAppend
import Derived.Laws.IdiomCopy
import Derived.OrdersHeld
import Derived.Laws.BitsLemmas
import Derived.RowKit
import Derived.Test.YtifophgaokoojaaWWords
import Derived.Test.YtifophgaokoojaaWLast
import Derived.Test.YtifophgaokoojaaWTab
import Derived.Test.YtifophgaokoojaaWFour
import Derived.Test.YtifophgaokoojaaWQPut
import Derived.Test.YtifophgaokoojaaWApart
import Derived.Test.YtifophgaokoojaaWArr
import Derived.Test.YtifophgaokoojaaWZeros
import Derived.Test.YtifophgaokoojaaWFoot
import Derived.Test.YtifophgaokoojaaWKept
import Derived.Test.YtifophgaokoojaaWShare
import Derived.Test.YtifophgaokoojaaWN
import Derived.Test.YtifophgaokoojaaWFootNe
import Derived.Test.YtifophgaokoojaaWAt
import Derived.Test.YtifophgaokoojaaWEqStruct
import Derived.Test.YtifophgaokoojaaWRepsOne
import Derived.Test.YtifophgaokoojaaWInv
import Derived.Test.YtifophgaokoojaaWInvWords
import Derived.Test.YtifophgaokoojaaWGuard
import Derived.Test.YtifophgaokoojaaWNEv
import Derived.Test.YtifophgaokoojaaWMore
namespace Go.Proofs.Ytifophgaokoojaa.PClockRound
open Go.RowKit Go.Proofs.YtifophgaokoojaaW.PrintWords Go.Proofs.YtifophgaokoojaaW.PrintLast Go.Proofs.YtifophgaokoojaaW.PrintMore
attribute [local go_sem] max2_int min2_int max_two min_two max_three min_three max_four min_four   -- for this text's walks alone
set_option linter.unusedVariables false
set_option linter.unusedSimpArgs false



def errW : Option Int → Value
  | none => .nilIface
  | some c => .iface 0 (.int .i64 c)
theorem errW_none : errW none = .nilIface := rfl
theorem errW_some (c : Int) : errW (some c) = .iface 0 (.int .i64 c) := rfl

-- the values' own types

end Go.Proofs.Ytifophgaokoojaa.PClockRound

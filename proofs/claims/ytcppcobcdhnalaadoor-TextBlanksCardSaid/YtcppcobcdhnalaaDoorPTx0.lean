-- Written by a program of this session (tools/myprint.py), out of the translation; Lean checks it.
import Derived.Test.YtcppcobcdhnalaaDoorProg
import Derived.Below
import Derived.Deep.Draws
import Derived.Deep.AppendLies
import Derived.Maps.AppendAt
import Derived.OwnWalk
import Derived.Laws.BytesArg
import Derived.Laws.MakeOwn
import Derived.Laws.OwnMore
import Derived.Deep.OwnRows
import Derived.Tactics
import Derived.Lib.ConvBytes
import Derived.Laws.Slices
import Derived.WalkKit
import Derived.KernelRfl
import Derived.RowKit3
import Derived.Deep.LoopGhost
import Derived.Deep.QuietTactic
import Derived.BigQuiet
import Derived.WideLaws
import Derived.Deep.DeepCutAuto
import Derived.Deep.CutBlock
import Derived.Deep.RegionHeld3
import Derived.Laws.Rows
import Derived.Lib.AppendStr
import Derived.ArgAppend
import Derived.Laws.IdiomCopy
import Derived.OrdersHeld
import Derived.Laws.BitsLemmas
import Derived.RowKit
import Derived.Test.YtcppcobcdhnalaaDoorEnv
import Derived.Test.YtcppcobcdhnalaaDoorWWords
import Derived.Test.YtcppcobcdhnalaaDoorWLast
import Derived.Test.YtcppcobcdhnalaaDoorWTab
import Derived.Test.YtcppcobcdhnalaaDoorWFour
import Derived.Test.YtcppcobcdhnalaaDoorWQPut
import Derived.Test.YtcppcobcdhnalaaDoorWApart
import Derived.Test.YtcppcobcdhnalaaDoorWArr
import Derived.Test.YtcppcobcdhnalaaDoorWZeros
import Derived.Test.YtcppcobcdhnalaaDoorWFoot
import Derived.Test.YtcppcobcdhnalaaDoorWKept
import Derived.Test.YtcppcobcdhnalaaDoorWShare
import Derived.Test.YtcppcobcdhnalaaDoorWN
import Derived.Test.YtcppcobcdhnalaaDoorWFootNe
import Derived.Test.YtcppcobcdhnalaaDoorWAt
import Derived.Test.YtcppcobcdhnalaaDoorWEqStruct
import Derived.Test.YtcppcobcdhnalaaDoorWRepsOne
import Derived.Test.YtcppcobcdhnalaaDoorWInv
import Derived.Test.YtcppcobcdhnalaaDoorWInvWords
import Derived.Test.YtcppcobcdhnalaaDoorWGuard
import Derived.Test.YtcppcobcdhnalaaDoorWNEv
import Derived.Test.YtcppcobcdhnalaaDoorWMore
namespace Go.Proofs.YtcppcobcdhnalaaDoor.PT
open Go.RowKit Go.Proofs.YtcppcobcdhnalaaDoorW.PrintWords Go.Proofs.YtcppcobcdhnalaaDoorW.PrintLast Go.Proofs.YtcppcobcdhnalaaDoorW.PrintMore
attribute [local go_sem] max2_int min2_int max_two min_two max_three min_three max_four min_four   -- for this text's walks alone
set_option linter.unusedVariables false
set_option linter.unusedSimpArgs false




-- the values' own types

end Go.Proofs.YtcppcobcdhnalaaDoor.PT

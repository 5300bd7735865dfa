-- PRINTED BY print.sh 35421559b90ae4d0a3588c463048766b98c2df88dd9212a6774a882060cdf62d: not written by this session
import Derived.Test.YtcpehjdnmhkcpaaProg
import Derived.Below
import Derived.Deep.Draws
import Derived.Deep.AppendLies
import Derived.Maps.AppendAt
import Derived.OwnWalk
import Derived.Laws.BytesArg
import Derived.Laws.MakeOwn
import Derived.Laws.OwnMore
import Derived.Deep.OwnRows
import Derived.Tactics
import Derived.Lib.ConvBytes
import Derived.Laws.Slices
import Derived.WalkKit
import Derived.KernelRfl
import Derived.RowKit3
import Derived.Deep.LoopGhost
import Derived.Deep.QuietTactic
import Derived.BigQuiet
import Derived.WideLaws
import Derived.Deep.DeepCutAuto
import Derived.Deep.CutBlock
import Derived.Deep.RegionHeld3
import Derived.Laws.Rows
import Derived.Lib.AppendStr
import Derived.ArgAppend
import Derived.Laws.IdiomCopy
import Derived.OrdersHeld
import Derived.Laws.BitsLemmas
import Derived.RowKit
import Derived.Test.YtcpehjdnmhkcpaaWWords
import Derived.Test.YtcpehjdnmhkcpaaWLast
import Derived.Test.YtcpehjdnmhkcpaaWTab
import Derived.Test.YtcpehjdnmhkcpaaWFour
import Derived.Test.YtcpehjdnmhkcpaaWQPut
import Derived.Test.YtcpehjdnmhkcpaaWApart
import Derived.Test.YtcpehjdnmhkcpaaWArr
import Derived.Test.YtcpehjdnmhkcpaaWZeros
import Derived.Test.YtcpehjdnmhkcpaaWFoot
import Derived.Test.YtcpehjdnmhkcpaaWKept
import Derived.Test.YtcpehjdnmhkcpaaWShare
import Derived.Test.YtcpehjdnmhkcpaaWN
import Derived.Test.YtcpehjdnmhkcpaaWFootNe
import Derived.Test.YtcpehjdnmhkcpaaWAt
import Derived.Test.YtcpehjdnmhkcpaaWEqStruct
import Derived.Test.YtcpehjdnmhkcpaaWRepsOne
import Derived.Test.YtcpehjdnmhkcpaaWInv
import Derived.Test.YtcpehjdnmhkcpaaWInvWords
import Derived.Test.YtcpehjdnmhkcpaaWGuard
import Derived.Test.YtcpehjdnmhkcpaaWNEv
import Derived.Test.YtcpehjdnmhkcpaaWMore
namespace Go.Proofs.Ytcpehjdnmhkcpaa.PJoinOrder
open Go.RowKit Go.Proofs.YtcpehjdnmhkcpaaW.PrintWords Go.Proofs.YtcpehjdnmhkcpaaW.PrintLast Go.Proofs.YtcpehjdnmhkcpaaW.PrintMore
attribute [local go_sem] max2_int min2_int max_two min_two max_three min_three max_four min_four   -- for this text's walks alone
set_option linter.unusedVariables false
set_option linter.unusedSimpArgs false



def errW : Option Int → Value
  | none => .nilIface
  | some c => .iface 0 (.int .i64 c)
theorem errW_none : errW none = .nilIface := rfl
theorem errW_some (c : Int) : errW (some c) = .iface 0 (.int .i64 c) := rfl

theorem info5 : (Try.prog.info? 5).map (fun i => (i.zero, i.size, i.bytes)) = some (some (.int .u8 0), 1, 1) := by kernel_rfl
-- the values' own types

end Go.Proofs.Ytcpehjdnmhkcpaa.PJoinOrder

-- PRINTED BY print.sh 35421559b90ae4d0a3588c463048766b98c2df88dd9212a6774a882060cdf62d: not written by this session
import Derived.Test.YtjngdnemappcdaaProg
import Derived.Below
import Derived.Deep.Draws
import Derived.Deep.AppendLies
import Derived.Maps.AppendAt
import Derived.OwnWalk
import Derived.Laws.BytesArg
import Derived.Laws.MakeOwn
import Derived.Laws.OwnMore
import Derived.Deep.OwnRows
import Derived.Tactics
import Derived.Lib.ConvBytes
import Derived.Laws.Slices
import Derived.WalkKit
import Derived.KernelRfl
import Derived.RowKit3
import Derived.Deep.LoopGhost
import Derived.Deep.QuietTactic
import Derived.BigQuiet
import Derived.WideLaws
import Derived.Deep.DeepCutAuto
import Derived.Deep.CutBlock
import Derived.Deep.RegionHeld3
import Derived.Laws.Rows
import Derived.Lib.AppendStr
import Derived.ArgAppend
import Derived.Laws.IdiomCopy
import Derived.OrdersHeld
import Derived.Laws.BitsLemmas
import Derived.RowKit
import Derived.Test.YtjngdnemappcdaaWWords
import Derived.Test.YtjngdnemappcdaaWLast
import Derived.Test.YtjngdnemappcdaaWTab
import Derived.Test.YtjngdnemappcdaaWFour
import Derived.Test.YtjngdnemappcdaaWQPut
import Derived.Test.YtjngdnemappcdaaWApart
import Derived.Test.YtjngdnemappcdaaWArr
import Derived.Test.YtjngdnemappcdaaWZeros
import Derived.Test.YtjngdnemappcdaaWFoot
import Derived.Test.YtjngdnemappcdaaWKept
import Derived.Test.YtjngdnemappcdaaWShare
import Derived.Test.YtjngdnemappcdaaWN
import Derived.Test.YtjngdnemappcdaaWFootNe
import Derived.Test.YtjngdnemappcdaaWAt
import Derived.Test.YtjngdnemappcdaaWEqStruct
import Derived.Test.YtjngdnemappcdaaWRepsOne
import Derived.Test.YtjngdnemappcdaaWInv
import Derived.Test.YtjngdnemappcdaaWInvWords
import Derived.Test.YtjngdnemappcdaaWGuard
import Derived.Test.YtjngdnemappcdaaWNEv
import Derived.Test.YtjngdnemappcdaaWMore
namespace Go.Proofs.Ytjngdnemappcdaa.PClockBetween
open Go.RowKit Go.Proofs.YtjngdnemappcdaaW.PrintWords Go.Proofs.YtjngdnemappcdaaW.PrintLast Go.Proofs.YtjngdnemappcdaaW.PrintMore
attribute [local go_sem] max2_int min2_int max_two min_two max_three min_three max_four min_four   -- for this text's walks alone
set_option linter.unusedVariables false
set_option linter.unusedSimpArgs false



def errW : Option Int → Value
  | none => .nilIface
  | some c => .iface 0 (.int .i64 c)
theorem errW_none : errW none = .nilIface := rfl
theorem errW_some (c : Int) : errW (some c) = .iface 0 (.int .i64 c) := rfl

theorem info22 : (Try.prog.info? 22).map (fun i => (i.zero, i.size, i.bytes)) = some (some (.int .u32 0), 1, 4) := by kernel_rfl
-- the values' own types

end Go.Proofs.Ytjngdnemappcdaa.PClockBetween

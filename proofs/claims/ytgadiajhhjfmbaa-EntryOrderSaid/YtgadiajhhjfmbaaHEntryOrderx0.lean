/- The road of EntryOrder: printed by a driver of our own over the print tool, with contracts of our own. -/
import Derived.Test.YtgadiajhhjfmbaaProg
import Derived.Below
import Derived.Deep.Draws
import Derived.Deep.AppendLies
import Derived.Maps.AppendAt
import Derived.OwnWalk
import Derived.Laws.BytesArg
import Derived.Laws.MakeOwn
import Derived.Laws.OwnMore
import Derived.Deep.OwnRows
import Derived.Tactics
import Derived.Lib.ConvBytes
import Derived.Laws.Slices
import Derived.WalkKit
import Derived.KernelRfl
import Derived.RowKit3
import Derived.Deep.LoopGhost
import Derived.Deep.QuietTactic
import Derived.BigQuiet
import Derived.WideLaws
import Derived.Deep.DeepCutAuto
import Derived.Deep.CutBlock
import Derived.Deep.RegionHeld3
import Derived.Laws.Rows
import Derived.Lib.AppendStr
import Derived.ArgAppend
import Derived.Laws.IdiomCopy
import Derived.OrdersHeld
import Derived.Laws.BitsLemmas
import Derived.RowKit
import Derived.Test.YtgadiajhhjfmbaaClosed
import Derived.Test.YtgadiajhhjfmbaaWWords
import Derived.Test.YtgadiajhhjfmbaaWLast
import Derived.Test.YtgadiajhhjfmbaaWTab
import Derived.Test.YtgadiajhhjfmbaaWFour
import Derived.Test.YtgadiajhhjfmbaaWQPut
import Derived.Test.YtgadiajhhjfmbaaWApart
import Derived.Test.YtgadiajhhjfmbaaWArr
import Derived.Test.YtgadiajhhjfmbaaWZeros
import Derived.Test.YtgadiajhhjfmbaaWFoot
import Derived.Test.YtgadiajhhjfmbaaWKept
import Derived.Test.YtgadiajhhjfmbaaWShare
import Derived.Test.YtgadiajhhjfmbaaWN
import Derived.Test.YtgadiajhhjfmbaaWFootNe
import Derived.Test.YtgadiajhhjfmbaaWAt
import Derived.Test.YtgadiajhhjfmbaaWEqStruct
import Derived.Test.YtgadiajhhjfmbaaWRepsOne
import Derived.Test.YtgadiajhhjfmbaaWInv
import Derived.Test.YtgadiajhhjfmbaaWInvWords
import Derived.Test.YtgadiajhhjfmbaaWGuard
import Derived.Test.YtgadiajhhjfmbaaWNEv
import Derived.Test.YtgadiajhhjfmbaaWMore
namespace Go.Proofs.Ytgadiajhhjfmbaa.HEntryOrder
open Go.RowKit Go.Proofs.YtgadiajhhjfmbaaW.PrintWords Go.Proofs.YtgadiajhhjfmbaaW.PrintLast Go.Proofs.YtgadiajhhjfmbaaW.PrintMore
attribute [local go_sem] max2_int min2_int max_two min_two max_three min_three max_four min_four   -- for this text's walks alone
set_option linter.unusedVariables false
set_option linter.unusedSimpArgs false



def errW : Option Int → Value
  | none => .nilIface
  | some c => .iface 0 (.int .i64 c)
theorem errW_none : errW none = .nilIface := rfl
theorem errW_some (c : Int) : errW (some c) = .iface 0 (.int .i64 c) := rfl

theorem info3 : (Try.prog.info? 3).map (fun i => (i.zero, i.size, i.bytes)) = some (some (.int .i64 0), 1, 8) := by kernel_rfl
-- the values' own types

end Go.Proofs.Ytgadiajhhjfmbaa.HEntryOrder

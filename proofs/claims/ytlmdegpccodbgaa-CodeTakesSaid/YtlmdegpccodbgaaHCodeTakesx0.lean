/- The road of CodeTakes: printed by a driver of our own over the print tool, with contracts of our own. -/
import Derived.Test.YtlmdegpccodbgaaProg
import Derived.Below
import Derived.Deep.Draws
import Derived.Deep.AppendLies
import Derived.Maps.AppendAt
import Derived.OwnWalk
import Derived.Laws.BytesArg
import Derived.Laws.MakeOwn
import Derived.Laws.OwnMore
import Derived.Deep.OwnRows
import Derived.Tactics
import Derived.Lib.ConvBytes
import Derived.Laws.Slices
import Derived.WalkKit
import Derived.KernelRfl
import Derived.RowKit3
import Derived.Deep.LoopGhost
import Derived.Deep.QuietTactic
import Derived.BigQuiet
import Derived.WideLaws
import Derived.Deep.DeepCutAuto
import Derived.Deep.CutBlock
import Derived.Deep.RegionHeld3
import Derived.Laws.Rows
import Derived.Lib.AppendStr
import Derived.ArgAppend
import Derived.Laws.IdiomCopy
import Derived.OrdersHeld
import Derived.Laws.BitsLemmas
import Derived.RowKit
import Derived.Test.YtlmdegpccodbgaaClosed
import Derived.Test.YtlmdegpccodbgaaTake
import Derived.Test.YtlmdegpccodbgaaWWords
import Derived.Test.YtlmdegpccodbgaaWLast
import Derived.Test.YtlmdegpccodbgaaWTab
import Derived.Test.YtlmdegpccodbgaaWFour
import Derived.Test.YtlmdegpccodbgaaWQPut
import Derived.Test.YtlmdegpccodbgaaWApart
import Derived.Test.YtlmdegpccodbgaaWArr
import Derived.Test.YtlmdegpccodbgaaWZeros
import Derived.Test.YtlmdegpccodbgaaWFoot
import Derived.Test.YtlmdegpccodbgaaWKept
import Derived.Test.YtlmdegpccodbgaaWShare
import Derived.Test.YtlmdegpccodbgaaWN
import Derived.Test.YtlmdegpccodbgaaWFootNe
import Derived.Test.YtlmdegpccodbgaaWAt
import Derived.Test.YtlmdegpccodbgaaWEqStruct
import Derived.Test.YtlmdegpccodbgaaWRepsOne
import Derived.Test.YtlmdegpccodbgaaWInv
import Derived.Test.YtlmdegpccodbgaaWInvWords
import Derived.Test.YtlmdegpccodbgaaWGuard
import Derived.Test.YtlmdegpccodbgaaWNEv
import Derived.Test.YtlmdegpccodbgaaWMore
namespace Go.Proofs.Ytlmdegpccodbgaa.HCodeTakes
open Go.RowKit Go.Proofs.YtlmdegpccodbgaaW.PrintWords Go.Proofs.YtlmdegpccodbgaaW.PrintLast Go.Proofs.YtlmdegpccodbgaaW.PrintMore
attribute [local go_sem] max2_int min2_int max_two min_two max_three min_three max_four min_four   -- for this text's walks alone
set_option linter.unusedVariables false
set_option linter.unusedSimpArgs false



def errW : Option Int → Value
  | none => .nilIface
  | some c => .iface 0 (.int .i64 c)
theorem errW_none : errW none = .nilIface := rfl
theorem errW_some (c : Int) : errW (some c) = .iface 0 (.int .i64 c) := rfl

theorem info3 : (Try.prog.info? 3).map (fun i => (i.zero, i.size, i.bytes)) = some (some (.int .i64 0), 1, 8) := by kernel_rfl
theorem info5 : (Try.prog.info? 5).map (fun i => (i.zero, i.size, i.bytes)) = some (some (.int .u8 0), 1, 1) := by kernel_rfl
-- the values' own types

end Go.Proofs.Ytlmdegpccodbgaa.HCodeTakes

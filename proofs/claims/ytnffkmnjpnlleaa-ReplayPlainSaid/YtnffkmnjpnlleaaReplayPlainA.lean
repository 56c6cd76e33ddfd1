/- The function that shows the law awake, by itself. It is closed; no condition. -/
import Derived.Test.YtnffkmnjpnlleaaReplayPlainT
namespace Go.Proofs.Ytnffkmnjpnlleaa.replayPlain
open Go.RowKit
set_option maxRecDepth 100000 in
theorem awake (W : World) : Calls Try.prog 16 #[] W (fun e W' => e = .returned (.bool true) ∧ Below W.heap.size W W') := by
  letI : Ev.Known Try.prog := Ev.Known.no Try.prog
  exact Ev.calls_tab (P := Try.prog) (N := 100000) (by kernel_rfl) (Ev.R.tab16_ok 100000) (fun f h => by cases h) (by kernel_rfl) (by kernel_rfl) (d := 60) (by decide) (by kernel_rfl) W
end Go.Proofs.Ytnffkmnjpnlleaa.replayPlain

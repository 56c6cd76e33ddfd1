/- The function that shows the law awake, by itself. It is closed; no condition. -/
import Derived.Test.YtpfnoffadfahmaaGreatServerNoneT
namespace Go.Proofs.YtpfnoffadfahmaaGreat.serverNone
open Go.RowKit
set_option maxRecDepth 100000 in
theorem awake (W : World) : Calls Tryz.prog 23 #[] W (fun e W' => e = .returned (.bool true) ∧ Below W.heap.size W W') := by
  letI : Ev.Known Tryz.prog := Ev.Known.no Tryz.prog
  exact Ev.calls_tab (P := Tryz.prog) (N := 100000) (by kernel_rfl) (Ev.R.tab23_ok 100000) (fun f h => by cases h) (by kernel_rfl) (by kernel_rfl) (d := 60) (by decide) (by kernel_rfl) W
end Go.Proofs.YtpfnoffadfahmaaGreat.serverNone

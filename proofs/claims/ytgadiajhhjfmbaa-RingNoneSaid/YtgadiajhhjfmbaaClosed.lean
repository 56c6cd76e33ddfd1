/- Functions without arguments that return true: each is run in the kernel, over the evaluator whose answers the model's machine is proved to give. No condition. -/
import Derived.Test.YtgadiajhhjfmbaaProg
import Derived.Test.YtgadiajhhjfmbaaEvY
import Derived.KernelRfl
namespace Go.Proofs.Ytgadiajhhjfmbaa.Closed
open Go Go.RowKit
set_option maxRecDepth 100000 in
theorem c4 (W : World) : Calls Try.prog 4 #[] W (fun e W' => e = .returned (.bool true) ∧ Below W.heap.size W W') :=
  Ev.calls_true (P := Try.prog) (by kernel_rfl) (n := 100000) (by kernel_rfl) W
set_option maxRecDepth 100000 in
theorem c13 (W : World) : Calls Try.prog 13 #[] W (fun e W' => e = .returned (.bool true) ∧ Below W.heap.size W W') :=
  Ev.calls_true (P := Try.prog) (by kernel_rfl) (n := 100000) (by kernel_rfl) W
set_option maxRecDepth 100000 in
theorem c26 (W : World) : Calls Try.prog 26 #[] W (fun e W' => e = .returned (.bool true) ∧ Below W.heap.size W W') :=
  Ev.calls_true (P := Try.prog) (by kernel_rfl) (n := 100000) (by kernel_rfl) W
end Go.Proofs.Ytgadiajhhjfmbaa.Closed

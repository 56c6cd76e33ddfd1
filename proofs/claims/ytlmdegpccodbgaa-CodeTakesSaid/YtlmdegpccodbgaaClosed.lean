/- Functions without arguments that return true: each is run in the kernel, over the evaluator whose answers the model's machine is proved to give. No condition. -/
import Derived.Test.YtlmdegpccodbgaaProg
import Derived.Test.YtlmdegpccodbgaaEvY
import Derived.KernelRfl
namespace Go.Proofs.Ytlmdegpccodbgaa.Closed
open Go Go.RowKit
set_option maxRecDepth 100000 in
theorem c23 (W : World) : Calls Try.prog 23 #[] W (fun e W' => e = .returned (.bool true) ∧ Below W.heap.size W W') :=
  Ev.calls_true (P := Try.prog) (by kernel_rfl) (n := 100000) (by kernel_rfl) W
set_option maxRecDepth 100000 in
theorem c9 (W : World) : Calls Try.prog 9 #[] W (fun e W' => e = .returned (.bool true) ∧ Below W.heap.size W W') :=
  Ev.calls_true (P := Try.prog) (by kernel_rfl) (n := 100000) (by kernel_rfl) W
end Go.Proofs.Ytlmdegpccodbgaa.Closed

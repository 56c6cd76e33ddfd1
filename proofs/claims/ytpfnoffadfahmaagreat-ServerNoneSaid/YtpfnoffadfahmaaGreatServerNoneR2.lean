/- Functions of the program as terms over a heap of names, part 2. No condition. -/
import Derived.Test.YtpfnoffadfahmaaGreatServerNoneR1
namespace Go.Ev.R
open Go Go.RowKit
set_option linter.unusedVariables false
set_option linter.unusedSimpArgs false
set_option maxRecDepth 100000
noncomputable section
def X424_1 (N : Nat) (C : CallT) (K : KV)  : Value → Value → Nat → AM := fun v6 v7 s =>
  convX P 443 5 v6 (fun v8 s => indexX P 9 (.string ⟨⟨[0, 1, 2, 2, 3, 3, 3, 3, 4, 4, 4, 4, 4, 4, 4, 4, 5, 5, 5, 5, 5, 5, 5, 5, 5, 5, 5, 5, 5, 5, 5, 5, 6, 6, 6, 6, 6, 6, 6, 6, 6, 6, 6, 6, 6, 6, 6, 6, 6, 6, 6, 6, 6, 6, 6, 6, 6, 6, 6, 6, 6, 6, 6, 6, 7, 7, 7, 7, 7, 7, 7, 7, 7, 7, 7, 7, 7, 7, 7, 7, 7, 7, 7, 7, 7, 7, 7, 7, 7, 7, 7, 7, 7, 7, 7, 7, 7, 7, 7, 7, 7, 7, 7, 7, 7, 7, 7, 7, 7, 7, 7, 7, 7, 7, 7, 7, 7, 7, 7, 7, 7, 7, 7, 7, 7, 7, 7, 7, 8, 8, 8, 8, 8, 8, 8, 8, 8, 8, 8, 8, 8, 8, 8, 8, 8, 8, 8, 8, 8, 8, 8, 8, 8, 8, 8, 8, 8, 8, 8, 8, 8, 8, 8, 8, 8, 8, 8, 8, 8, 8, 8, 8, 8, 8, 8, 8, 8, 8, 8, 8, 8, 8, 8, 8, 8, 8, 8, 8, 8, 8, 8, 8, 8, 8, 8, 8, 8, 8, 8, 8, 8, 8, 8, 8, 8, 8, 8, 8, 8, 8, 8, 8, 8, 8, 8, 8, 8, 8, 8, 8, 8, 8, 8, 8, 8, 8, 8, 8, 8, 8, 8, 8, 8, 8, 8, 8, 8, 8, 8, 8, 8, 8, 8, 8, 8, 8, 8, 8, 8, 8, 8, 8, 8, 8, 8, 8]⟩⟩) v8 (fun v9 s => convX P 5 3 v9 (fun v10 s => addX P 3 3 false false v7 v10 (fun v11 s => K v11 s) s) s) s) s
def X424_2 (N : Nat) (C : CallT) (K : KV)  : Value → Value → Nat → AM := fun v2 v3 s =>
  bindJ 2 (fun v4 v5 s => bindJ 2 (X424_1 N C K) (fun j12 s => geX P 443 443 false true v4 (.int .u64 (.ofNat 256)) (fun v13 s => condX v13 (shrX P 443 246 false true v4 (.int .u64 (.ofNat 8)) (fun v14 s => addX P 3 3 false true v5 (i64 8) (fun v15 s => j12 v14 v15 s) s) s) (j12 v4 v5 s)) s) s) (fun j16 s => geX P 443 443 false true v2 (.int .u64 (.ofNat 65536)) (fun v17 s => condX v17 (shrX P 443 246 false true v2 (.int .u64 (.ofNat 16)) (fun v18 s => addX P 3 3 false true v3 (i64 16) (fun v19 s => j16 v18 v19 s) s) s) (j16 v2 v3 s)) s) s
def F424 (N : Nat) (C : CallT) (args : List Value) (K : KV) (s : Nat) : AM := app 1 (fun v1 s =>
  bindJ 2 (X424_2 N C K) (fun j20 s => geX P 443 443 false true v1 (.int .u64 (.ofNat 4294967296)) (fun v21 s => condX v21 (shrX P 443 246 false true v1 (.int .u64 (.ofNat 32)) (fun v22 s => j20 v22 (i64 32) s) s) (j20 v1 (i64 0) s)) s) s) args s
theorem F424_ok [Known P] (N : Nat) : FT.OK P N (.leaf 424 (F424 N)) := .leaf 424 (F424 N) fun C args K s => by kernel_rfl
end
end Go.Ev.R

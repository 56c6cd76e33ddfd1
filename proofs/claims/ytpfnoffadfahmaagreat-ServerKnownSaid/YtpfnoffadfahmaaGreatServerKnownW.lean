/- The law's run: its own steps, and the pieces. It is closed; no condition. -/
import Derived.Test.YtpfnoffadfahmaaGreatServerKnownQ0
import Derived.Test.YtpfnoffadfahmaaGreatServerKnownQ1
import Derived.Test.YtpfnoffadfahmaaGreatServerKnownQ2
namespace Go.Ev.R
open Go Go.RowKit Go.Ev
set_option linter.unusedVariables false
set_option linter.unusedSimpArgs false
set_option maxRecDepth 100000
set_option maxHeartbeats 4000000 in
theorem run (hC : ∀ κ : Value → AM, Nt.CgC (fun m m' => m' = m.bind κ) (D 100000 60)) : (D 100000 61 4 [] (fun v _ => .ret v) 1).wp (fun _ => True) (fun v _ => v = .bool true) .nil := by
  rw [D_4]; unfold F4
  unfold X4_3
  unfold X4_2
  unfold X4_1
  have H : Has .nil [] := fun p hp => by cases hp
  have F : Fresh .nil 1 := fun _ _ => rfl
  try simp (disch := first | assumption | omega | (simp only [Int.ofNat_eq_natCast, neg_one]; done) | (simp only [Int.ofNat_eq_natCast, neg_one]; omega)) only [tysW, wB, mB, Nat.reduceAdd, Nat.reduceMul, List.length_cons, List.length_nil]
  refine m_call p0 (by kernel_rfl) (by kernel_rfl) H F [] (by kernel_rfl) hC fun h H F => ?_
  try simp (disch := first | assumption | omega | (simp only [Int.ofNat_eq_natCast, neg_one]; done) | (simp only [Int.ofNat_eq_natCast, neg_one]; omega)) only [tysW, wB, mB, Nat.reduceAdd, Nat.reduceMul, List.length_cons, List.length_nil]
  refine m_call p1 (by kernel_rfl) (by kernel_rfl) H F [0, 1, 2, 3, 4, 5, 6, 7, 8, 9, 10, 11, 12, 13, 14, 15, 16, 17, 18, 19, 20, 21, 22, 23, 24, 25, 26, 27] (by kernel_rfl) hC fun h H F => ?_
  try simp (disch := first | assumption | omega | (simp only [Int.ofNat_eq_natCast, neg_one]; done) | (simp only [Int.ofNat_eq_natCast, neg_one]; omega)) only [tysW, wB, mB, Nat.reduceAdd, Nat.reduceMul, List.length_cons, List.length_nil]
  refine m_call p2 (by kernel_rfl) (by kernel_rfl) H F [0, 1, 2, 3, 4, 5, 6, 7, 8, 9, 10, 11, 12, 13, 14, 15, 16, 17, 18, 19, 20, 21, 22, 23, 24, 25, 26, 27] (by kernel_rfl) hC fun h H F => ?_
  try simp (disch := first | assumption | omega | (simp only [Int.ofNat_eq_natCast, neg_one]; done) | (simp only [Int.ofNat_eq_natCast, neg_one]; omega)) only [tysW, wB, mB, Nat.reduceAdd, Nat.reduceMul, List.length_cons, List.length_nil]
  refine m_call p3 (by kernel_rfl) (by kernel_rfl) H F [0, 1, 2, 3, 4, 5, 6, 7, 8, 9, 10, 11, 12, 13, 14, 15, 16, 17, 18, 19, 20, 21, 22, 23, 24, 25, 26, 27, 28, 29, 30, 31] (by kernel_rfl) hC fun h H F => ?_
  try simp (disch := first | assumption | omega | (simp only [Int.ofNat_eq_natCast, neg_one]; done) | (simp only [Int.ofNat_eq_natCast, neg_one]; omega)) only [tysW, wB, mB, Nat.reduceAdd, Nat.reduceMul, List.length_cons, List.length_nil]
  refine m_call p4 (by kernel_rfl) (by kernel_rfl) H F [0, 1, 2, 3, 4, 5, 6, 7, 8, 9, 10, 11, 12, 13, 14, 15, 16, 17, 18, 19, 20, 21, 22, 23, 24, 25, 26, 27, 28, 29, 30, 31] (by kernel_rfl) hC fun h H F => ?_
  try simp (disch := first | assumption | omega | (simp only [Int.ofNat_eq_natCast, neg_one]; done) | (simp only [Int.ofNat_eq_natCast, neg_one]; omega)) only [tysW, wB, mB, Nat.reduceAdd, Nat.reduceMul, List.length_cons, List.length_nil]
  refine m_call p5 (by kernel_rfl) (by kernel_rfl) H F [] (by kernel_rfl) hC fun h H F => ?_
  try simp (disch := first | assumption | omega | (simp only [Int.ofNat_eq_natCast, neg_one]; done) | (simp only [Int.ofNat_eq_natCast, neg_one]; omega)) only [tysW, wB, mB, Nat.reduceAdd, Nat.reduceMul, List.length_cons, List.length_nil]
  refine m_call p6 (by kernel_rfl) (by kernel_rfl) H F [] (by kernel_rfl) hC fun h H F => ?_
  try simp (disch := first | assumption | omega | (simp only [Int.ofNat_eq_natCast, neg_one]; done) | (simp only [Int.ofNat_eq_natCast, neg_one]; omega)) only [tysW, wB, mB, Nat.reduceAdd, Nat.reduceMul, List.length_cons, List.length_nil]
  refine m_call p7 (by kernel_rfl) (by kernel_rfl) H F [1, 2, 3, 4, 5, 6, 7, 8, 9, 10, 11, 12, 13, 14, 15, 16, 17, 18, 19, 20, 21, 22, 23, 24, 25, 26, 27, 28, 29, 30, 31, 32, 0] (by kernel_rfl) hC fun h H F => ?_
  try simp (disch := first | assumption | omega | (simp only [Int.ofNat_eq_natCast, neg_one]; done) | (simp only [Int.ofNat_eq_natCast, neg_one]; omega)) only [tysW, wB, mB, Nat.reduceAdd, Nat.reduceMul, List.length_cons, List.length_nil]
  refine m_call p8 (by kernel_rfl) (by kernel_rfl) H F [] (by kernel_rfl) hC fun h H F => ?_
  try simp (disch := first | assumption | omega | (simp only [Int.ofNat_eq_natCast, neg_one]; done) | (simp only [Int.ofNat_eq_natCast, neg_one]; omega)) only [tysW, wB, mB, Nat.reduceAdd, Nat.reduceMul, List.length_cons, List.length_nil]
  refine m_call p9 (by kernel_rfl) (by kernel_rfl) H F [1, 2, 3, 4, 5, 6, 7, 8, 9, 10, 11, 12, 13, 14, 15, 16, 17, 18, 19, 20, 21, 22, 23, 24, 25, 26, 27, 28, 29, 30, 31, 32, 0] (by kernel_rfl) hC fun h H F => ?_
  try simp (disch := first | assumption | omega | (simp only [Int.ofNat_eq_natCast, neg_one]; done) | (simp only [Int.ofNat_eq_natCast, neg_one]; omega)) only [tysW, wB, mB, Nat.reduceAdd, Nat.reduceMul, List.length_cons, List.length_nil]
  first | refine m_box rfl H F fun h H F => ?_ | refine m_new H F fun h H F => ?_
  have b6263 : h.get 6263 = some (.cells ⟨[(.int .i64 (.ofNat 1)), (.int .i64 (.ofNat 11)), (.int .i64 (.ofNat 0)), (.int .i64 (.ofNat 1)), (.int .i64 (.ofNat 3)), (.int .i64 (.ofNat 0)), (.int .i64 (.ofNat 1)), (.int .i64 (.ofNat 1)), (.int .i64 (.ofNat 1))]⟩ 3 (0, 0)) := has_at H (by kernel_rfl)
  try simp (disch := first | assumption | omega | (simp only [Int.ofNat_eq_natCast, neg_one]; done) | (simp only [Int.ofNat_eq_natCast, neg_one]; omega)) only [tysW, wB, mB, Nat.reduceAdd, Nat.reduceMul, List.length_cons, List.length_nil, ldB b6263, clB b6263, ldBL b6263, clBL b6263]
  refine m_call p10 (by kernel_rfl) (by kernel_rfl) H F [1, 2, 3, 4, 5, 6, 7, 8, 9, 10, 11, 12, 13, 14, 15, 16, 17, 18, 19, 20, 21, 22, 23, 24, 25, 26, 27, 28, 29, 30, 31, 32, 0] (by kernel_rfl) hC fun h H F => ?_
  have b6263 : h.get 6263 = some (.cells ⟨[(.int .i64 (.ofNat 1)), (.int .i64 (.ofNat 11)), (.int .i64 (.ofNat 0)), (.int .i64 (.ofNat 1)), (.int .i64 (.ofNat 3)), (.int .i64 (.ofNat 0)), (.int .i64 (.ofNat 1)), (.int .i64 (.ofNat 1)), (.int .i64 (.ofNat 1))]⟩ 3 (0, 0)) := has_at H (by kernel_rfl)
  try simp (disch := first | assumption | omega | (simp only [Int.ofNat_eq_natCast, neg_one]; done) | (simp only [Int.ofNat_eq_natCast, neg_one]; omega)) only [tysW, wB, mB, Nat.reduceAdd, Nat.reduceMul, List.length_cons, List.length_nil]
  try rfl
end Go.Ev.R
namespace Go.Proofs.YtpfnoffadfahmaaGreat.serverKnown
open Go.RowKit
set_option maxRecDepth 100000 in
theorem walk (W : World) : Calls Tryz.prog 4 #[] W (fun e W' => e = .returned (.bool true) ∧ Below W.heap.size W W') := by
  letI : Ev.Known Tryz.prog := Ev.Known.no Tryz.prog
  refine Ev.calls_wp (P := Tryz.prog) (N := 100000) (by kernel_rfl) (Ev.R.tab_ok 100000) (fun f h => by cases h) (by kernel_rfl) (by kernel_rfl) (d := 61) (by decide) (Ev.LaySt.start W) (args := []) .nil (pw := fun _ => True) ?_
  exact Ev.R.run fun κ => Ev.Nt.cg_deep (Ev.R.tab_ok 100000) 60
end Go.Proofs.YtpfnoffadfahmaaGreat.serverKnown

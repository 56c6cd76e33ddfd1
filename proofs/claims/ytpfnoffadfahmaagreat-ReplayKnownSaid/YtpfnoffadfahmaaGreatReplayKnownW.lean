/- The law's run: its own steps, and the pieces. It is closed; no condition. -/
import Derived.Test.YtpfnoffadfahmaaGreatReplayKnownQ
namespace Go.Ev.R
open Go Go.RowKit Go.Ev
set_option linter.unusedVariables false
set_option linter.unusedSimpArgs false
set_option maxRecDepth 100000
set_option maxHeartbeats 4000000 in
theorem run (hC : ∀ κ : Value → AM, Nt.CgC (fun m m' => m' = m.bind κ) (D 100000 60)) : (D 100000 61 6 [] (fun v _ => .ret v) 1).wp (fun _ => True) (fun v _ => v = .bool true) .nil := by
  rw [D_6]; unfold F6
  unfold X6_6
  unfold X6_5
  unfold X6_4
  unfold X6_3
  unfold X6_2
  unfold X6_1
  have H : Has .nil [] := fun p hp => by cases hp
  have F : Fresh .nil 1 := fun _ _ => rfl
  try simp (disch := first | assumption | omega | (simp only [Int.ofNat_eq_natCast, neg_one]; done) | (simp only [Int.ofNat_eq_natCast, neg_one]; omega)) only [tysW, wB, mB, Nat.reduceAdd, Nat.reduceMul, List.length_cons, List.length_nil]
  refine m_call p0 (by kernel_rfl) (by kernel_rfl) H F [] (by kernel_rfl) hC fun h H F => ?_
  try simp (disch := first | assumption | omega | (simp only [Int.ofNat_eq_natCast, neg_one]; done) | (simp only [Int.ofNat_eq_natCast, neg_one]; omega)) only [tysW, wB, mB, Nat.reduceAdd, Nat.reduceMul, List.length_cons, List.length_nil]
  refine m_call p1 (by kernel_rfl) (by kernel_rfl) H F [] (by kernel_rfl) hC fun h H F => ?_
  try simp (disch := first | assumption | omega | (simp only [Int.ofNat_eq_natCast, neg_one]; done) | (simp only [Int.ofNat_eq_natCast, neg_one]; omega)) only [tysW, wB, mB, Nat.reduceAdd, Nat.reduceMul, List.length_cons, List.length_nil]
  refine m_call p2 (by kernel_rfl) (by kernel_rfl) H F [] (by kernel_rfl) hC fun h H F => ?_
  try simp (disch := first | assumption | omega | (simp only [Int.ofNat_eq_natCast, neg_one]; done) | (simp only [Int.ofNat_eq_natCast, neg_one]; omega)) only [tysW, wB, mB, Nat.reduceAdd, Nat.reduceMul, List.length_cons, List.length_nil]
  refine m_call p3 (by kernel_rfl) (by kernel_rfl) H F [] (by kernel_rfl) hC fun h H F => ?_
  try simp (disch := first | assumption | omega | (simp only [Int.ofNat_eq_natCast, neg_one]; done) | (simp only [Int.ofNat_eq_natCast, neg_one]; omega)) only [tysW, wB, mB, Nat.reduceAdd, Nat.reduceMul, List.length_cons, List.length_nil]
  refine m_call p4 (by kernel_rfl) (by kernel_rfl) H F [] (by kernel_rfl) hC fun h H F => ?_
  try simp (disch := first | assumption | omega | (simp only [Int.ofNat_eq_natCast, neg_one]; done) | (simp only [Int.ofNat_eq_natCast, neg_one]; omega)) only [tysW, wB, mB, Nat.reduceAdd, Nat.reduceMul, List.length_cons, List.length_nil]
  refine m_call p5 (by kernel_rfl) (by kernel_rfl) H F [7] (by kernel_rfl) hC fun h H F => ?_
  try simp (disch := first | assumption | omega | (simp only [Int.ofNat_eq_natCast, neg_one]; done) | (simp only [Int.ofNat_eq_natCast, neg_one]; omega)) only [tysW, wB, mB, Nat.reduceAdd, Nat.reduceMul, List.length_cons, List.length_nil]
  refine m_call p6 (by kernel_rfl) (by kernel_rfl) H F [1] (by kernel_rfl) hC fun h H F => ?_
  try simp (disch := first | assumption | omega | (simp only [Int.ofNat_eq_natCast, neg_one]; done) | (simp only [Int.ofNat_eq_natCast, neg_one]; omega)) only [tysW, wB, mB, Nat.reduceAdd, Nat.reduceMul, List.length_cons, List.length_nil]
  refine m_call p7 (by kernel_rfl) (by kernel_rfl) H F [] (by kernel_rfl) hC fun h H F => ?_
  try simp (disch := first | assumption | omega | (simp only [Int.ofNat_eq_natCast, neg_one]; done) | (simp only [Int.ofNat_eq_natCast, neg_one]; omega)) only [tysW, wB, mB, Nat.reduceAdd, Nat.reduceMul, List.length_cons, List.length_nil]
  first | refine m_box rfl H F fun h H F => ?_ | refine m_new H F fun h H F => ?_
  have b56 : h.get 56 = some (.cells ⟨[(.slice (some ⟨53, 0, none⟩) 9 9), (.int .i64 (.ofNat 2)), (.slice none 0 0), (.int .i64 (.ofNat 1))]⟩ 91 (0, 0)) := has_at H (by kernel_rfl)
  try simp (disch := first | assumption | omega | (simp only [Int.ofNat_eq_natCast, neg_one]; done) | (simp only [Int.ofNat_eq_natCast, neg_one]; omega)) only [tysW, wB, mB, Nat.reduceAdd, Nat.reduceMul, List.length_cons, List.length_nil, ldB b56, clB b56, ldBL b56, clBL b56]
  refine m_call p8 (by kernel_rfl) (by kernel_rfl) H F [5, 6, 7, 8, 3, 4, 1, 0] (by kernel_rfl) hC fun h H F => ?_
  have b56 : h.get 56 = some (.cells ⟨[(.slice (some ⟨53, 0, none⟩) 9 9), (.int .i64 (.ofNat 2)), (.slice none 0 0), (.int .i64 (.ofNat 1))]⟩ 91 (0, 0)) := has_at H (by kernel_rfl)
  try simp (disch := first | assumption | omega | (simp only [Int.ofNat_eq_natCast, neg_one]; done) | (simp only [Int.ofNat_eq_natCast, neg_one]; omega)) only [tysW, wB, mB, Nat.reduceAdd, Nat.reduceMul, List.length_cons, List.length_nil, ldB b56, clB b56, ldBL b56, clBL b56]
  first | refine m_box rfl H F fun h H F => ?_ | refine m_new H F fun h H F => ?_
  have b56 : h.get 56 = some (.cells ⟨[(.slice (some ⟨53, 0, none⟩) 9 9), (.int .i64 (.ofNat 2)), (.slice none 0 0), (.int .i64 (.ofNat 1))]⟩ 91 (0, 0)) := has_at H (by kernel_rfl)
  have b234 : h.get 234 = some (.cells ⟨[(.slice none 0 0), (.int .i64 (.ofNat 0)), (.slice none 0 0)]⟩ 85 (0, 0)) := has_at H (by kernel_rfl)
  try simp (disch := first | assumption | omega | (simp only [Int.ofNat_eq_natCast, neg_one]; done) | (simp only [Int.ofNat_eq_natCast, neg_one]; omega)) only [tysW, wB, mB, Nat.reduceAdd, Nat.reduceMul, List.length_cons, List.length_nil, ldB b56, clB b56, ldBL b56, clBL b56, ldB b234, clB b234, ldBL b234, clBL b234]
  refine m_put (n := 234) (cs := [(.slice none 0 0), (.int .i64 (.ofNat 0)), (.slice none 0 0)]) (t := 85) (f := 0) H F (by kernel_rfl) (by decide) rfl fun h H F => ?_
  have b56 : h.get 56 = some (.cells ⟨[(.slice (some ⟨53, 0, none⟩) 9 9), (.int .i64 (.ofNat 2)), (.slice none 0 0), (.int .i64 (.ofNat 1))]⟩ 91 (0, 0)) := has_at H (by kernel_rfl)
  have b234 : h.get 234 = some (.cells ⟨[(.slice (some ⟨204, 0, none⟩) 10 10), (.int .i64 (.ofNat 0)), (.slice (some ⟨233, 0, none⟩) 9 9)]⟩ 85 (0, 0)) := has_at H (by kernel_rfl)
  exact m_rest H F (by kernel_rfl)
end Go.Ev.R
namespace Go.Proofs.YtpfnoffadfahmaaGreat.replayKnown
open Go.RowKit
set_option maxRecDepth 100000 in
theorem walk (W : World) : Calls Tryz.prog 6 #[] W (fun e W' => e = .returned (.bool true) ∧ Below W.heap.size W W') := by
  letI : Ev.Known Tryz.prog := Ev.Known.no Tryz.prog
  refine Ev.calls_wp (P := Tryz.prog) (N := 100000) (by kernel_rfl) (Ev.R.tab_ok 100000) (fun f h => by cases h) (by kernel_rfl) (by kernel_rfl) (d := 61) (by decide) (Ev.LaySt.start W) (args := []) .nil (pw := fun _ => True) ?_
  exact Ev.R.run fun κ => Ev.Nt.cg_deep (Ev.R.tab_ok 100000) 60
end Go.Proofs.YtpfnoffadfahmaaGreat.replayKnown

/- The law's run: its own steps, and the pieces. It is closed; no condition. -/
import Derived.Test.YtpfnoffadfahmaaGreatEngineKnownQ
import Derived.Test.YtpfnoffadfahmaaGreatEngineKnownA
namespace Go.Ev.R
open Go Go.RowKit Go.Ev
set_option linter.unusedVariables false
set_option linter.unusedSimpArgs false
set_option maxRecDepth 100000
set_option maxHeartbeats 4000000 in
theorem run (hC : ∀ κ : Value → AM, Nt.CgC (fun m m' => m' = m.bind κ) (D 100000 60)) : (D 100000 61 3 [] (fun v _ => .ret v) 1).wp (fun _ => True) (fun v _ => v = .bool true) .nil := by
  rw [D_3]; unfold F3
  unfold X3_6
  unfold X3_5
  unfold X3_4
  unfold X3_3
  unfold X3_2
  unfold X3_1
  have H : Has .nil [] := fun p hp => by cases hp
  have F : Fresh .nil 1 := fun _ _ => rfl
  try simp (disch := first | assumption | omega | (simp only [Int.ofNat_eq_natCast, neg_one]; done) | (simp only [Int.ofNat_eq_natCast, neg_one]; omega)) only [tysW, wB, mB, Nat.reduceAdd, Nat.reduceMul, List.length_cons, List.length_nil]
  refine m_call p0 (by kernel_rfl) (by kernel_rfl) H F [] (by kernel_rfl) hC fun h H F => ?_
  try simp (disch := first | assumption | omega | (simp only [Int.ofNat_eq_natCast, neg_one]; done) | (simp only [Int.ofNat_eq_natCast, neg_one]; omega)) only [tysW, wB, mB, Nat.reduceAdd, Nat.reduceMul, List.length_cons, List.length_nil]
  refine m_call p1 (by kernel_rfl) (by kernel_rfl) H F [] (by kernel_rfl) hC fun h H F => ?_
  try simp (disch := first | assumption | omega | (simp only [Int.ofNat_eq_natCast, neg_one]; done) | (simp only [Int.ofNat_eq_natCast, neg_one]; omega)) only [tysW, wB, mB, Nat.reduceAdd, Nat.reduceMul, List.length_cons, List.length_nil]
  refine m_call p2 (by kernel_rfl) (by kernel_rfl) H F [1, 2, 3, 4, 5, 6, 7, 8, 9, 10, 11, 12, 13, 14, 15, 16, 17, 18, 19, 20, 21, 22, 23, 24, 25, 26, 27, 28, 29, 30, 31, 0] (by kernel_rfl) hC fun h H F => ?_
  try simp (disch := first | assumption | omega | (simp only [Int.ofNat_eq_natCast, neg_one]; done) | (simp only [Int.ofNat_eq_natCast, neg_one]; omega)) only [tysW, wB, mB, Nat.reduceAdd, Nat.reduceMul, List.length_cons, List.length_nil]
  refine m_call p3 (by kernel_rfl) (by kernel_rfl) H F [0, 1, 2, 3, 4, 5, 6, 7, 8, 9, 10, 11, 12, 13, 14, 15, 16, 17, 18, 19, 21, 22, 23, 24, 25, 26] (by kernel_rfl) hC fun h H F => ?_
  try simp (disch := first | assumption | omega | (simp only [Int.ofNat_eq_natCast, neg_one]; done) | (simp only [Int.ofNat_eq_natCast, neg_one]; omega)) only [tysW, wB, mB, Nat.reduceAdd, Nat.reduceMul, List.length_cons, List.length_nil]
  first | refine m_box rfl H F fun h H F => ?_ | refine m_new H F fun h H F => ?_
  have b6509 : h.get 6509 = some (.cells ⟨[(.int .i64 (.ofNat 7)), (.int .i64 (.ofNat 3)), (.int .i64 (.ofNat 1)), (.int .i64 (.ofNat 9)), (.int .i64 (.ofNat 2)), (.int .i64 (.ofNat 1))]⟩ 38 (0, 0)) := has_at H (by kernel_rfl)
  try simp (disch := first | assumption | omega | (simp only [Int.ofNat_eq_natCast, neg_one]; done) | (simp only [Int.ofNat_eq_natCast, neg_one]; omega)) only [tysW, wB, mB, Nat.reduceAdd, Nat.reduceMul, List.length_cons, List.length_nil, ldB b6509, clB b6509, ldBL b6509, clBL b6509]
  refine m_call p4 (by kernel_rfl) (by kernel_rfl) H F [27, 0] (by kernel_rfl) hC fun h H F => ?_
  have b6509 : h.get 6509 = some (.cells ⟨[(.int .i64 (.ofNat 7)), (.int .i64 (.ofNat 3)), (.int .i64 (.ofNat 1)), (.int .i64 (.ofNat 9)), (.int .i64 (.ofNat 2)), (.int .i64 (.ofNat 1))]⟩ 38 (0, 0)) := has_at H (by kernel_rfl)
  try simp (disch := first | assumption | omega | (simp only [Int.ofNat_eq_natCast, neg_one]; done) | (simp only [Int.ofNat_eq_natCast, neg_one]; omega)) only [tysW, wB, mB, Nat.reduceAdd, Nat.reduceMul, List.length_cons, List.length_nil, ldB b6509, clB b6509, ldBL b6509, clBL b6509]
  refine m_call p5 (by kernel_rfl) (by kernel_rfl) H F [2, 3, 4, 5, 6, 7, 8, 9, 10, 11, 12, 13, 14, 15, 16, 17, 18, 19, 20, 21, 22, 23, 24, 25, 26, 27] (by kernel_rfl) hC fun h H F => ?_
  have b6509 : h.get 6509 = some (.cells ⟨[(.int .i64 (.ofNat 7)), (.int .i64 (.ofNat 3)), (.int .i64 (.ofNat 1)), (.int .i64 (.ofNat 9)), (.int .i64 (.ofNat 2)), (.int .i64 (.ofNat 1))]⟩ 38 (0, 0)) := has_at H (by kernel_rfl)
  try simp (disch := first | assumption | omega | (simp only [Int.ofNat_eq_natCast, neg_one]; done) | (simp only [Int.ofNat_eq_natCast, neg_one]; omega)) only [tysW, wB, mB, Nat.reduceAdd, Nat.reduceMul, List.length_cons, List.length_nil, ldB b6509, clB b6509, ldBL b6509, clBL b6509]
  refine m_call p6 (by kernel_rfl) (by kernel_rfl) H F [0, 1, 2, 3, 4, 5, 6, 7, 8, 9, 10, 11, 12, 13, 14, 15, 16, 17, 18, 19, 20, 21, 22, 23, 24, 25, 26, 27, 28, 29] (by kernel_rfl) hC fun h H F => ?_
  have b6509 : h.get 6509 = some (.cells ⟨[(.int .i64 (.ofNat 7)), (.int .i64 (.ofNat 3)), (.int .i64 (.ofNat 1)), (.int .i64 (.ofNat 9)), (.int .i64 (.ofNat 2)), (.int .i64 (.ofNat 1))]⟩ 38 (0, 0)) := has_at H (by kernel_rfl)
  try simp (disch := first | assumption | omega | (simp only [Int.ofNat_eq_natCast, neg_one]; done) | (simp only [Int.ofNat_eq_natCast, neg_one]; omega)) only [tysW, wB, mB, Nat.reduceAdd, Nat.reduceMul, List.length_cons, List.length_nil, ldB b6509, clB b6509, ldBL b6509, clBL b6509]
  refine m_call p7 (by kernel_rfl) (by kernel_rfl) H F [0, 1, 2, 3, 4, 5, 6, 7, 8, 9, 10, 11, 12, 13, 14, 15, 16, 17, 18, 19, 20, 21, 22, 23, 24, 25, 26, 27, 28, 29, 30] (by kernel_rfl) hC fun h H F => ?_
  have b6509 : h.get 6509 = some (.cells ⟨[(.int .i64 (.ofNat 7)), (.int .i64 (.ofNat 3)), (.int .i64 (.ofNat 1)), (.int .i64 (.ofNat 9)), (.int .i64 (.ofNat 2)), (.int .i64 (.ofNat 1))]⟩ 38 (0, 0)) := has_at H (by kernel_rfl)
  try simp (disch := first | assumption | omega | (simp only [Int.ofNat_eq_natCast, neg_one]; done) | (simp only [Int.ofNat_eq_natCast, neg_one]; omega)) only [tysW, wB, mB, Nat.reduceAdd, Nat.reduceMul, List.length_cons, List.length_nil, ldB b6509, clB b6509, ldBL b6509, clBL b6509]
  first | refine m_box rfl H F fun h H F => ?_ | refine m_new H F fun h H F => ?_
  have b6509 : h.get 6509 = some (.cells ⟨[(.int .i64 (.ofNat 7)), (.int .i64 (.ofNat 3)), (.int .i64 (.ofNat 1)), (.int .i64 (.ofNat 9)), (.int .i64 (.ofNat 2)), (.int .i64 (.ofNat 1))]⟩ 38 (0, 0)) := has_at H (by kernel_rfl)
  have b10345 : h.get 10345 = some (.cells ⟨[(.int .i64 (.ofNat 0)), (.slice none 0 0), (.slice none 0 0), (.bool false), (.int .i64 (.ofNat 0)), (.int .i64 (.ofNat 0))]⟩ 41 (0, 0)) := has_at H (by kernel_rfl)
  try simp (disch := first | assumption | omega | (simp only [Int.ofNat_eq_natCast, neg_one]; done) | (simp only [Int.ofNat_eq_natCast, neg_one]; omega)) only [tysW, wB, mB, Nat.reduceAdd, Nat.reduceMul, List.length_cons, List.length_nil, ldB b6509, clB b6509, ldBL b6509, clBL b6509, ldB b10345, clB b10345, ldBL b10345, clBL b10345]
  refine m_put (n := 10345) (cs := [(.int .i64 (.ofNat 0)), (.slice none 0 0), (.slice none 0 0), (.bool false), (.int .i64 (.ofNat 0)), (.int .i64 (.ofNat 0))]) (t := 41) (f := 0) H F (by kernel_rfl) (by decide) rfl fun h H F => ?_
  have b6509 : h.get 6509 = some (.cells ⟨[(.int .i64 (.ofNat 7)), (.int .i64 (.ofNat 3)), (.int .i64 (.ofNat 1)), (.int .i64 (.ofNat 9)), (.int .i64 (.ofNat 2)), (.int .i64 (.ofNat 1))]⟩ 38 (0, 0)) := has_at H (by kernel_rfl)
  have b10345 : h.get 10345 = some (.cells ⟨[(.int .i64 (.ofNat 0)), (.slice none 0 0), (.slice none 0 0), (.bool false), (.int .i64 (.ofNat 0)), (.int .i64 (.ofNat 0))]⟩ 41 (0, 0)) := has_at H (by kernel_rfl)
  try simp (disch := first | assumption | omega | (simp only [Int.ofNat_eq_natCast, neg_one]; done) | (simp only [Int.ofNat_eq_natCast, neg_one]; omega)) only [tysW, wB, mB, Nat.reduceAdd, Nat.reduceMul, List.length_cons, List.length_nil, ldB b6509, clB b6509, ldBL b6509, clBL b6509, ldB b10345, clB b10345, ldBL b10345, clBL b10345]
  refine m_call p8 (by kernel_rfl) (by kernel_rfl) H F [1, 2, 3, 4, 5, 6, 7, 8, 9, 10, 11, 12, 13, 14, 15, 16, 17, 18, 19, 20, 21, 22, 23, 24, 25, 26, 27, 28, 29, 30, 31] (by kernel_rfl) hC fun h H F => ?_
  have b6509 : h.get 6509 = some (.cells ⟨[(.int .i64 (.ofNat 7)), (.int .i64 (.ofNat 3)), (.int .i64 (.ofNat 1)), (.int .i64 (.ofNat 9)), (.int .i64 (.ofNat 2)), (.int .i64 (.ofNat 1))]⟩ 38 (0, 0)) := has_at H (by kernel_rfl)
  have b10345 : h.get 10345 = some (.cells ⟨[(.int .i64 (.ofNat 0)), (.slice none 0 0), (.slice none 0 0), (.bool false), (.int .i64 (.ofNat 0)), (.int .i64 (.ofNat 0))]⟩ 41 (0, 0)) := has_at H (by kernel_rfl)
  try simp (disch := first | assumption | omega | (simp only [Int.ofNat_eq_natCast, neg_one]; done) | (simp only [Int.ofNat_eq_natCast, neg_one]; omega)) only [tysW, wB, mB, Nat.reduceAdd, Nat.reduceMul, List.length_cons, List.length_nil, ldB b6509, clB b6509, ldBL b6509, clBL b6509, ldB b10345, clB b10345, ldBL b10345, clBL b10345]
  first | refine m_box rfl H F fun h H F => ?_ | refine m_new H F fun h H F => ?_
  have b6509 : h.get 6509 = some (.cells ⟨[(.int .i64 (.ofNat 7)), (.int .i64 (.ofNat 3)), (.int .i64 (.ofNat 1)), (.int .i64 (.ofNat 9)), (.int .i64 (.ofNat 2)), (.int .i64 (.ofNat 1))]⟩ 38 (0, 0)) := has_at H (by kernel_rfl)
  have b10345 : h.get 10345 = some (.cells ⟨[(.int .i64 (.ofNat 0)), (.slice none 0 0), (.slice none 0 0), (.bool false), (.int .i64 (.ofNat 0)), (.int .i64 (.ofNat 0))]⟩ 41 (0, 0)) := has_at H (by kernel_rfl)
  have b10362 : h.get 10362 = some (.cells ⟨[(.int .i64 (.ofNat 0)), (.slice none 0 0), (.slice none 0 0), (.bool false), (.int .i64 (.ofNat 0)), (.int .i64 (.ofNat 0))]⟩ 41 (0, 0)) := has_at H (by kernel_rfl)
  try simp (disch := first | assumption | omega | (simp only [Int.ofNat_eq_natCast, neg_one]; done) | (simp only [Int.ofNat_eq_natCast, neg_one]; omega)) only [tysW, wB, mB, Nat.reduceAdd, Nat.reduceMul, List.length_cons, List.length_nil, ldB b6509, clB b6509, ldBL b6509, clBL b6509, ldB b10345, clB b10345, ldBL b10345, clBL b10345, ldB b10362, clB b10362, ldBL b10362, clBL b10362]
  refine m_put (n := 10362) (cs := [(.int .i64 (.ofNat 0)), (.slice none 0 0), (.slice none 0 0), (.bool false), (.int .i64 (.ofNat 0)), (.int .i64 (.ofNat 0))]) (t := 41) (f := 0) H F (by kernel_rfl) (by decide) rfl fun h H F => ?_
  have b6509 : h.get 6509 = some (.cells ⟨[(.int .i64 (.ofNat 7)), (.int .i64 (.ofNat 3)), (.int .i64 (.ofNat 1)), (.int .i64 (.ofNat 9)), (.int .i64 (.ofNat 2)), (.int .i64 (.ofNat 1))]⟩ 38 (0, 0)) := has_at H (by kernel_rfl)
  have b10345 : h.get 10345 = some (.cells ⟨[(.int .i64 (.ofNat 0)), (.slice none 0 0), (.slice none 0 0), (.bool false), (.int .i64 (.ofNat 0)), (.int .i64 (.ofNat 0))]⟩ 41 (0, 0)) := has_at H (by kernel_rfl)
  have b10362 : h.get 10362 = some (.cells ⟨[(.int .i64 (.ofNat 9)), (.slice (some ⟨10352, 0, none⟩) 1 1), (.slice (some ⟨10354, 0, none⟩) 1 1), (.bool false), (.int .i64 (.ofNat 3)), (.int .i64 (.ofNat 0))]⟩ 41 (0, 0)) := has_at H (by kernel_rfl)
  try simp (disch := first | assumption | omega | (simp only [Int.ofNat_eq_natCast, neg_one]; done) | (simp only [Int.ofNat_eq_natCast, neg_one]; omega)) only [tysW, wB, mB, Nat.reduceAdd, Nat.reduceMul, List.length_cons, List.length_nil, ldB b6509, clB b6509, ldBL b6509, clBL b6509, ldB b10345, clB b10345, ldBL b10345, clBL b10345, ldB b10362, clB b10362, ldBL b10362, clBL b10362]
  refine m_call p9 (by kernel_rfl) (by kernel_rfl) H F [1, 2, 3, 4, 5, 6, 7, 8, 9, 10, 11, 12, 13, 14, 15, 16, 17, 18, 19, 20, 21, 22, 23, 24, 25, 26, 27, 28, 29, 30, 31] (by kernel_rfl) hC fun h H F => ?_
  have b6509 : h.get 6509 = some (.cells ⟨[(.int .i64 (.ofNat 7)), (.int .i64 (.ofNat 3)), (.int .i64 (.ofNat 1)), (.int .i64 (.ofNat 9)), (.int .i64 (.ofNat 2)), (.int .i64 (.ofNat 1))]⟩ 38 (0, 0)) := has_at H (by kernel_rfl)
  have b10345 : h.get 10345 = some (.cells ⟨[(.int .i64 (.ofNat 0)), (.slice none 0 0), (.slice none 0 0), (.bool false), (.int .i64 (.ofNat 0)), (.int .i64 (.ofNat 0))]⟩ 41 (0, 0)) := has_at H (by kernel_rfl)
  have b10362 : h.get 10362 = some (.cells ⟨[(.int .i64 (.ofNat 9)), (.slice (some ⟨10352, 0, none⟩) 1 1), (.slice (some ⟨10354, 0, none⟩) 1 1), (.bool false), (.int .i64 (.ofNat 3)), (.int .i64 (.ofNat 0))]⟩ 41 (0, 0)) := has_at H (by kernel_rfl)
  try simp (disch := first | assumption | omega | (simp only [Int.ofNat_eq_natCast, neg_one]; done) | (simp only [Int.ofNat_eq_natCast, neg_one]; omega)) only [tysW, wB, mB, Nat.reduceAdd, Nat.reduceMul, List.length_cons, List.length_nil, ldB b6509, clB b6509, ldBL b6509, clBL b6509, ldB b10345, clB b10345, ldBL b10345, clBL b10345, ldB b10362, clB b10362, ldBL b10362, clBL b10362]
  first | refine m_box rfl H F fun h H F => ?_ | refine m_new H F fun h H F => ?_
  have b6509 : h.get 6509 = some (.cells ⟨[(.int .i64 (.ofNat 7)), (.int .i64 (.ofNat 3)), (.int .i64 (.ofNat 1)), (.int .i64 (.ofNat 9)), (.int .i64 (.ofNat 2)), (.int .i64 (.ofNat 1))]⟩ 38 (0, 0)) := has_at H (by kernel_rfl)
  have b10345 : h.get 10345 = some (.cells ⟨[(.int .i64 (.ofNat 0)), (.slice none 0 0), (.slice none 0 0), (.bool false), (.int .i64 (.ofNat 0)), (.int .i64 (.ofNat 0))]⟩ 41 (0, 0)) := has_at H (by kernel_rfl)
  have b10362 : h.get 10362 = some (.cells ⟨[(.int .i64 (.ofNat 9)), (.slice (some ⟨10352, 0, none⟩) 1 1), (.slice (some ⟨10354, 0, none⟩) 1 1), (.bool false), (.int .i64 (.ofNat 3)), (.int .i64 (.ofNat 0))]⟩ 41 (0, 0)) := has_at H (by kernel_rfl)
  have b10368 : h.get 10368 = some (.cells ⟨[(.int .i64 (.ofNat 0)), (.slice none 0 0), (.slice none 0 0), (.bool false), (.int .i64 (.ofNat 0)), (.int .i64 (.ofNat 0))]⟩ 41 (0, 0)) := has_at H (by kernel_rfl)
  try simp (disch := first | assumption | omega | (simp only [Int.ofNat_eq_natCast, neg_one]; done) | (simp only [Int.ofNat_eq_natCast, neg_one]; omega)) only [tysW, wB, mB, Nat.reduceAdd, Nat.reduceMul, List.length_cons, List.length_nil, ldB b6509, clB b6509, ldBL b6509, clBL b6509, ldB b10345, clB b10345, ldBL b10345, clBL b10345, ldB b10362, clB b10362, ldBL b10362, clBL b10362, ldB b10368, clB b10368, ldBL b10368, clBL b10368]
  refine m_put (n := 10368) (cs := [(.int .i64 (.ofNat 0)), (.slice none 0 0), (.slice none 0 0), (.bool false), (.int .i64 (.ofNat 0)), (.int .i64 (.ofNat 0))]) (t := 41) (f := 0) H F (by kernel_rfl) (by decide) rfl fun h H F => ?_
  have b6509 : h.get 6509 = some (.cells ⟨[(.int .i64 (.ofNat 7)), (.int .i64 (.ofNat 3)), (.int .i64 (.ofNat 1)), (.int .i64 (.ofNat 9)), (.int .i64 (.ofNat 2)), (.int .i64 (.ofNat 1))]⟩ 38 (0, 0)) := has_at H (by kernel_rfl)
  have b10345 : h.get 10345 = some (.cells ⟨[(.int .i64 (.ofNat 0)), (.slice none 0 0), (.slice none 0 0), (.bool false), (.int .i64 (.ofNat 0)), (.int .i64 (.ofNat 0))]⟩ 41 (0, 0)) := has_at H (by kernel_rfl)
  have b10362 : h.get 10362 = some (.cells ⟨[(.int .i64 (.ofNat 9)), (.slice (some ⟨10352, 0, none⟩) 1 1), (.slice (some ⟨10354, 0, none⟩) 1 1), (.bool false), (.int .i64 (.ofNat 3)), (.int .i64 (.ofNat 0))]⟩ 41 (0, 0)) := has_at H (by kernel_rfl)
  have b10368 : h.get 10368 = some (.cells ⟨[(.int .i64 (.ofNat 0)), (.slice none 0 0), (.slice none 0 0), (.bool false), (.int .i64 (.ofNat 0)), (.int .i64 (.ofNat 0))]⟩ 41 (0, 0)) := has_at H (by kernel_rfl)
  try simp (disch := first | assumption | omega | (simp only [Int.ofNat_eq_natCast, neg_one]; done) | (simp only [Int.ofNat_eq_natCast, neg_one]; omega)) only [tysW, wB, mB, Nat.reduceAdd, Nat.reduceMul, List.length_cons, List.length_nil, ldB b6509, clB b6509, ldBL b6509, clBL b6509, ldB b10345, clB b10345, ldBL b10345, clBL b10345, ldB b10362, clB b10362, ldBL b10362, clBL b10362, ldB b10368, clB b10368, ldBL b10368, clBL b10368]
  refine m_call p10 (by kernel_rfl) (by kernel_rfl) H F [] (by kernel_rfl) hC fun h H F => ?_
  have b6509 : h.get 6509 = some (.cells ⟨[(.int .i64 (.ofNat 7)), (.int .i64 (.ofNat 3)), (.int .i64 (.ofNat 1)), (.int .i64 (.ofNat 9)), (.int .i64 (.ofNat 2)), (.int .i64 (.ofNat 1))]⟩ 38 (0, 0)) := has_at H (by kernel_rfl)
  have b10345 : h.get 10345 = some (.cells ⟨[(.int .i64 (.ofNat 0)), (.slice none 0 0), (.slice none 0 0), (.bool false), (.int .i64 (.ofNat 0)), (.int .i64 (.ofNat 0))]⟩ 41 (0, 0)) := has_at H (by kernel_rfl)
  have b10362 : h.get 10362 = some (.cells ⟨[(.int .i64 (.ofNat 9)), (.slice (some ⟨10352, 0, none⟩) 1 1), (.slice (some ⟨10354, 0, none⟩) 1 1), (.bool false), (.int .i64 (.ofNat 3)), (.int .i64 (.ofNat 0))]⟩ 41 (0, 0)) := has_at H (by kernel_rfl)
  have b10368 : h.get 10368 = some (.cells ⟨[(.int .i64 (.ofNat 0)), (.slice none 0 0), (.slice none 0 0), (.bool false), (.int .i64 (.ofNat 0)), (.int .i64 (.ofNat 0))]⟩ 41 (0, 0)) := has_at H (by kernel_rfl)
  try simp (disch := first | assumption | omega | (simp only [Int.ofNat_eq_natCast, neg_one]; done) | (simp only [Int.ofNat_eq_natCast, neg_one]; omega)) only [tysW, wB, mB, Nat.reduceAdd, Nat.reduceMul, List.length_cons, List.length_nil, ldB b6509, clB b6509, ldBL b6509, clBL b6509, ldB b10345, clB b10345, ldBL b10345, clBL b10345, ldB b10362, clB b10362, ldBL b10362, clBL b10362, ldB b10368, clB b10368, ldBL b10368, clBL b10368]
  refine m_call p11 (by kernel_rfl) (by kernel_rfl) H F [0, 1, 2, 3, 4, 5] (by kernel_rfl) hC fun h H F => ?_
  have b6509 : h.get 6509 = some (.cells ⟨[(.int .i64 (.ofNat 7)), (.int .i64 (.ofNat 3)), (.int .i64 (.ofNat 1)), (.int .i64 (.ofNat 9)), (.int .i64 (.ofNat 2)), (.int .i64 (.ofNat 1))]⟩ 38 (0, 0)) := has_at H (by kernel_rfl)
  have b10345 : h.get 10345 = some (.cells ⟨[(.int .i64 (.ofNat 0)), (.slice none 0 0), (.slice none 0 0), (.bool false), (.int .i64 (.ofNat 0)), (.int .i64 (.ofNat 0))]⟩ 41 (0, 0)) := has_at H (by kernel_rfl)
  have b10362 : h.get 10362 = some (.cells ⟨[(.int .i64 (.ofNat 9)), (.slice (some ⟨10352, 0, none⟩) 1 1), (.slice (some ⟨10354, 0, none⟩) 1 1), (.bool false), (.int .i64 (.ofNat 3)), (.int .i64 (.ofNat 0))]⟩ 41 (0, 0)) := has_at H (by kernel_rfl)
  have b10368 : h.get 10368 = some (.cells ⟨[(.int .i64 (.ofNat 0)), (.slice none 0 0), (.slice none 0 0), (.bool false), (.int .i64 (.ofNat 0)), (.int .i64 (.ofNat 0))]⟩ 41 (0, 0)) := has_at H (by kernel_rfl)
  try simp (disch := first | assumption | omega | (simp only [Int.ofNat_eq_natCast, neg_one]; done) | (simp only [Int.ofNat_eq_natCast, neg_one]; omega)) only [tysW, wB, mB, Nat.reduceAdd, Nat.reduceMul, List.length_cons, List.length_nil, ldB b6509, clB b6509, ldBL b6509, clBL b6509, ldB b10345, clB b10345, ldBL b10345, clBL b10345, ldB b10362, clB b10362, ldBL b10362, clBL b10362, ldB b10368, clB b10368, ldBL b10368, clBL b10368]
  refine m_call p12 (by kernel_rfl) (by kernel_rfl) H F [] (by kernel_rfl) hC fun h H F => ?_
  have b6509 : h.get 6509 = some (.cells ⟨[(.int .i64 (.ofNat 7)), (.int .i64 (.ofNat 3)), (.int .i64 (.ofNat 1)), (.int .i64 (.ofNat 9)), (.int .i64 (.ofNat 2)), (.int .i64 (.ofNat 1))]⟩ 38 (0, 0)) := has_at H (by kernel_rfl)
  have b10345 : h.get 10345 = some (.cells ⟨[(.int .i64 (.ofNat 0)), (.slice none 0 0), (.slice none 0 0), (.bool false), (.int .i64 (.ofNat 0)), (.int .i64 (.ofNat 0))]⟩ 41 (0, 0)) := has_at H (by kernel_rfl)
  have b10362 : h.get 10362 = some (.cells ⟨[(.int .i64 (.ofNat 9)), (.slice (some ⟨10352, 0, none⟩) 1 1), (.slice (some ⟨10354, 0, none⟩) 1 1), (.bool false), (.int .i64 (.ofNat 3)), (.int .i64 (.ofNat 0))]⟩ 41 (0, 0)) := has_at H (by kernel_rfl)
  have b10368 : h.get 10368 = some (.cells ⟨[(.int .i64 (.ofNat 0)), (.slice none 0 0), (.slice none 0 0), (.bool false), (.int .i64 (.ofNat 0)), (.int .i64 (.ofNat 0))]⟩ 41 (0, 0)) := has_at H (by kernel_rfl)
  try simp (disch := first | assumption | omega | (simp only [Int.ofNat_eq_natCast, neg_one]; done) | (simp only [Int.ofNat_eq_natCast, neg_one]; omega)) only [tysW, wB, mB, Nat.reduceAdd, Nat.reduceMul, List.length_cons, List.length_nil, ldB b6509, clB b6509, ldBL b6509, clBL b6509, ldB b10345, clB b10345, ldBL b10345, clBL b10345, ldB b10362, clB b10362, ldBL b10362, clBL b10362, ldB b10368, clB b10368, ldBL b10368, clBL b10368]
  refine m_call p13 (by kernel_rfl) (by kernel_rfl) H F [] (by kernel_rfl) hC fun h H F => ?_
  have b6509 : h.get 6509 = some (.cells ⟨[(.int .i64 (.ofNat 7)), (.int .i64 (.ofNat 3)), (.int .i64 (.ofNat 1)), (.int .i64 (.ofNat 9)), (.int .i64 (.ofNat 2)), (.int .i64 (.ofNat 1))]⟩ 38 (0, 0)) := has_at H (by kernel_rfl)
  have b10345 : h.get 10345 = some (.cells ⟨[(.int .i64 (.ofNat 0)), (.slice none 0 0), (.slice none 0 0), (.bool false), (.int .i64 (.ofNat 0)), (.int .i64 (.ofNat 0))]⟩ 41 (0, 0)) := has_at H (by kernel_rfl)
  have b10362 : h.get 10362 = some (.cells ⟨[(.int .i64 (.ofNat 9)), (.slice (some ⟨10352, 0, none⟩) 1 1), (.slice (some ⟨10354, 0, none⟩) 1 1), (.bool false), (.int .i64 (.ofNat 3)), (.int .i64 (.ofNat 0))]⟩ 41 (0, 0)) := has_at H (by kernel_rfl)
  have b10368 : h.get 10368 = some (.cells ⟨[(.int .i64 (.ofNat 0)), (.slice none 0 0), (.slice none 0 0), (.bool false), (.int .i64 (.ofNat 0)), (.int .i64 (.ofNat 0))]⟩ 41 (0, 0)) := has_at H (by kernel_rfl)
  try simp (disch := first | assumption | omega | (simp only [Int.ofNat_eq_natCast, neg_one]; done) | (simp only [Int.ofNat_eq_natCast, neg_one]; omega)) only [tysW, wB, mB, Nat.reduceAdd, Nat.reduceMul, List.length_cons, List.length_nil, ldB b6509, clB b6509, ldBL b6509, clBL b6509, ldB b10345, clB b10345, ldBL b10345, clBL b10345, ldB b10362, clB b10362, ldBL b10362, clBL b10362, ldB b10368, clB b10368, ldBL b10368, clBL b10368]
  refine m_call p14 (by kernel_rfl) (by kernel_rfl) H F [8, 9, 10, 11, 12, 13, 14, 15, 16, 17, 18, 19, 20, 21, 22, 23, 24, 25, 26, 27, 28, 29, 30, 31, 32, 33, 34, 35, 36, 37, 38, 0] (by kernel_rfl) hC fun h H F => ?_
  have b6509 : h.get 6509 = some (.cells ⟨[(.int .i64 (.ofNat 7)), (.int .i64 (.ofNat 3)), (.int .i64 (.ofNat 1)), (.int .i64 (.ofNat 9)), (.int .i64 (.ofNat 2)), (.int .i64 (.ofNat 1))]⟩ 38 (0, 0)) := has_at H (by kernel_rfl)
  have b10345 : h.get 10345 = some (.cells ⟨[(.int .i64 (.ofNat 0)), (.slice none 0 0), (.slice none 0 0), (.bool false), (.int .i64 (.ofNat 0)), (.int .i64 (.ofNat 0))]⟩ 41 (0, 0)) := has_at H (by kernel_rfl)
  have b10362 : h.get 10362 = some (.cells ⟨[(.int .i64 (.ofNat 9)), (.slice (some ⟨10352, 0, none⟩) 1 1), (.slice (some ⟨10354, 0, none⟩) 1 1), (.bool false), (.int .i64 (.ofNat 3)), (.int .i64 (.ofNat 0))]⟩ 41 (0, 0)) := has_at H (by kernel_rfl)
  have b10368 : h.get 10368 = some (.cells ⟨[(.int .i64 (.ofNat 0)), (.slice none 0 0), (.slice none 0 0), (.bool false), (.int .i64 (.ofNat 0)), (.int .i64 (.ofNat 0))]⟩ 41 (0, 0)) := has_at H (by kernel_rfl)
  try simp (disch := first | assumption | omega | (simp only [Int.ofNat_eq_natCast, neg_one]; done) | (simp only [Int.ofNat_eq_natCast, neg_one]; omega)) only [tysW, wB, mB, Nat.reduceAdd, Nat.reduceMul, List.length_cons, List.length_nil, ldB b6509, clB b6509, ldBL b6509, clBL b6509, ldB b10345, clB b10345, ldBL b10345, clBL b10345, ldB b10362, clB b10362, ldBL b10362, clBL b10362, ldB b10368, clB b10368, ldBL b10368, clBL b10368]
  refine m_call p15 (by kernel_rfl) (by kernel_rfl) H F [] (by kernel_rfl) hC fun h H F => ?_
  have b6509 : h.get 6509 = some (.cells ⟨[(.int .i64 (.ofNat 7)), (.int .i64 (.ofNat 3)), (.int .i64 (.ofNat 1)), (.int .i64 (.ofNat 9)), (.int .i64 (.ofNat 2)), (.int .i64 (.ofNat 1))]⟩ 38 (0, 0)) := has_at H (by kernel_rfl)
  have b10345 : h.get 10345 = some (.cells ⟨[(.int .i64 (.ofNat 0)), (.slice none 0 0), (.slice none 0 0), (.bool false), (.int .i64 (.ofNat 0)), (.int .i64 (.ofNat 0))]⟩ 41 (0, 0)) := has_at H (by kernel_rfl)
  have b10362 : h.get 10362 = some (.cells ⟨[(.int .i64 (.ofNat 9)), (.slice (some ⟨10352, 0, none⟩) 1 1), (.slice (some ⟨10354, 0, none⟩) 1 1), (.bool false), (.int .i64 (.ofNat 3)), (.int .i64 (.ofNat 0))]⟩ 41 (0, 0)) := has_at H (by kernel_rfl)
  have b10368 : h.get 10368 = some (.cells ⟨[(.int .i64 (.ofNat 0)), (.slice none 0 0), (.slice none 0 0), (.bool false), (.int .i64 (.ofNat 0)), (.int .i64 (.ofNat 0))]⟩ 41 (0, 0)) := has_at H (by kernel_rfl)
  try simp (disch := first | assumption | omega | (simp only [Int.ofNat_eq_natCast, neg_one]; done) | (simp only [Int.ofNat_eq_natCast, neg_one]; omega)) only [tysW, wB, mB, Nat.reduceAdd, Nat.reduceMul, List.length_cons, List.length_nil, ldB b6509, clB b6509, ldBL b6509, clBL b6509, ldB b10345, clB b10345, ldBL b10345, clBL b10345, ldB b10362, clB b10362, ldBL b10362, clBL b10362, ldB b10368, clB b10368, ldBL b10368, clBL b10368]
  refine m_call p16 (by kernel_rfl) (by kernel_rfl) H F [1, 2, 3, 4, 5, 6, 7, 8, 9, 10, 11, 12, 13, 14, 15, 16, 17, 18, 19, 20, 21, 22, 23, 24, 25, 26, 27, 28, 29, 30, 31, 0] (by kernel_rfl) hC fun h H F => ?_
  have b6509 : h.get 6509 = some (.cells ⟨[(.int .i64 (.ofNat 7)), (.int .i64 (.ofNat 3)), (.int .i64 (.ofNat 1)), (.int .i64 (.ofNat 9)), (.int .i64 (.ofNat 2)), (.int .i64 (.ofNat 1))]⟩ 38 (0, 0)) := has_at H (by kernel_rfl)
  have b10345 : h.get 10345 = some (.cells ⟨[(.int .i64 (.ofNat 0)), (.slice none 0 0), (.slice none 0 0), (.bool false), (.int .i64 (.ofNat 0)), (.int .i64 (.ofNat 0))]⟩ 41 (0, 0)) := has_at H (by kernel_rfl)
  have b10362 : h.get 10362 = some (.cells ⟨[(.int .i64 (.ofNat 9)), (.slice (some ⟨10352, 0, none⟩) 1 1), (.slice (some ⟨10354, 0, none⟩) 1 1), (.bool false), (.int .i64 (.ofNat 3)), (.int .i64 (.ofNat 0))]⟩ 41 (0, 0)) := has_at H (by kernel_rfl)
  have b10368 : h.get 10368 = some (.cells ⟨[(.int .i64 (.ofNat 0)), (.slice none 0 0), (.slice none 0 0), (.bool false), (.int .i64 (.ofNat 0)), (.int .i64 (.ofNat 0))]⟩ 41 (0, 0)) := has_at H (by kernel_rfl)
  try simp (disch := first | assumption | omega | (simp only [Int.ofNat_eq_natCast, neg_one]; done) | (simp only [Int.ofNat_eq_natCast, neg_one]; omega)) only [tysW, wB, mB, Nat.reduceAdd, Nat.reduceMul, List.length_cons, List.length_nil]
  try rfl
end Go.Ev.R
namespace Go.Proofs.YtpfnoffadfahmaaGreat.engineKnown
open Go.RowKit
noncomputable abbrev kn : Ev.Known Tryz.prog := { kn := fun f => Nat.beq f 18, ok := fun f h w => by obtain rfl := Nat.eq_of_beq_eq_true h; exact awake w }
set_option maxRecDepth 100000 in
theorem walk (W : World) : Calls Tryz.prog 3 #[] W (fun e W' => e = .returned (.bool true) ∧ Below W.heap.size W W') := by
  letI : Ev.Known Tryz.prog := kn
  refine Ev.calls_wp (P := Tryz.prog) (N := 100000) (by kernel_rfl) (Ev.R.tab_ok 100000 rfl) (fun f h C args K s => by obtain rfl := Nat.eq_of_beq_eq_true h; kernel_rfl) (by kernel_rfl) (by kernel_rfl) (d := 61) (by decide) (Ev.LaySt.start W) (args := []) .nil (pw := fun _ => True) ?_
  exact Ev.R.run fun κ => Ev.Nt.cg_deep (Ev.R.tab_ok 100000 rfl) 60
end Go.Proofs.YtpfnoffadfahmaaGreat.engineKnown

/- The law TalkTells, part 1: what the functions answer, by their terms. No condition. -/
import Derived.Test.YtnffkmnjpnlleaaTalkTellsP0
set_option linter.unusedVariables false
set_option linter.unusedSimpArgs false
set_option maxRecDepth 100000
namespace Go.Ev.R
open Go Go.RowKit
/-- A telling as it comes in. -/
structure TV where
  kind : Int
  sen : Int
  seq : Int
  err : Int
  np : Option Addr
  nn : Nat
  nc : Nat
  ex : Bool
  b : BV
def tvv (x : TV) : List Value := [vi x.kind, vi x.sen, vi x.seq, vi x.err, .slice x.np x.nn x.nc, .bool x.ex, vi x.b.time, .slice x.b.xp x.b.xn x.b.xc, .slice x.b.pp x.b.pn x.b.pc, .bool x.b.flag, vi x.b.pass, vi x.b.fail]
/-- Whether it may be told, but for what a kind has not. -/
def FineT (x : TV) (pl : List Int) : Prop := (1 ≤ x.kind ∧ x.kind ≤ 6) ∧ (0 ≤ x.sen ∧ x.sen ≤ 255) ∧ (0 ≤ x.err ∧ x.err ≤ 255) ∧ (0 ≤ x.seq ∧ x.seq ≤ 2147483647) ∧ x.nn ≤ 24 ∧ heldB x.b.xn x.b.pn pl = true
def LackT (x : TV) : Prop := (¬ x.sen = 0 ∧ (x.kind = 5 ∨ x.kind = 6)) ∨ (¬ x.seq = 0 ∧ x.kind = 1) ∨ (¬ x.nn = 0 ∧ (x.kind = 1 ∨ x.kind = 5)) ∨ (x.ex = true ∧ ¬ x.kind = 5) ∨ (empB x.b = false ∧ ¬ x.kind = 5)
open Classical in
noncomputable def badT (x : TV) (pl : List Int) : Bool := decide (¬ (FineT x pl ∧ ¬ LackT x))
theorem badT_yes {x : TV} {pl : List Int} (h : ¬ (FineT x pl ∧ ¬ LackT x)) : badT x pl = true := by
  unfold badT
  simp only [decide_eq_true_eq]
  exact h
theorem badT_no {x : TV} {pl : List Int} (h : FineT x pl ∧ ¬ LackT x) : badT x pl = false := by
  unfold badT
  rw [decide_eq_false_iff_not]
  exact not_not_intro h
theorem badT_fine {x : TV} {pl : List Int} (h : badT x pl = false) : FineT x pl ∧ ¬ LackT x := Classical.byContradiction fun hn => by rw [badT_yes hn] at h; cases h
section
variable {N d : Nat} {h : T} {s : Nat} (hf : ∀ n, s ≤ n → h.get n = none)
include hf
theorem s111 (b : BV) (h1 : b.xn ≤ 100000) (h2 : b.pn ≤ 100000) : ValS (D N (d + 1)) 111 [.agg ⟨bvv b⟩] h s (.bool (empB b)) := by
  refine ValS.of hf fun K pw Z g hp hk => ?_
  rw [D_111]; unfold F111; rw [app1_eq]
  refine wp_boxA g hp fun h1 g1 c1 b1 => ?_
  simp only [bvv] at b1
  have hk := hk _ _ g1
  unfold empB at hk
  by_cases e1 : b.time = 0
  · cases e2 : b.flag with
    | true =>
      rw [decide_eq_false (by simp [e2])] at hk
      rw [e2] at b1
      try simp (disch := first | assumption | omega | (simp only [Int.ofNat_eq_natCast, neg_one]; done) | (simp only [Int.ofNat_eq_natCast, neg_one]; omega)) only [tysW, wB, mB, Nat.reduceAdd, Nat.reduceMul, List.length_cons, List.length_nil, ldB b1, clB b1, ldBL b1, clBL b1]
      unfold X111_2 X111_1
      try simp (disch := first | assumption | omega | (simp only [Int.ofNat_eq_natCast, neg_one]; done) | (simp only [Int.ofNat_eq_natCast, neg_one]; omega)) only [tysW, wB, mB, Nat.reduceAdd, Nat.reduceMul, List.length_cons, List.length_nil]
      exact hk
    | false =>
      rw [e2] at b1
      by_cases e3 : b.pass = 0
      · by_cases e4 : b.fail = 0
        · try simp (disch := first | assumption | omega | (simp only [Int.ofNat_eq_natCast, neg_one]; done) | (simp only [Int.ofNat_eq_natCast, neg_one]; omega)) only [tysW, wB, mB, Nat.reduceAdd, Nat.reduceMul, List.length_cons, List.length_nil, ldB b1, clB b1, ldBL b1, clBL b1]
          unfold X111_2
          try simp (disch := first | assumption | omega | (simp only [Int.ofNat_eq_natCast, neg_one]; done) | (simp only [Int.ofNat_eq_natCast, neg_one]; omega)) only [tysW, wB, mB, Nat.reduceAdd, Nat.reduceMul, List.length_cons, List.length_nil, ldB b1, clB b1, ldBL b1, clBL b1]
          unfold X111_1
          try simp (disch := first | assumption | omega | (simp only [Int.ofNat_eq_natCast, neg_one]; done) | (simp only [Int.ofNat_eq_natCast, neg_one]; omega)) only [tysW, wB, mB, Nat.reduceAdd, Nat.reduceMul, List.length_cons, List.length_nil, ldB b1, clB b1, ldBL b1, clBL b1, addN _ _ _ _ (show b.xn + b.pn ≤ 1000000 by omega)]
          by_cases e5 : b.xn + b.pn = 0
          · have e5' : ((b.xn + b.pn : Nat) : Int) = 0 := by omega
            try simp (disch := first | assumption | omega | (simp only [Int.ofNat_eq_natCast, neg_one]; done) | (simp only [Int.ofNat_eq_natCast, neg_one]; omega)) only [tysW, wB, mB, Nat.reduceAdd, Nat.reduceMul, List.length_cons, List.length_nil]
            rw [decide_eq_true ⟨e1, by omega, by omega, e2, e3, e4⟩] at hk
            exact hk
          · have e5' : ¬ ((b.xn + b.pn : Nat) : Int) = 0 := by omega
            try simp (disch := first | assumption | omega | (simp only [Int.ofNat_eq_natCast, neg_one]; done) | (simp only [Int.ofNat_eq_natCast, neg_one]; omega)) only [tysW, wB, mB, Nat.reduceAdd, Nat.reduceMul, List.length_cons, List.length_nil]
            rw [decide_eq_false (by omega)] at hk
            exact hk
        · try simp (disch := first | assumption | omega | (simp only [Int.ofNat_eq_natCast, neg_one]; done) | (simp only [Int.ofNat_eq_natCast, neg_one]; omega)) only [tysW, wB, mB, Nat.reduceAdd, Nat.reduceMul, List.length_cons, List.length_nil, ldB b1, clB b1, ldBL b1, clBL b1]
          unfold X111_2
          try simp (disch := first | assumption | omega | (simp only [Int.ofNat_eq_natCast, neg_one]; done) | (simp only [Int.ofNat_eq_natCast, neg_one]; omega)) only [tysW, wB, mB, Nat.reduceAdd, Nat.reduceMul, List.length_cons, List.length_nil, ldB b1, clB b1, ldBL b1, clBL b1]
          unfold X111_1
          try simp (disch := first | assumption | omega | (simp only [Int.ofNat_eq_natCast, neg_one]; done) | (simp only [Int.ofNat_eq_natCast, neg_one]; omega)) only [tysW, wB, mB, Nat.reduceAdd, Nat.reduceMul, List.length_cons, List.length_nil]
          rw [decide_eq_false (by simp [e4])] at hk
          exact hk
      · try simp (disch := first | assumption | omega | (simp only [Int.ofNat_eq_natCast, neg_one]; done) | (simp only [Int.ofNat_eq_natCast, neg_one]; omega)) only [tysW, wB, mB, Nat.reduceAdd, Nat.reduceMul, List.length_cons, List.length_nil, ldB b1, clB b1, ldBL b1, clBL b1]
        unfold X111_2
        try simp (disch := first | assumption | omega | (simp only [Int.ofNat_eq_natCast, neg_one]; done) | (simp only [Int.ofNat_eq_natCast, neg_one]; omega)) only [tysW, wB, mB, Nat.reduceAdd, Nat.reduceMul, List.length_cons, List.length_nil, ldB b1, clB b1, ldBL b1, clBL b1]
        unfold X111_1
        try simp (disch := first | assumption | omega | (simp only [Int.ofNat_eq_natCast, neg_one]; done) | (simp only [Int.ofNat_eq_natCast, neg_one]; omega)) only [tysW, wB, mB, Nat.reduceAdd, Nat.reduceMul, List.length_cons, List.length_nil]
        rw [decide_eq_false (by simp [e3])] at hk
        exact hk
  · try simp (disch := first | assumption | omega | (simp only [Int.ofNat_eq_natCast, neg_one]; done) | (simp only [Int.ofNat_eq_natCast, neg_one]; omega)) only [tysW, wB, mB, Nat.reduceAdd, Nat.reduceMul, List.length_cons, List.length_nil, ldB b1, clB b1, ldBL b1, clBL b1]
    unfold X111_2 X111_1
    try simp (disch := first | assumption | omega | (simp only [Int.ofNat_eq_natCast, neg_one]; done) | (simp only [Int.ofNat_eq_natCast, neg_one]; omega)) only [tysW, wB, mB, Nat.reduceAdd, Nat.reduceMul, List.length_cons, List.length_nil]
    rw [decide_eq_false (by simp [e1])] at hk
    exact hk
theorem s130 (b : BV) : ValS (D N (d + 1)) 130 [.agg ⟨bvv b⟩] h s (.bool (empB b)) := by
  refine ValS.of hf fun K pw Z g hp hk => ?_
  rw [D_130]; unfold F130; rw [app1_eq]
  refine wp_boxA g hp fun h1 g1 c1 b1 => ?_
  simp only [bvv] at b1
  have hk := hk _ _ g1
  unfold empB at hk
  by_cases e1 : b.time = 0
  · by_cases e5 : (b.xn : Int) = 0
    · by_cases e6 : (b.pn : Int) = 0
      · cases e2 : b.flag with
        | true =>
          rw [decide_eq_false (by simp [e2])] at hk
          rw [e2] at b1
          try simp (disch := first | assumption | omega | (simp only [Int.ofNat_eq_natCast, neg_one]; done) | (simp only [Int.ofNat_eq_natCast, neg_one]; omega)) only [tysW, wB, mB, Nat.reduceAdd, Nat.reduceMul, List.length_cons, List.length_nil, ldB b1, clB b1, ldBL b1, clBL b1]
          unfold X130_2 
          try simp (disch := first | assumption | omega | (simp only [Int.ofNat_eq_natCast, neg_one]; done) | (simp only [Int.ofNat_eq_natCast, neg_one]; omega)) only [tysW, wB, mB, Nat.reduceAdd, Nat.reduceMul, List.length_cons, List.length_nil, ldB b1, clB b1, ldBL b1, clBL b1]
          unfold X130_1
          try simp (disch := first | assumption | omega | (simp only [Int.ofNat_eq_natCast, neg_one]; done) | (simp only [Int.ofNat_eq_natCast, neg_one]; omega)) only [tysW, wB, mB, Nat.reduceAdd, Nat.reduceMul, List.length_cons, List.length_nil, ldB b1, clB b1, ldBL b1, clBL b1]
          exact hk
        | false =>
          rw [e2] at b1
          by_cases e3 : b.pass = 0
          · by_cases e4 : b.fail = 0
            · try simp (disch := first | assumption | omega | (simp only [Int.ofNat_eq_natCast, neg_one]; done) | (simp only [Int.ofNat_eq_natCast, neg_one]; omega)) only [tysW, wB, mB, Nat.reduceAdd, Nat.reduceMul, List.length_cons, List.length_nil, ldB b1, clB b1, ldBL b1, clBL b1]
              unfold X130_2
              try simp (disch := first | assumption | omega | (simp only [Int.ofNat_eq_natCast, neg_one]; done) | (simp only [Int.ofNat_eq_natCast, neg_one]; omega)) only [tysW, wB, mB, Nat.reduceAdd, Nat.reduceMul, List.length_cons, List.length_nil, ldB b1, clB b1, ldBL b1, clBL b1]
              unfold X130_1
              try simp (disch := first | assumption | omega | (simp only [Int.ofNat_eq_natCast, neg_one]; done) | (simp only [Int.ofNat_eq_natCast, neg_one]; omega)) only [tysW, wB, mB, Nat.reduceAdd, Nat.reduceMul, List.length_cons, List.length_nil, ldB b1, clB b1, ldBL b1, clBL b1]
              rw [decide_eq_true ⟨e1, by omega, by omega, e2, e3, e4⟩] at hk
              exact hk
            · try simp (disch := first | assumption | omega | (simp only [Int.ofNat_eq_natCast, neg_one]; done) | (simp only [Int.ofNat_eq_natCast, neg_one]; omega)) only [tysW, wB, mB, Nat.reduceAdd, Nat.reduceMul, List.length_cons, List.length_nil, ldB b1, clB b1, ldBL b1, clBL b1]
              unfold X130_2
              try simp (disch := first | assumption | omega | (simp only [Int.ofNat_eq_natCast, neg_one]; done) | (simp only [Int.ofNat_eq_natCast, neg_one]; omega)) only [tysW, wB, mB, Nat.reduceAdd, Nat.reduceMul, List.length_cons, List.length_nil, ldB b1, clB b1, ldBL b1, clBL b1]
              unfold X130_1
              try simp (disch := first | assumption | omega | (simp only [Int.ofNat_eq_natCast, neg_one]; done) | (simp only [Int.ofNat_eq_natCast, neg_one]; omega)) only [tysW, wB, mB, Nat.reduceAdd, Nat.reduceMul, List.length_cons, List.length_nil, ldB b1, clB b1, ldBL b1, clBL b1]
              rw [decide_eq_false (by simp [e4])] at hk
              exact hk
          · try simp (disch := first | assumption | omega | (simp only [Int.ofNat_eq_natCast, neg_one]; done) | (simp only [Int.ofNat_eq_natCast, neg_one]; omega)) only [tysW, wB, mB, Nat.reduceAdd, Nat.reduceMul, List.length_cons, List.length_nil, ldB b1, clB b1, ldBL b1, clBL b1]
            unfold X130_2
            try simp (disch := first | assumption | omega | (simp only [Int.ofNat_eq_natCast, neg_one]; done) | (simp only [Int.ofNat_eq_natCast, neg_one]; omega)) only [tysW, wB, mB, Nat.reduceAdd, Nat.reduceMul, List.length_cons, List.length_nil, ldB b1, clB b1, ldBL b1, clBL b1]
            unfold X130_1
            try simp (disch := first | assumption | omega | (simp only [Int.ofNat_eq_natCast, neg_one]; done) | (simp only [Int.ofNat_eq_natCast, neg_one]; omega)) only [tysW, wB, mB, Nat.reduceAdd, Nat.reduceMul, List.length_cons, List.length_nil, ldB b1, clB b1, ldBL b1, clBL b1]
            rw [decide_eq_false (by simp [e3])] at hk
            exact hk
      · try simp (disch := first | assumption | omega | (simp only [Int.ofNat_eq_natCast, neg_one]; done) | (simp only [Int.ofNat_eq_natCast, neg_one]; omega)) only [tysW, wB, mB, Nat.reduceAdd, Nat.reduceMul, List.length_cons, List.length_nil, ldB b1, clB b1, ldBL b1, clBL b1]
        unfold X130_2
        try simp (disch := first | assumption | omega | (simp only [Int.ofNat_eq_natCast, neg_one]; done) | (simp only [Int.ofNat_eq_natCast, neg_one]; omega)) only [tysW, wB, mB, Nat.reduceAdd, Nat.reduceMul, List.length_cons, List.length_nil, ldB b1, clB b1, ldBL b1, clBL b1]
        unfold X130_1
        try simp (disch := first | assumption | omega | (simp only [Int.ofNat_eq_natCast, neg_one]; done) | (simp only [Int.ofNat_eq_natCast, neg_one]; omega)) only [tysW, wB, mB, Nat.reduceAdd, Nat.reduceMul, List.length_cons, List.length_nil]
        rw [decide_eq_false (by omega)] at hk
        exact hk
    · try simp (disch := first | assumption | omega | (simp only [Int.ofNat_eq_natCast, neg_one]; done) | (simp only [Int.ofNat_eq_natCast, neg_one]; omega)) only [tysW, wB, mB, Nat.reduceAdd, Nat.reduceMul, List.length_cons, List.length_nil, ldB b1, clB b1, ldBL b1, clBL b1]
      unfold X130_2
      try simp (disch := first | assumption | omega | (simp only [Int.ofNat_eq_natCast, neg_one]; done) | (simp only [Int.ofNat_eq_natCast, neg_one]; omega)) only [tysW, wB, mB, Nat.reduceAdd, Nat.reduceMul, List.length_cons, List.length_nil]
      unfold X130_1
      try simp (disch := first | assumption | omega | (simp only [Int.ofNat_eq_natCast, neg_one]; done) | (simp only [Int.ofNat_eq_natCast, neg_one]; omega)) only [tysW, wB, mB, Nat.reduceAdd, Nat.reduceMul, List.length_cons, List.length_nil]
      rw [decide_eq_false (by omega)] at hk
      exact hk
  · try simp (disch := first | assumption | omega | (simp only [Int.ofNat_eq_natCast, neg_one]; done) | (simp only [Int.ofNat_eq_natCast, neg_one]; omega)) only [tysW, wB, mB, Nat.reduceAdd, Nat.reduceMul, List.length_cons, List.length_nil, ldB b1, clB b1, ldBL b1, clBL b1]
    unfold X130_2 X130_1
    try simp (disch := first | assumption | omega | (simp only [Int.ofNat_eq_natCast, neg_one]; done) | (simp only [Int.ofNat_eq_natCast, neg_one]; omega)) only [tysW, wB, mB, Nat.reduceAdd, Nat.reduceMul, List.length_cons, List.length_nil]
    rw [decide_eq_false (by simp [e1])] at hk
    exact hk
theorem s109 {fb : Nat} {l : List UInt8} (hb : h.get fb = some (.cells ⟨[str l]⟩ 114 (0, 0))) (c : UInt8) (em b : Bool) (hcon : ∀ (K : KV) (s : Nat), D N (d + 8) 93 [str l, str [c]] K s = K (.bool b) s) : ValS (D N (d + 9)) 109 [str [c], .bool em, ptr fb] h s (.bool (!em && !b)) := by
  refine ValS.of hf fun K pw Z g hp hk => ?_
  rw [D_109]; unfold F109; rw [app3_eq]
  have hk := hk _ _ g
  cases em with
  | true =>
    try simp (disch := first | assumption | omega | (simp only [Int.ofNat_eq_natCast, neg_one]; done) | (simp only [Int.ofNat_eq_natCast, neg_one]; omega)) only [tysW, wB, mB, Nat.reduceAdd, Nat.reduceMul, List.length_cons, List.length_nil]
    exact hk
  | false =>
    try simp (disch := first | assumption | omega | (simp only [Int.ofNat_eq_natCast, neg_one]; done) | (simp only [Int.ofNat_eq_natCast, neg_one]; omega)) only [tysW, wB, mB, Nat.reduceAdd, Nat.reduceMul, List.length_cons, List.length_nil, ldB hb, clB hb, ldBL hb, clBL hb]
    rw [hcon]
    try simp (disch := first | assumption | omega | (simp only [Int.ofNat_eq_natCast, neg_one]; done) | (simp only [Int.ofNat_eq_natCast, neg_one]; omega)) only [tysW, wB, mB, Nat.reduceAdd, Nat.reduceMul, List.length_cons, List.length_nil, w_not]
    exact hk
end
end Go.Ev.R
namespace Go.Ev.R
open Go Go.RowKit
section
variable (N : Nat) (C : CallT) (K : KV) (v2 v19 : Value) (s : Nat)
theorem bad36_5 : X36_5 N C K (.bool true) v2 v19 undef s = K (vi 2) s := rfl
theorem bad36_5' : X36_5 N C K (.bool false) v2 v19 (.bool true) s = K (vi 2) s := rfl
theorem bad36_4 : X36_4 N C K (.bool true) v2 v19 undef s = K (vi 2) s := rfl
theorem bad36_4' : X36_4 N C K (.bool false) v2 v19 (.bool true) s = K (vi 2) s := rfl
theorem bad36_3 : X36_3 N C K (.bool true) v2 v19 undef s = K (vi 2) s := rfl
theorem bad36_3' : X36_3 N C K (.bool false) v2 v19 (.bool true) s = K (vi 2) s := rfl
theorem bad36_2 : X36_2 N C K (.bool true) v2 v19 undef s = K (vi 2) s := rfl
theorem bad36_2' : X36_2 N C K (.bool false) v2 v19 (.bool true) s = K (vi 2) s := rfl
theorem bad36_1' : X36_1 N C K (.bool false) v2 v19 (.bool true) s = K (vi 2) s := rfl
end
theorem lk {a b : Bool} (h : (!a && !b) = false) : a = true ∨ b = true := by cases a <;> cases b <;> simp at h ⊢
section
variable {N d : Nat} (hN : N = 100000) {h : T} {s : Nat} (hf : ∀ n, s ≤ n → h.get n = none)
include hN hf
theorem s36 (x : TV) {pl : List Int} (r : Row EI h x.b.pp x.b.pn pl) (hpn : x.b.pn ≤ 1000) (hxn : x.b.xn ≤ 1000) : ValS (D N (d + 11)) 36 [.agg ⟨tvv x⟩] h s (vi (if badT x pl = true then 2 else 0)) := by
  refine ValS.of hf fun K pw Z g hp hk => ?_
  rw [D_36]; unfold F36; rw [app1_eq]
  refine wp_boxA g hp fun h1 g1 c1 b1 => ?_
  simp only [tvv] at b1
  refine PureS.goL g1 hp (s108 (d := d + 9) g1.fresh) fun v h2 s2 ts2 ws2 g2 c2 hv hw2 ht2 => ?_
  obtain ⟨m, rfl, hm, bm⟩ := hv
  have l2 := c2.le
  replace b1 := c2.box b1 (by omega)
  unfold X36_7
  try simp (disch := first | assumption | omega | (simp only [Int.ofNat_eq_natCast, neg_one]; done) | (simp only [Int.ofNat_eq_natCast, neg_one]; omega)) only [tysW, wB, mB, Nat.reduceAdd, Nat.reduceMul, List.length_cons, List.length_nil, ldB b1, clB b1, ldBL b1, clBL b1]
  refine log_wp (W := fun _ => False) (Q := fun v h' s' => v = .tuple ⟨[txt (telT x.kind), .bool (decide (1 ≤ x.kind ∧ x.kind ≤ 6))]⟩ ∧ h' = h2 ∧ s' = s2) ?_ (fun n hn => hn.elim) ?_
  · rw [wp_tel bm]
    exact ⟨_, _, rfl, rfl, rfl, rfl⟩
  rintro v h3 s3 ts3 ws3 ⟨rfl, rfl, rfl⟩ hw3 ht3
  replace hw3 : ∀ n ∈ ws3, s3 ≤ n ∧ n < s3 := fun n hn => (hw3 n hn).1.elim
  replace ht3 : ∀ n ∈ ts3, n < s3 := fun n hn => lt_of_some g2.fresh (ht3 n hn)
  try simp (disch := first | assumption | omega | (simp only [Int.ofNat_eq_natCast, neg_one]; done) | (simp only [Int.ofNat_eq_natCast, neg_one]; omega)) only [tysW, wB, mB, Nat.reduceAdd, Nat.reduceMul, List.length_cons, List.length_nil]
  refine wp_boxL g2 hp fun h4 g4 c4 b4 => ?_
  replace b1 := c4.box b1 (by omega)
  try simp (disch := first | assumption | omega | (simp only [Int.ofNat_eq_natCast, neg_one]; done) | (simp only [Int.ofNat_eq_natCast, neg_one]; omega)) only [tysW, wB, mB, Nat.reduceAdd, Nat.reduceMul, List.length_cons, List.length_nil]
  refine wp_putL g4 hp b4 (by omega) (by simp) rfl fun h5 g5 b5 e5 => ?_
  simp only [overL] at b5
  replace b1 := (e5 s (by omega)).trans b1
  unfold X36_6
  rw [wp_guard, if_pos (by repeat' (first | exact dynOk_nil _ _ | refine dyn_skip' ?_ | refine dyn_cons ?_ ?_ | exact allF_nil _ _ | refine allF_cons ?_ ?_ | exact disj_below hw2 (by omega) | exact disjA hw2 (by omega) | exact disjB hw2 (by omega) | exact disjC hw2 (by assumption) | exact disjD (fun m hm => by have := hw2 m hm; omega) | exact disj_below ht2 (by omega) | exact disjA ht2 (by omega) | exact disjB ht2 (by omega) | exact disjC ht2 (by assumption) | exact disjD (fun m hm => by have := ht2 m hm; omega) | exact disj_below hw3 (by omega) | exact disjA hw3 (by omega) | exact disjB hw3 (by omega) | exact disjC hw3 (by assumption) | exact disjD (fun m hm => by have := hw3 m hm; omega) | exact disj_below ht3 (by omega) | exact disjA ht3 (by omega) | exact disjB ht3 (by omega) | exact disjC ht3 (by assumption) | exact disjD (fun m hm => by have := ht3 m hm; omega) | exact disjN _ | exact disj1 (by omega) | exact disj2 (by omega) | exact disj3 (by assumption) | exact disjC hw2 (fun m hm => by have := ht2 m hm; omega) | exact disjC hw2 (fun m hm => by have := hw3 m hm; omega) | exact disjC hw2 (fun m hm => by have := ht3 m hm; omega) | exact disjC ht2 (fun m hm => by have := hw2 m hm; omega) | exact disjC ht2 (fun m hm => by have := hw3 m hm; omega) | exact disjC ht2 (fun m hm => by have := ht3 m hm; omega) | exact disjC hw3 (fun m hm => by have := hw2 m hm; omega) | exact disjC hw3 (fun m hm => by have := ht2 m hm; omega) | exact disjC hw3 (fun m hm => by have := ht3 m hm; omega) | exact disjC ht3 (fun m hm => by have := hw2 m hm; omega) | exact disjC ht3 (fun m hm => by have := ht2 m hm; omega) | exact disjC ht3 (fun m hm => by have := hw3 m hm; omega)))]
  have bad : ∀ {h' s'}, From s h h' s' → ¬ (FineT x pl ∧ ¬ LackT x) → (K (vi 2) s').wp pw Z h' := fun g hb => by
    have := hk _ _ g
    rw [if_pos (badT_yes hb)] at this; exact this
  have l3 : s + 1 ≤ s3 := l2
  by_cases f1 : 1 ≤ x.kind ∧ x.kind ≤ 6
  rotate_left
  · rw [decide_eq_false f1]
    try simp (disch := first | assumption | omega | (simp only [Int.ofNat_eq_natCast, neg_one]; done) | (simp only [Int.ofNat_eq_natCast, neg_one]; omega)) only [tysW, wB, mB, Nat.reduceAdd, Nat.reduceMul, List.length_cons, List.length_nil]
    rw [bad36_5]
    exact bad g5 fun hh => f1 hh.1.1
  rw [decide_eq_true f1]
  try simp (disch := first | assumption | omega | (simp only [Int.ofNat_eq_natCast, neg_one]; done) | (simp only [Int.ofNat_eq_natCast, neg_one]; omega)) only [tysW, wB, mB, Nat.reduceAdd, Nat.reduceMul, List.length_cons, List.length_nil, ldB b1, clB b1, ldBL b1, clBL b1]
  refine ValS.go g5 hp (s94 (d := d + 9) g5.fresh x.sen 255) fun h6 s6 g6 c6 => ?_
  have l6 := c6.le
  replace b1 := c6.box b1 (by omega)
  replace b5 := c6.box b5 (by omega)
  by_cases f2 : 0 ≤ x.sen ∧ x.sen ≤ 255
  rotate_left
  · rw [decide_eq_false f2]
    try simp (disch := first | assumption | omega | (simp only [Int.ofNat_eq_natCast, neg_one]; done) | (simp only [Int.ofNat_eq_natCast, neg_one]; omega)) only [tysW, wB, mB, Nat.reduceAdd, Nat.reduceMul, List.length_cons, List.length_nil]
    rw [bad36_5']
    exact bad g6 fun hh => f2 hh.1.2.1
  rw [decide_eq_true f2]
  try simp (disch := first | assumption | omega | (simp only [Int.ofNat_eq_natCast, neg_one]; done) | (simp only [Int.ofNat_eq_natCast, neg_one]; omega)) only [tysW, wB, mB, Nat.reduceAdd, Nat.reduceMul, List.length_cons, List.length_nil]
  unfold X36_5
  try simp (disch := first | assumption | omega | (simp only [Int.ofNat_eq_natCast, neg_one]; done) | (simp only [Int.ofNat_eq_natCast, neg_one]; omega)) only [tysW, wB, mB, Nat.reduceAdd, Nat.reduceMul, List.length_cons, List.length_nil, ldB b1, clB b1, ldBL b1, clBL b1]
  refine ValS.go g6 hp (s94 (d := d + 9) g6.fresh x.err 255) fun h7 s7 g7 c7 => ?_
  have l7 := c7.le
  replace b1 := c7.box b1 (by omega)
  replace b5 := c7.box b5 (by omega)
  by_cases f3 : 0 ≤ x.err ∧ x.err ≤ 255
  rotate_left
  · rw [decide_eq_false f3]
    try simp (disch := first | assumption | omega | (simp only [Int.ofNat_eq_natCast, neg_one]; done) | (simp only [Int.ofNat_eq_natCast, neg_one]; omega)) only [tysW, wB, mB, Nat.reduceAdd, Nat.reduceMul, List.length_cons, List.length_nil]
    rw [bad36_4]
    exact bad g7 fun hh => f3 hh.1.2.2.1
  rw [decide_eq_true f3]
  try simp (disch := first | assumption | omega | (simp only [Int.ofNat_eq_natCast, neg_one]; done) | (simp only [Int.ofNat_eq_natCast, neg_one]; omega)) only [tysW, wB, mB, Nat.reduceAdd, Nat.reduceMul, List.length_cons, List.length_nil, ldB b1, clB b1, ldBL b1, clBL b1]
  refine ValS.go g7 hp (s94 (d := d + 9) g7.fresh x.seq 2147483647) fun h8 s8 g8 c8 => ?_
  have l8 := c8.le
  replace b1 := c8.box b1 (by omega)
  replace b5 := c8.box b5 (by omega)
  by_cases f4 : 0 ≤ x.seq ∧ x.seq ≤ 2147483647
  rotate_left
  · rw [decide_eq_false f4]
    try simp (disch := first | assumption | omega | (simp only [Int.ofNat_eq_natCast, neg_one]; done) | (simp only [Int.ofNat_eq_natCast, neg_one]; omega)) only [tysW, wB, mB, Nat.reduceAdd, Nat.reduceMul, List.length_cons, List.length_nil]
    rw [bad36_4']
    exact bad g8 fun hh => f4 hh.1.2.2.2.1
  rw [decide_eq_true f4]
  try simp (disch := first | assumption | omega | (simp only [Int.ofNat_eq_natCast, neg_one]; done) | (simp only [Int.ofNat_eq_natCast, neg_one]; omega)) only [tysW, wB, mB, Nat.reduceAdd, Nat.reduceMul, List.length_cons, List.length_nil]
  unfold X36_4
  by_cases f5 : (24 : Int) < (x.nn : Int)
  · try simp (disch := first | assumption | omega | (simp only [Int.ofNat_eq_natCast, neg_one]; done) | (simp only [Int.ofNat_eq_natCast, neg_one]; omega)) only [tysW, wB, mB, Nat.reduceAdd, Nat.reduceMul, List.length_cons, List.length_nil, ldB b1, clB b1, ldBL b1, clBL b1]
    rw [bad36_3]
    exact bad g8 fun hh => by have := hh.1.2.2.2.2.1; omega
  try simp (disch := first | assumption | omega | (simp only [Int.ofNat_eq_natCast, neg_one]; done) | (simp only [Int.ofNat_eq_natCast, neg_one]; omega)) only [tysW, wB, mB, Nat.reduceAdd, Nat.reduceMul, List.length_cons, List.length_nil, ldB b1, clB b1, ldBL b1, clBL b1]
  refine ValS.go g8 hp (s110 (d := d + 9) hN g8.fresh x.b (g8.row hf r) hpn) fun h9 s9 g9 c9 => ?_
  have l9 := c9.le
  replace b1 := c9.box b1 (by omega)
  replace b5 := c9.box b5 (by omega)
  cases f6 : heldB x.b.xn x.b.pn pl with
  | false =>
    try simp (disch := first | assumption | omega | (simp only [Int.ofNat_eq_natCast, neg_one]; done) | (simp only [Int.ofNat_eq_natCast, neg_one]; omega)) only [tysW, wB, mB, Nat.reduceAdd, Nat.reduceMul, List.length_cons, List.length_nil]
    rw [bad36_3']
    exact bad g9 fun hh => by have := hh.1.2.2.2.2.2; rw [f6] at this; cases this
  | true =>
    have fine : FineT x pl := ⟨f1, f2, f3, f4, by omega, f6⟩
    have bad : ∀ {h' s'}, From s h h' s' → LackT x → (K (vi 2) s').wp pw Z h' := fun g hb => bad g fun hh => hh.2 hb
    try simp (disch := first | assumption | omega | (simp only [Int.ofNat_eq_natCast, neg_one]; done) | (simp only [Int.ofNat_eq_natCast, neg_one]; omega)) only [tysW, wB, mB, Nat.reduceAdd, Nat.reduceMul, List.length_cons, List.length_nil]
    unfold X36_3
    try simp (disch := first | assumption | omega | (simp only [Int.ofNat_eq_natCast, neg_one]; done) | (simp only [Int.ofNat_eq_natCast, neg_one]; omega)) only [tysW, wB, mB, Nat.reduceAdd, Nat.reduceMul, List.length_cons, List.length_nil, ldB b1, clB b1, ldBL b1, clBL b1, w_eq, iv_109]
    refine ValS.go g9 hp (s109 (d := d + 1) g9.fresh b5 115 (decide (x.sen = 0)) (!(decide (x.kind = 5 ∨ x.kind = 6))) fun K s => conT_s hN (d + 1) K s f1) fun h10 s10 g10 c10 => ?_
    have l10 := c10.le
    replace b1 := c10.box b1 (by omega)
    replace b5 := c10.box b5 (by omega)
    cases q1 : (!decide (x.sen = 0) && !(!(decide (x.kind = 5 ∨ x.kind = 6)))) with
    | true =>
      try simp (disch := first | assumption | omega | (simp only [Int.ofNat_eq_natCast, neg_one]; done) | (simp only [Int.ofNat_eq_natCast, neg_one]; omega)) only [tysW, wB, mB, Nat.reduceAdd, Nat.reduceMul, List.length_cons, List.length_nil]
      rw [bad36_2]
      refine bad g10 (.inl ?_)
      simp at q1; exact q1
    | false =>
      try simp (disch := first | assumption | omega | (simp only [Int.ofNat_eq_natCast, neg_one]; done) | (simp only [Int.ofNat_eq_natCast, neg_one]; omega)) only [tysW, wB, mB, Nat.reduceAdd, Nat.reduceMul, List.length_cons, List.length_nil, ldB b1, clB b1, ldBL b1, clBL b1, w_eq, iv_109]
      refine ValS.go g10 hp (s109 (d := d + 1) g10.fresh b5 113 (decide (x.seq = 0)) (!(decide (x.kind = 1))) fun K s => conT_q hN (d + 1) K s f1) fun h11 s11 g11 c11 => ?_
      have l11 := c11.le
      replace b1 := c11.box b1 (by omega)
      replace b5 := c11.box b5 (by omega)
      cases q2 : (!decide (x.seq = 0) && !(!(decide (x.kind = 1)))) with
      | true =>
        try simp (disch := first | assumption | omega | (simp only [Int.ofNat_eq_natCast, neg_one]; done) | (simp only [Int.ofNat_eq_natCast, neg_one]; omega)) only [tysW, wB, mB, Nat.reduceAdd, Nat.reduceMul, List.length_cons, List.length_nil]
        rw [bad36_2']
        refine bad g11 (.inr (.inl ?_))
        simp at q2; exact q2
      | false =>
        try simp (disch := first | assumption | omega | (simp only [Int.ofNat_eq_natCast, neg_one]; done) | (simp only [Int.ofNat_eq_natCast, neg_one]; omega)) only [tysW, wB, mB, Nat.reduceAdd, Nat.reduceMul, List.length_cons, List.length_nil]
        unfold X36_2
        try simp (disch := first | assumption | omega | (simp only [Int.ofNat_eq_natCast, neg_one]; done) | (simp only [Int.ofNat_eq_natCast, neg_one]; omega)) only [tysW, wB, mB, Nat.reduceAdd, Nat.reduceMul, List.length_cons, List.length_nil, ldB b1, clB b1, ldBL b1, clBL b1, w_eq, iv_109]
        refine ValS.go g11 hp (s109 (d := d + 1) g11.fresh b5 101 (decide (x.err = 0)) true fun K s => conT_e hN (d + 1) K s f1) fun h12 s12 g12 c12 => ?_
        have l12 := c12.le
        replace b1 := c12.box b1 (by omega)
        replace b5 := c12.box b5 (by omega)
        rw [show (!decide (x.err = 0) && !true) = false by simp]
        try simp (disch := first | assumption | omega | (simp only [Int.ofNat_eq_natCast, neg_one]; done) | (simp only [Int.ofNat_eq_natCast, neg_one]; omega)) only [tysW, wB, mB, Nat.reduceAdd, Nat.reduceMul, List.length_cons, List.length_nil, ldB b1, clB b1, ldBL b1, clBL b1, w_eq, iv_109]
        refine ValS.go g12 hp (s109 (d := d + 1) g12.fresh b5 110 (decide ((x.nn : Int) = 0)) (!(decide (x.kind = 1 ∨ x.kind = 5))) fun K s => conT_n hN (d + 1) K s f1) fun h13 s13 g13 c13 => ?_
        have l13 := c13.le
        replace b1 := c13.box b1 (by omega)
        replace b5 := c13.box b5 (by omega)
        cases q3 : (!decide ((x.nn : Int) = 0) && !(!(decide (x.kind = 1 ∨ x.kind = 5)))) with
        | true =>
          try simp (disch := first | assumption | omega | (simp only [Int.ofNat_eq_natCast, neg_one]; done) | (simp only [Int.ofNat_eq_natCast, neg_one]; omega)) only [tysW, wB, mB, Nat.reduceAdd, Nat.reduceMul, List.length_cons, List.length_nil]
          rw [bad36_1']
          refine bad g13 (.inr (.inr (.inl ?_)))
          simp at q3; exact q3
        | false =>
          try simp (disch := first | assumption | omega | (simp only [Int.ofNat_eq_natCast, neg_one]; done) | (simp only [Int.ofNat_eq_natCast, neg_one]; omega)) only [tysW, wB, mB, Nat.reduceAdd, Nat.reduceMul, List.length_cons, List.length_nil]
          unfold X36_1
          try simp (disch := first | assumption | omega | (simp only [Int.ofNat_eq_natCast, neg_one]; done) | (simp only [Int.ofNat_eq_natCast, neg_one]; omega)) only [tysW, wB, mB, Nat.reduceAdd, Nat.reduceMul, List.length_cons, List.length_nil, ldB b1, clB b1, ldBL b1, clBL b1, w_not, iv_109]
          refine ValS.go g13 hp (s109 (d := d + 1) g13.fresh b5 120 (!x.ex) (decide (x.kind = 5)) fun K s => conT_x hN (d + 1) K s f1) fun h14 s14 g14 c14 => ?_
          have l14 := c14.le
          replace b1 := c14.box b1 (by omega)
          replace b5 := c14.box b5 (by omega)
          cases q4 : (!(!x.ex) && !(decide (x.kind = 5))) with
          | true =>
            try simp (disch := first | assumption | omega | (simp only [Int.ofNat_eq_natCast, neg_one]; done) | (simp only [Int.ofNat_eq_natCast, neg_one]; omega)) only [tysW, wB, mB, Nat.reduceAdd, Nat.reduceMul, List.length_cons, List.length_nil]
            refine bad g14 (.inr (.inr (.inr (.inl ?_))))
            simp at q4; exact q4
          | false =>
            try simp (disch := first | assumption | omega | (simp only [Int.ofNat_eq_natCast, neg_one]; done) | (simp only [Int.ofNat_eq_natCast, neg_one]; omega)) only [tysW, wB, mB, Nat.reduceAdd, Nat.reduceMul, List.length_cons, List.length_nil, ldB b1, clB b1, ldBL b1, clBL b1, iv_109]
            refine ValS.go g14 hp (s111 (d := d + 9) g14.fresh x.b (by omega) (by omega)) fun h15 s15 g15 c15 => ?_
            have l15 := c15.le
            replace b5 := c15.box b5 (by omega)
            try simp (disch := first | assumption | omega | (simp only [Int.ofNat_eq_natCast, neg_one]; done) | (simp only [Int.ofNat_eq_natCast, neg_one]; omega)) only [tysW, wB, mB, Nat.reduceAdd, Nat.reduceMul, List.length_cons, List.length_nil, iv_109]
            refine ValS.go g15 hp (s109 (d := d + 1) g15.fresh b5 98 (empB x.b) (decide (x.kind = 5)) fun K s => conT_b hN (d + 1) K s f1) fun h16 s16 g16 c16 => ?_
            cases q5 : (!(empB x.b) && !(decide (x.kind = 5))) with
            | true =>
              try simp (disch := first | assumption | omega | (simp only [Int.ofNat_eq_natCast, neg_one]; done) | (simp only [Int.ofNat_eq_natCast, neg_one]; omega)) only [tysW, wB, mB, Nat.reduceAdd, Nat.reduceMul, List.length_cons, List.length_nil]
              refine bad g16 (.inr (.inr (.inr (.inr ?_))))
              simp at q5; exact q5
            | false =>
              try simp (disch := first | assumption | omega | (simp only [Int.ofNat_eq_natCast, neg_one]; done) | (simp only [Int.ofNat_eq_natCast, neg_one]; omega)) only [tysW, wB, mB, Nat.reduceAdd, Nat.reduceMul, List.length_cons, List.length_nil]
              have := hk _ _ g16
              rw [badT_no ⟨fine, ?_⟩] at this
              · exact this
              · have e1 := lk q1
                have e2 := lk q2
                have e3 := lk q3
                have e4 := lk q4
                have e5 := lk q5
                simp at e1 e2 e3 e4 e5
                rintro (⟨a, b⟩ | ⟨a, b⟩ | ⟨a, b⟩ | ⟨a, b⟩ | ⟨a, b⟩)
                · rcases e1 with e | e
                  · exact a e
                  · omega
                · rcases e2 with e | e
                  · exact a e
                  · exact e b
                · rcases e3 with e | e
                  · exact a e
                  · omega
                · rcases e4 with e | e
                  · rw [e] at a; cases a
                  · exact b e
                · rcases e5 with e | e
                  · rw [e] at a; cases a
                  · exact b e
end
end Go.Ev.R
namespace Go.Ev.R
open Go Go.RowKit
section
variable (N : Nat) (C : CallT) (K : KV) (v2 v5 x y : Value) (s : Nat)
theorem no67_7 : X67_7 N C K (.bool false) v2 v5 undef s = K (vi 2) s := rfl
theorem no67_7' : X67_7 N C K (.bool true) v2 v5 (.bool false) s = K (vi 2) s := rfl
theorem no67_6 : X67_6 N C K (.bool false) v2 v5 undef s = K (vi 2) s := rfl
theorem no67_6' : X67_6 N C K (.bool true) v2 v5 (.bool false) s = K (vi 2) s := rfl
theorem no67_5 : X67_5 N C K (.bool false) v2 v5 undef s = K (vi 2) s := rfl
theorem no67_5' : X67_5 N C K (.bool true) v2 v5 (.bool false) s = K (vi 2) s := rfl
theorem bad67_4 : X67_4 N C K (.bool false) v2 v5 (.bool true) s = K (vi 2) s := rfl
theorem bad67_3 : X67_3 N C K (.bool false) v2 v5 (.bool true) s = K (vi 2) s := rfl
theorem bad67_2 : X67_2 N C K (.bool false) v2 v5 (.bool true) (.bool true) s = K (vi 2) s := rfl
end
section
variable {N d : Nat} (hN : N = 100000) {h : T} {s : Nat} (hf : ∀ n, s ≤ n → h.get n = none)
include hN hf
theorem s67 (x : TV) {pl : List Int} (r : Row EI h x.b.pp x.b.pn pl) (hpn : x.b.pn ≤ 1000) (hxn : x.b.xn ≤ 1000) : ValS (D N (d + 11)) 67 [.agg ⟨tvv x⟩] h s (vi (if badT x pl = true then 2 else 0)) := by
  refine ValS.of hf fun K pw Z g hp hk => ?_
  rw [D_67]; unfold F67; rw [app1_eq]
  refine wp_boxA g hp fun h1 g1 c1 b1 => ?_
  simp only [tvv] at b1
  try simp (disch := first | assumption | omega | (simp only [Int.ofNat_eq_natCast, neg_one]; done) | (simp only [Int.ofNat_eq_natCast, neg_one]; omega)) only [tysW, wB, mB, Nat.reduceAdd, Nat.reduceMul, List.length_cons, List.length_nil, ldB b1, clB b1, ldBL b1, clBL b1]
  refine ValS.go g1 hp (s126 (d := d + 9) g1.fresh x.kind) fun h2 s2 g2 c2 => ?_
  replace b1 := c2.box b1 (by omega)
  have l2 := c2.le
  rw [ne_mrk]
  have bad : ∀ {h' s'}, From s h h' s' → ¬ (FineT x pl ∧ ¬ LackT x) → (K (vi 2) s').wp pw Z h' := fun g hb => by
    have := hk _ _ g
    rw [if_pos (badT_yes hb)] at this; exact this
  by_cases f1 : 1 ≤ x.kind ∧ x.kind ≤ 6
  rotate_left
  · rw [decide_eq_false f1]
    try simp (disch := first | assumption | omega | (simp only [Int.ofNat_eq_natCast, neg_one]; done) | (simp only [Int.ofNat_eq_natCast, neg_one]; omega)) only [tysW, wB, mB, Nat.reduceAdd, Nat.reduceMul, List.length_cons, List.length_nil]
    rw [no67_7]
    exact bad g2 fun hh => f1 hh.1.1
  rw [decide_eq_true f1]
  try simp (disch := first | assumption | omega | (simp only [Int.ofNat_eq_natCast, neg_one]; done) | (simp only [Int.ofNat_eq_natCast, neg_one]; omega)) only [tysW, wB, mB, Nat.reduceAdd, Nat.reduceMul, List.length_cons, List.length_nil, ldB b1, clB b1, ldBL b1, clBL b1]
  refine ValS.go g2 hp (s95 (d := d + 9) g2.fresh x.sen) fun h3 s3 g3 c3 => ?_
  have l3 := c3.le
  replace b1 := c3.box b1 (by omega)
  by_cases f2 : 0 ≤ x.sen ∧ x.sen ≤ 255
  rotate_left
  · rw [decide_eq_false f2, no67_7']
    exact bad g3 fun hh => f2 hh.1.2.1
  rw [decide_eq_true f2]
  unfold X67_7
  try simp (disch := first | assumption | omega | (simp only [Int.ofNat_eq_natCast, neg_one]; done) | (simp only [Int.ofNat_eq_natCast, neg_one]; omega)) only [tysW, wB, mB, Nat.reduceAdd, Nat.reduceMul, List.length_cons, List.length_nil, ldB b1, clB b1, ldBL b1, clBL b1]
  refine ValS.go g3 hp (s96 (d := d + 9) g3.fresh x.seq) fun h4 s4 g4 c4 => ?_
  have l4 := c4.le
  replace b1 := c4.box b1 (by omega)
  by_cases f4 : 0 ≤ x.seq ∧ x.seq ≤ 2147483647
  rotate_left
  · rw [decide_eq_false f4]
    try simp (disch := first | assumption | omega | (simp only [Int.ofNat_eq_natCast, neg_one]; done) | (simp only [Int.ofNat_eq_natCast, neg_one]; omega)) only [tysW, wB, mB, Nat.reduceAdd, Nat.reduceMul, List.length_cons, List.length_nil]
    rw [no67_6]
    exact bad g4 fun hh => f4 hh.1.2.2.2.1
  rw [decide_eq_true f4]
  try simp (disch := first | assumption | omega | (simp only [Int.ofNat_eq_natCast, neg_one]; done) | (simp only [Int.ofNat_eq_natCast, neg_one]; omega)) only [tysW, wB, mB, Nat.reduceAdd, Nat.reduceMul, List.length_cons, List.length_nil, ldB b1, clB b1, ldBL b1, clBL b1]
  refine ValS.go g4 hp (s95 (d := d + 9) g4.fresh x.err) fun h5 s5 g5 c5 => ?_
  have l5 := c5.le
  replace b1 := c5.box b1 (by omega)
  by_cases f3 : 0 ≤ x.err ∧ x.err ≤ 255
  rotate_left
  · rw [decide_eq_false f3, no67_6']
    exact bad g5 fun hh => f3 hh.1.2.2.1
  rw [decide_eq_true f3]
  unfold X67_6
  by_cases f5 : (x.nn : Int) ≤ 24
  rotate_left
  · try simp (disch := first | assumption | omega | (simp only [Int.ofNat_eq_natCast, neg_one]; done) | (simp only [Int.ofNat_eq_natCast, neg_one]; omega)) only [tysW, wB, mB, Nat.reduceAdd, Nat.reduceMul, List.length_cons, List.length_nil, ldB b1, clB b1, ldBL b1, clBL b1]
    rw [no67_5]
    exact bad g5 fun hh => by have := hh.1.2.2.2.2.1; omega
  try simp (disch := first | assumption | omega | (simp only [Int.ofNat_eq_natCast, neg_one]; done) | (simp only [Int.ofNat_eq_natCast, neg_one]; omega)) only [tysW, wB, mB, Nat.reduceAdd, Nat.reduceMul, List.length_cons, List.length_nil, ldB b1, clB b1, ldBL b1, clBL b1]
  refine ValS.go g5 hp (s129 (d := d + 9) hN g5.fresh x.b (g5.row hf r) hpn) fun h6 s6 g6 c6 => ?_
  have l6 := c6.le
  replace b1 := c6.box b1 (by omega)
  cases f6 : heldB x.b.xn x.b.pn pl with
  | false =>
    rw [no67_5']
    exact bad g6 fun hh => by have := hh.1.2.2.2.2.2; rw [f6] at this; cases this
  | true =>
    have fine : FineT x pl := ⟨f1, f2, f3, f4, by omega, f6⟩
    have bad : ∀ {h' s'}, From s h h' s' → LackT x → (K (vi 2) s').wp pw Z h' := fun g hb => bad g fun hh => hh.2 hb
    have ok : ∀ {h' s'}, From s h h' s' → ¬ LackT x → (K (vi 0) s').wp pw Z h' := fun g hl => by
      have := hk _ _ g
      rw [badT_no ⟨fine, hl⟩] at this; exact this
    have t2 : (x.kind = 5 ∨ x.kind = 6 → x.sen = 0) → (x.kind = 1 → x.seq = 0) → (x.kind = 1 ∨ x.kind = 5 → x.nn = 0) → ∀ (a : Bool) (b : Value), (a = true → b = .bool false) → (X67_2 N (D N (d + 10)) K (.bool false) (ptr s) (str (mrkT x.kind)) (.bool a) b s6).wp pw Z h6 := by
      intro z1 z2 z3 a b hab
      unfold X67_2
      have e : ∀ (k : KV) (s : Nat), pickX (.bool a) b (.bool false) k s = k (.bool false) s := by
        intro k s
        cases a with
        | true => rw [hab rfl]; rfl
        | false => rfl
      try simp (disch := first | assumption | omega | (simp only [Int.ofNat_eq_natCast, neg_one]; done) | (simp only [Int.ofNat_eq_natCast, neg_one]; omega)) only [tysW, wB, mB, Nat.reduceAdd, Nat.reduceMul, List.length_cons, List.length_nil, e]
      rw [hasT_x hN (d + 9) _ _ f1]
      by_cases h5 : x.kind = 5
      · rw [decide_eq_true h5]
        try simp (disch := first | assumption | omega | (simp only [Int.ofNat_eq_natCast, neg_one]; done) | (simp only [Int.ofNat_eq_natCast, neg_one]; omega)) only [tysW, wB, mB, Nat.reduceAdd, Nat.reduceMul, List.length_cons, List.length_nil]
        unfold X67_1
        try simp (disch := first | assumption | omega | (simp only [Int.ofNat_eq_natCast, neg_one]; done) | (simp only [Int.ofNat_eq_natCast, neg_one]; omega)) only [tysW, wB, mB, Nat.reduceAdd, Nat.reduceMul, List.length_cons, List.length_nil]
        refine ok g6 ?_
        rintro (⟨a, b⟩ | ⟨a, b⟩ | ⟨a, b⟩ | ⟨a, b⟩ | ⟨a, b⟩)
        · exact a (z1 b)
        · exact a (z2 b)
        · exact a (z3 b)
        · exact b h5
        · exact b h5
      · rw [decide_eq_false h5]
        cases hex : x.ex with
        | true =>
          rw [hex] at b1
          try simp (disch := first | assumption | omega | (simp only [Int.ofNat_eq_natCast, neg_one]; done) | (simp only [Int.ofNat_eq_natCast, neg_one]; omega)) only [tysW, wB, mB, Nat.reduceAdd, Nat.reduceMul, List.length_cons, List.length_nil, ldB b1, clB b1, ldBL b1, clBL b1]
          unfold X67_1
          try simp (disch := first | assumption | omega | (simp only [Int.ofNat_eq_natCast, neg_one]; done) | (simp only [Int.ofNat_eq_natCast, neg_one]; omega)) only [tysW, wB, mB, Nat.reduceAdd, Nat.reduceMul, List.length_cons, List.length_nil]
          exact bad g6 (.inr (.inr (.inr (.inl ⟨hex, h5⟩))))
        | false =>
          rw [hex] at b1
          try simp (disch := first | assumption | omega | (simp only [Int.ofNat_eq_natCast, neg_one]; done) | (simp only [Int.ofNat_eq_natCast, neg_one]; omega)) only [tysW, wB, mB, Nat.reduceAdd, Nat.reduceMul, List.length_cons, List.length_nil, ldB b1, clB b1, ldBL b1, clBL b1]
          unfold X67_1
          try simp (disch := first | assumption | omega | (simp only [Int.ofNat_eq_natCast, neg_one]; done) | (simp only [Int.ofNat_eq_natCast, neg_one]; omega)) only [tysW, wB, mB, Nat.reduceAdd, Nat.reduceMul, List.length_cons, List.length_nil, ldB b1, clB b1, ldBL b1, clBL b1]
          refine ValS.go g6 hp (s130 (d := d + 9) g6.fresh x.b) fun h7 s7 g7 c7 => ?_
          cases hem : empB x.b with
          | false =>
            try simp (disch := first | assumption | omega | (simp only [Int.ofNat_eq_natCast, neg_one]; done) | (simp only [Int.ofNat_eq_natCast, neg_one]; omega)) only [tysW, wB, mB, Nat.reduceAdd, Nat.reduceMul, List.length_cons, List.length_nil]
            exact bad g7 (.inr (.inr (.inr (.inr ⟨hem, h5⟩))))
          | true =>
            try simp (disch := first | assumption | omega | (simp only [Int.ofNat_eq_natCast, neg_one]; done) | (simp only [Int.ofNat_eq_natCast, neg_one]; omega)) only [tysW, wB, mB, Nat.reduceAdd, Nat.reduceMul, List.length_cons, List.length_nil]
            refine ok g7 ?_
            rintro (⟨a, b⟩ | ⟨a, b⟩ | ⟨a, b⟩ | ⟨a, b⟩ | ⟨a, b⟩)
            · exact a (z1 b)
            · exact a (z2 b)
            · exact a (z3 b)
            · rw [hex] at a; cases a
            · rw [hem] at a; cases a
    have t3 : (x.kind = 5 ∨ x.kind = 6 → x.sen = 0) → (x.kind = 1 → x.seq = 0) → (X67_3 N (D N (d + 10)) K (.bool false) (ptr s) (str (mrkT x.kind)) (.bool false) s6).wp pw Z h6 := by
      intro z1 z2
      unfold X67_3
      try simp (disch := first | assumption | omega | (simp only [Int.ofNat_eq_natCast, neg_one]; done) | (simp only [Int.ofNat_eq_natCast, neg_one]; omega)) only [tysW, wB, mB, Nat.reduceAdd, Nat.reduceMul, List.length_cons, List.length_nil]
      rw [hasT_n hN (d + 9) _ _ f1]
      cases hd : decide (x.kind = 1 ∨ x.kind = 5) with
      | true =>
        have hd' := of_decide_eq_true hd
        by_cases hz : (0 : Int) < (x.nn : Int)
        · try simp (disch := first | assumption | omega | (simp only [Int.ofNat_eq_natCast, neg_one]; done) | (simp only [Int.ofNat_eq_natCast, neg_one]; omega)) only [tysW, wB, mB, Nat.reduceAdd, Nat.reduceMul, List.length_cons, List.length_nil, ldB b1, clB b1, ldBL b1, clBL b1, w_not, Bool.not_true, Bool.not_false]
          rw [bad67_2]
          exact bad g6 (.inr (.inr (.inl ⟨by omega, hd'⟩)))
        · try simp (disch := first | assumption | omega | (simp only [Int.ofNat_eq_natCast, neg_one]; done) | (simp only [Int.ofNat_eq_natCast, neg_one]; omega)) only [tysW, wB, mB, Nat.reduceAdd, Nat.reduceMul, List.length_cons, List.length_nil, ldB b1, clB b1, ldBL b1, clBL b1, w_not, Bool.not_true, Bool.not_false]
          exact t2 z1 z2 (fun _ => by omega) true _ fun _ => rfl
      | false =>
        have hd' := of_decide_eq_false hd
        try simp (disch := first | assumption | omega | (simp only [Int.ofNat_eq_natCast, neg_one]; done) | (simp only [Int.ofNat_eq_natCast, neg_one]; omega)) only [tysW, wB, mB, Nat.reduceAdd, Nat.reduceMul, List.length_cons, List.length_nil, ldB b1, clB b1, ldBL b1, clBL b1, w_not, Bool.not_true, Bool.not_false]
        exact t2 z1 z2 (fun h => absurd h hd') false _ fun h => by cases h
    have t4 : (x.kind = 5 ∨ x.kind = 6 → x.sen = 0) → (X67_4 N (D N (d + 10)) K (.bool false) (ptr s) (str (mrkT x.kind)) (.bool false) s6).wp pw Z h6 := by
      intro z1
      unfold X67_4
      try simp (disch := first | assumption | omega | (simp only [Int.ofNat_eq_natCast, neg_one]; done) | (simp only [Int.ofNat_eq_natCast, neg_one]; omega)) only [tysW, wB, mB, Nat.reduceAdd, Nat.reduceMul, List.length_cons, List.length_nil]
      rw [hasT_q hN (d + 9) _ _ f1]
      cases hd : decide (x.kind = 1) with
      | true =>
        have hd' := of_decide_eq_true hd
        by_cases hz : x.seq = 0
        · try simp (disch := first | assumption | omega | (simp only [Int.ofNat_eq_natCast, neg_one]; done) | (simp only [Int.ofNat_eq_natCast, neg_one]; omega)) only [tysW, wB, mB, Nat.reduceAdd, Nat.reduceMul, List.length_cons, List.length_nil, ldB b1, clB b1, ldBL b1, clBL b1, w_not, Bool.not_true, Bool.not_false]
          exact t3 z1 fun _ => hz
        · try simp (disch := first | assumption | omega | (simp only [Int.ofNat_eq_natCast, neg_one]; done) | (simp only [Int.ofNat_eq_natCast, neg_one]; omega)) only [tysW, wB, mB, Nat.reduceAdd, Nat.reduceMul, List.length_cons, List.length_nil, ldB b1, clB b1, ldBL b1, clBL b1, w_not, Bool.not_true, Bool.not_false]
          rw [bad67_3]
          exact bad g6 (.inr (.inl ⟨hz, hd'⟩))
      | false =>
        have hd' := of_decide_eq_false hd
        try simp (disch := first | assumption | omega | (simp only [Int.ofNat_eq_natCast, neg_one]; done) | (simp only [Int.ofNat_eq_natCast, neg_one]; omega)) only [tysW, wB, mB, Nat.reduceAdd, Nat.reduceMul, List.length_cons, List.length_nil, ldB b1, clB b1, ldBL b1, clBL b1, w_not, Bool.not_true, Bool.not_false]
        exact t3 z1 fun h => absurd h hd'
    unfold X67_5
    try simp (disch := first | assumption | omega | (simp only [Int.ofNat_eq_natCast, neg_one]; done) | (simp only [Int.ofNat_eq_natCast, neg_one]; omega)) only [tysW, wB, mB, Nat.reduceAdd, Nat.reduceMul, List.length_cons, List.length_nil]
    rw [hasT_s hN (d + 9) _ _ f1]
    cases hd : decide (x.kind = 5 ∨ x.kind = 6) with
    | true =>
      have hd' := of_decide_eq_true hd
      by_cases hz : x.sen = 0
      · try simp (disch := first | assumption | omega | (simp only [Int.ofNat_eq_natCast, neg_one]; done) | (simp only [Int.ofNat_eq_natCast, neg_one]; omega)) only [tysW, wB, mB, Nat.reduceAdd, Nat.reduceMul, List.length_cons, List.length_nil, ldB b1, clB b1, ldBL b1, clBL b1, w_not, Bool.not_true, Bool.not_false]
        exact t4 fun _ => hz
      · try simp (disch := first | assumption | omega | (simp only [Int.ofNat_eq_natCast, neg_one]; done) | (simp only [Int.ofNat_eq_natCast, neg_one]; omega)) only [tysW, wB, mB, Nat.reduceAdd, Nat.reduceMul, List.length_cons, List.length_nil, ldB b1, clB b1, ldBL b1, clBL b1, w_not, Bool.not_true, Bool.not_false]
        rw [bad67_4]
        exact bad g6 (.inl ⟨hz, hd'⟩)
    | false =>
      have hd' := of_decide_eq_false hd
      try simp (disch := first | assumption | omega | (simp only [Int.ofNat_eq_natCast, neg_one]; done) | (simp only [Int.ofNat_eq_natCast, neg_one]; omega)) only [tysW, wB, mB, Nat.reduceAdd, Nat.reduceMul, List.length_cons, List.length_nil, ldB b1, clB b1, ldBL b1, clBL b1, w_not, Bool.not_true, Bool.not_false]
      exact t4 fun h => absurd h hd'
end
end Go.Ev.R
namespace Go.Ev.R
open Go Go.RowKit
def bit (b : Bool) : Int := if b = true then 1 else 0
/-- The numbers of a square from the diagonal on, of its first rows. -/
def upM (n : Nat) (pl : List Int) : Nat → List Int
  | 0 => []
  | i + 1 => upM n pl i ++ (pl.drop (i * n + i)).take (n - i)
def up (n : Nat) (pl : List Int) : List Int := upM n pl n
def belB (b : BV) (xl pl : List Int) : List Int := be 8 b.time ++ (be 1 (bit b.flag) ++ (be 8 b.pass ++ (be 8 b.fail ++ (lis xl ++ lis (up b.xn pl)))))
theorem upM_len {n : Nat} (hn : n ≤ 6) (pl : List Int) : ∀ i, i ≤ n → (upM n pl i).length ≤ 6 * i
  | 0, _ => by simp [upM]
  | i + 1, h => by
    have := upM_len hn pl i (by omega)
    show (upM n pl i ++ _).length ≤ _
    rw [List.length_append, List.length_take]; omega
/-- How many they are. -/
def tri (n : Nat) : Nat := if n = 0 then 0 else if n = 1 then 1 else if n = 2 then 3 else if n = 3 then 6 else if n = 4 then 10 else if n = 5 then 15 else 21
theorem upM_eq {n : Nat} (pl : List Int) (hp : pl.length = n * n) : ∀ i, i ≤ n → 2 * (upM n pl i).length + i * i = 2 * (n * i) + i
  | 0, _ => by simp [upM]
  | i + 1, h => by
    have ih := upM_eq pl hp i (by omega)
    have h1 : i * n + n ≤ n * n := by rw [← Nat.succ_mul]; exact Nat.mul_le_mul h (Nat.le_refl _)
    have e : (upM n pl (i + 1)).length = (upM n pl i).length + (n - i) := by
      show (upM n pl i ++ _).length = _
      rw [List.length_append, List.length_take, List.length_drop, hp, Nat.min_eq_left (by omega)]
    rw [e, Nat.mul_succ n i, Nat.succ_mul i (i + 1), Nat.mul_succ i i]
    omega
theorem up_tri {n : Nat} (hn : n ≤ 6) {pl : List Int} (hp : pl.length = n * n) : (up n pl).length = tri n := by
  have h := upM_eq pl hp n (Nat.le_refl _)
  unfold up tri
  have hc : n = 0 ∨ n = 1 ∨ n = 2 ∨ n = 3 ∨ n = 4 ∨ n = 5 ∨ n = 6 := by omega
  generalize (upM n pl n).length = L at h ⊢
  clear hp hn
  rcases hc with rfl | rfl | rfl | rfl | rfl | rfl | rfl
  · rw [if_pos rfl]; omega
  · rw [if_neg (by decide), if_pos rfl]; omega
  · rw [if_neg (by decide), if_neg (by decide), if_pos rfl]; omega
  · rw [if_neg (by decide), if_neg (by decide), if_neg (by decide), if_pos rfl]; omega
  · rw [if_neg (by decide), if_neg (by decide), if_neg (by decide), if_neg (by decide), if_pos rfl]; omega
  · rw [if_neg (by decide), if_neg (by decide), if_neg (by decide), if_neg (by decide), if_neg (by decide), if_pos rfl]; omega
  · rw [if_neg (by decide), if_neg (by decide), if_neg (by decide), if_neg (by decide), if_neg (by decide), if_neg (by decide)]; omega
theorem tri_le (n : Nat) : tri n ≤ 21 := by
  unfold tri
  split
  · omega
  split
  · omega
  split
  · omega
  split
  · omega
  split
  · omega
  split <;> omega
section
variable {N d : Nat} (hN : 100000 ≤ N) {h0 h : T} {s0 s t : Nat} {K : KV} {pw : Nat → Prop} {Z : Value → T → Prop} (g : From s0 h0 h s) (hp : ∀ n, s0 ≤ n → pw n) {wb : Nat} (hwb : s0 ≤ wb) {p : Option Addr} {len : Nat} {b : List Int} (hw : h.get wb = some (.cells ⟨[.slice p len len, .bool false]⟩ 111 (0, 0))) (r : Sl EB h p len len b)
include hN g hp hwb hw r
theorem s86l {w : Nat} (hW : isW w) {q : Option Addr} {n c : Nat} {l : List Int} (r2 : Row EI h q n l) (hn : l.all (fitsW w) = true) (hn1 : n ≤ 1000) (hl : len ≤ 40000) (hk : ∀ p' h' s', From s0 h0 h' s' → s ≤ s' → h'.get wb = some (.cells ⟨[.slice p' (len + n * w) (len + n * w), .bool false]⟩ 111 (0, 0)) → OwnG EB 5 h' s p' (len + n * w) (b ++ bys w l) → (∀ i, i < s → i ≠ wb → h'.get i = h.get i) → (K (.tuple ⟨[]⟩) s').wp pw Z h') :
    (D N (d + 3) 86 [ptr wb, vi w, .slice q n c] K s).wp pw Z h := by
  have hws := lt_of_some g.fresh ⟨_, hw⟩
  rw [D_86]; unfold F86; rw [app3_eq]
  unfold X86_1
  try simp (disch := first | assumption | omega | (simp only [Int.ofNat_eq_natCast, neg_one]; done) | (simp only [Int.ofNat_eq_natCast, neg_one]; omega)) only [tysW, wB, mB, Nat.reduceAdd, Nat.reduceMul, List.length_cons, List.length_nil, ldB hw, clB hw, ldBL hw, clBL hw]
  refine PureS.go g hp (s141 (d := d) hN g.fresh hW r r2 (by omega) hn1) fun v h1 s1 g1 c1 hv => ?_
  have l1 := c1.le
  rw [if_pos hn] at hv
  obtain ⟨p', rfl, o⟩ := hv
  have hw1 := c1.box hw hws
  try simp (disch := first | assumption | omega | (simp only [Int.ofNat_eq_natCast, neg_one]; done) | (simp only [Int.ofNat_eq_natCast, neg_one]; omega)) only [tysW, wB, mB, Nat.reduceAdd, Nat.reduceMul, List.length_cons, List.length_nil, ldB hw1, clB hw1, ldBL hw1, clBL hw1, ne35, decide_true]
  refine wp_putF g1 hp hw1 hwb (by simp) rfl fun h2 g2 b2 e2 => ?_
  simp only [overL] at b2
  try simp (disch := first | assumption | omega | (simp only [Int.ofNat_eq_natCast, neg_one]; done) | (simp only [Int.ofNat_eq_natCast, neg_one]; omega)) only [tysW, wB, mB, Nat.reduceAdd, Nat.reduceMul, List.length_cons, List.length_nil, ldB b2, clB b2, ldBL b2, clBL b2]
  refine wp_putF g2 hp b2 hwb (by simp) rfl fun h3 g3 b3 e3 => ?_
  simp only [overL] at b3
  refine hk p' h3 s1 g3 l1 b3 ?_ ?_
  · exact o.but fun hc => by have := o.lt g1.fresh hc; rw [e3 _ (by omega), e2 _ (by omega)]
  · intro i h4 h5
    rw [e3 i h5, e2 i h5, c1.keep i h4]
end
section
variable {N d : Nat} {h : T} {s : Nat} (hf : ∀ n, s ≤ n → h.get n = none)
include hf
theorem s124 (b : Bool) : ValS (D N (d + 1)) 124 [.bool b] h s (vi (bit b)) := by
  refine ValS.of hf fun K pw Z g hp hk => ?_
  have hk := hk _ _ g
  rw [D_124]; unfold F124; rw [app1_eq]
  cases b with
  | true => try simp (disch := first | assumption | omega | (simp only [Int.ofNat_eq_natCast, neg_one]; done) | (simp only [Int.ofNat_eq_natCast, neg_one]; omega)) only [tysW, wB, mB, Nat.reduceAdd, Nat.reduceMul, List.length_cons, List.length_nil]; exact hk
  | false => try simp (disch := first | assumption | omega | (simp only [Int.ofNat_eq_natCast, neg_one]; done) | (simp only [Int.ofNat_eq_natCast, neg_one]; omega)) only [tysW, wB, mB, Nat.reduceAdd, Nat.reduceMul, List.length_cons, List.length_nil]; exact hk
theorem s128 (b : Bool) : ValS (D N (d + 1)) 128 [.bool b] h s (vi (bit b)) := by
  refine ValS.of hf fun K pw Z g hp hk => ?_
  have hk := hk _ _ g
  rw [D_128]; unfold F128; rw [app1_eq]
  cases b with
  | true => try simp (disch := first | assumption | omega | (simp only [Int.ofNat_eq_natCast, neg_one]; done) | (simp only [Int.ofNat_eq_natCast, neg_one]; omega)) only [tysW, wB, mB, Nat.reduceAdd, Nat.reduceMul, List.length_cons, List.length_nil]; exact hk
  | false => try simp (disch := first | assumption | omega | (simp only [Int.ofNat_eq_natCast, neg_one]; done) | (simp only [Int.ofNat_eq_natCast, neg_one]; omega)) only [tysW, wB, mB, Nat.reduceAdd, Nat.reduceMul, List.length_cons, List.length_nil]; exact hk
end
theorem bit_fits (b : Bool) : fitsW 1 (bit b) = true := by cases b <;> rfl
section
variable {N d : Nat} (hN : N = 100000) {h : T} {s : Nat} (hf : ∀ n, s ≤ n → h.get n = none)
include hN hf
theorem s162 (b : BV) {pl : List Int} (r : Sl EI h b.pp b.pn b.pc pl) (h6 : b.xn ≤ 6) (hp : b.pn = b.xn * b.xn) : PureS (D N (d + 1)) 162 [.agg ⟨bvv b⟩] h s (fun v h' s' => ∃ p, v = .slice p (up b.xn pl).length (up b.xn pl).length ∧ OwnG EI 3 h' s p (up b.xn pl).length (up b.xn pl)) := by
  refine PureS.of hf fun K pw Z g hp' hk => ?_
  rw [D_162]; unfold F162; rw [app1_eq]
  refine wp_boxA g hp' fun h1 g1 c1 b1 => ?_
  simp only [bvv] at b1
  have hsq : b.xn * b.xn ≤ 36 := by
    calc b.xn * b.xn ≤ 6 * 6 := Nat.mul_le_mul h6 h6
    _ = 36 := rfl
  have hlen := r.row.1
  have hle := r.le
  try simp (disch := first | assumption | omega | (simp only [Int.ofNat_eq_natCast, neg_one]; done) | (simp only [Int.ofNat_eq_natCast, neg_one]; omega)) only [tysW, wB, mB, Nat.reduceAdd, Nat.reduceMul, List.length_cons, List.length_nil, ldB b1, clB b1, ldBL b1, clBL b1]
  have loop : ∀ (J : Value → Nat → AM) (hJ : ∀ v s', J v s' = K v s') (B : (Value → Value → Nat → AM) → Value → Value → Nat → AM) (hB : ∀ H u v s', B H u v s' = X162_1 N (D N d) K (vi b.xn) (ptr s) J H u v s') (m i : Nat) (p1 : Option Addr) (h2 : T) (s2 : Nat), b.xn - i < m → i ≤ b.xn → From s h h2 s2 → s + 1 ≤ s2 → h2.get s = h1.get s → OwnG EI 3 h2 (s + 1) p1 (upM b.xn pl i).length (upM b.xn pl i) →
      (loopJ m 2 (fun _ _ _ => AM.fail) B (.slice p1 (upM b.xn pl i).length (upM b.xn pl i).length) (vi i) s2).wp pw Z h2 := by
    intro J hJ B hB m
    induction m with
    | zero => intro i p1 h2 s2 hm; omega
    | succ m ih =>
      intro i p1 h2 s2 hm hi g2 hs2 e2 o2
      have r2 := r.from hf g2
      have bx := e2.trans b1
      rw [loopJ_succ, hB]
      unfold X162_1
      by_cases hlt : i < b.xn
      · have hi36 : i * b.xn + b.xn ≤ b.xn * b.xn := by rw [← Nat.succ_mul]; exact Nat.mul_le_mul hlt (Nat.le_refl _)
        have hul := upM_len h6 pl i hi
        try simp (disch := first | assumption | omega | (simp only [Int.ofNat_eq_natCast, neg_one]; done) | (simp only [Int.ofNat_eq_natCast, neg_one]; omega)) only [tysW, wB, mB, Nat.reduceAdd, Nat.reduceMul, List.length_cons, List.length_nil, ldB bx, clB bx, ldBL bx, clBL bx, mulN _ _ _ _ (show i * b.xn ≤ 1000000 by omega), addN _ _ _ _ (show i * b.xn + i ≤ 1000000 by omega), addN _ _ _ _ (show i * b.xn + b.xn ≤ 1000000 by omega)]
        refine r2.cut (ab_mid (by omega) (by omega) .i64 .i64) (by omega) (by omega) (by omega) (Nat.le_refl _) fun p3 r3 k3 => ?_
        rw [show i * b.xn + b.xn - (i * b.xn + i) = b.xn - i by omega] at r3 ⊢
        try simp (disch := first | assumption | omega | (simp only [Int.ofNat_eq_natCast, neg_one]; done) | (simp only [Int.ofNat_eq_natCast, neg_one]; omega)) only [tysW, wB, mB, Nat.reduceAdd, Nat.reduceMul, List.length_cons, List.length_nil]
        refine apG (E := EI) (t := s + 1) g2 hp' o2 (by omega) hs2 r3.row (fun _ => rfl) (by omega) fun p4 h4 s4 g4 l4 o4 e4 => ?_
        try simp (disch := first | assumption | omega | (simp only [Int.ofNat_eq_natCast, neg_one]; done) | (simp only [Int.ofNat_eq_natCast, neg_one]; omega)) only [tysW, wB, mB, Nat.reduceAdd, Nat.reduceMul, List.length_cons, List.length_nil]
        have e : upM b.xn pl (i + 1) = upM b.xn pl i ++ (pl.drop (i * b.xn + i)).take (b.xn - i) := rfl
        have el : (upM b.xn pl (i + 1)).length = (upM b.xn pl i).length + (b.xn - i) := by rw [e, List.length_append, r3.row.1]
        rw [← e, ← el] at o4
        rw [← el]
        refine ih (i + 1) p4 h4 s4 (by omega) (by omega) g4 (by omega) ((e4 s (by omega) fun hp => by have := (o2.lt g2.fresh hp).1; omega).trans e2) o4
      · obtain rfl : i = b.xn := by omega
        try simp (disch := first | assumption | omega | (simp only [Int.ofNat_eq_natCast, neg_one]; done) | (simp only [Int.ofNat_eq_natCast, neg_one]; omega)) only [tysW, wB, mB, Nat.reduceAdd, Nat.reduceMul, List.length_cons, List.length_nil]
        rw [hJ]
        exact hk _ _ _ g2 ⟨p1, rfl, o2.less (by omega)⟩
  exact loop _ (fun _ _ => rfl) _ (fun _ _ _ _ => rfl) N 0 none h1 (s + 1) (by omega) (by omega) g1 (Nat.le_refl _) rfl .nil
theorem s127 (b : BV) {xl pl : List Int} (rx : Row EI h b.xp b.xn xl) (r : Sl EI h b.pp b.pn b.pc pl) (h6 : b.xn ≤ 6) (hpn : b.pn = b.xn * b.xn) {p : Option Addr} {len cap : Nat} {bs : List Int} (rb : Sl EB h p len cap bs) (hl : len ≤ 10000) : PureS (D N (d + 5)) 127 [.slice p len cap, .agg ⟨bvv b⟩] h s (fun v h' s' => ∃ p' len', v = .slice p' len' len' ∧ OwnG EB 5 h' s p' len' (bs ++ belB b xl pl) ∧ len' ≤ len + 500) := by
  refine PureS.of hf fun K pw Z g hp hk => ?_
  rw [D_127]; unfold F127; rw [app2_eq]
  unfold X127_1
  refine wp_boxA g hp fun h1 g1 c1 b1 => ?_
  simp only [bvv] at b1
  try simp (disch := first | assumption | omega | (simp only [Int.ofNat_eq_natCast, neg_one]; done) | (simp only [Int.ofNat_eq_natCast, neg_one]; omega)) only [tysW, wB, mB, Nat.reduceAdd, Nat.reduceMul, List.length_cons, List.length_nil, ldB b1, clB b1, ldBL b1, clBL b1]
  refine PureS.go g1 hp (s89 (w := 8) (d := d + 1) (by omega) g1.fresh (.inr (.inr (.inr rfl))) (rb.from hf g1) (by omega) b.time (by simp [fitsW])) fun v h2 s2 g2 c2 hv => ?_
  obtain ⟨p2, rfl, o2⟩ := hv
  have l2 := c2.le
  replace b1 := c2.box b1 (by omega)
  try simp (disch := first | assumption | omega | (simp only [Int.ofNat_eq_natCast, neg_one]; done) | (simp only [Int.ofNat_eq_natCast, neg_one]; omega)) only [tysW, wB, mB, Nat.reduceAdd, Nat.reduceMul, List.length_cons, List.length_nil, ldB b1, clB b1, ldBL b1, clBL b1]
  refine ValS.go g2 hp (s128 (d := d + 3) g2.fresh b.flag) fun h3 s3 g3 c3 => ?_
  have l3 := c3.le
  replace b1 := c3.box b1 (by omega)
  replace o2 := o2.from g2.fresh c3
  refine PureS.go g3 hp (s89 (w := 1) (d := d + 1) (by omega) g3.fresh (.inl rfl) o2.sl (by omega) _ (bit_fits b.flag)) fun v h4 s4 g4 c4 hv => ?_
  obtain ⟨p4, rfl, o4⟩ := hv
  have l4 := c4.le
  replace b1 := c4.box b1 (by omega)
  try simp (disch := first | assumption | omega | (simp only [Int.ofNat_eq_natCast, neg_one]; done) | (simp only [Int.ofNat_eq_natCast, neg_one]; omega)) only [tysW, wB, mB, Nat.reduceAdd, Nat.reduceMul, List.length_cons, List.length_nil, ldB b1, clB b1, ldBL b1, clBL b1]
  refine PureS.go g4 hp (s89 (w := 8) (d := d + 1) (by omega) g4.fresh (.inr (.inr (.inr rfl))) o4.sl (by omega) b.pass (by simp [fitsW])) fun v h5 s5 g5 c5 hv => ?_
  obtain ⟨p5, rfl, o5⟩ := hv
  have l5 := c5.le
  replace b1 := c5.box b1 (by omega)
  try simp (disch := first | assumption | omega | (simp only [Int.ofNat_eq_natCast, neg_one]; done) | (simp only [Int.ofNat_eq_natCast, neg_one]; omega)) only [tysW, wB, mB, Nat.reduceAdd, Nat.reduceMul, List.length_cons, List.length_nil, ldB b1, clB b1, ldBL b1, clBL b1]
  refine PureS.go g5 hp (s89 (w := 8) (d := d + 1) (by omega) g5.fresh (.inr (.inr (.inr rfl))) o5.sl (by omega) b.fail (by simp [fitsW])) fun v h6' s6 g6 c6 hv => ?_
  obtain ⟨p6, rfl, o6⟩ := hv
  have l6 := c6.le
  replace b1 := c6.box b1 (by omega)
  try simp (disch := first | assumption | omega | (simp only [Int.ofNat_eq_natCast, neg_one]; done) | (simp only [Int.ofNat_eq_natCast, neg_one]; omega)) only [tysW, wB, mB, Nat.reduceAdd, Nat.reduceMul, List.length_cons, List.length_nil, ldB b1, clB b1, ldBL b1, clBL b1]
  refine PureS.go g6 hp (s91 (d := d + 1) (by omega) g6.fresh o6.sl (g6.row hf rx) (by omega) (by omega)) fun v h7 s7 g7 c7 hv => ?_
  rw [if_pos (by omega)] at hv
  obtain ⟨p7, rfl, o7⟩ := hv
  have l7 := c7.le
  replace b1 := c7.box b1 (by omega)
  try simp (disch := first | assumption | omega | (simp only [Int.ofNat_eq_natCast, neg_one]; done) | (simp only [Int.ofNat_eq_natCast, neg_one]; omega)) only [tysW, wB, mB, Nat.reduceAdd, Nat.reduceMul, List.length_cons, List.length_nil, ldB b1, clB b1, ldBL b1, clBL b1]
  refine PureS.go g7 hp (s162 (d := d + 3) hN g7.fresh b (r.from hf g7) h6 hpn) fun v h8 s8 g8 c8 hv => ?_
  obtain ⟨p8, rfl, o8⟩ := hv
  have l8 := c8.le
  have hlen : pl.length = b.xn * b.xn := by rw [r.row.1, hpn]
  have hu : (up b.xn pl).length ≤ 21 := by rw [up_tri h6 hlen]; exact tri_le _
  replace o7 := o7.from g7.fresh c8
  refine PureS.go g8 hp (s91 (d := d + 1) (by omega) g8.fresh o7.sl o8.sl.row (by omega) (by omega)) fun v h9 s9 g9 c9 hv => ?_
  rw [if_pos (by omega)] at hv
  obtain ⟨p9, rfl, o9⟩ := hv
  have l9 := c9.le
  try simp (disch := first | assumption | omega | (simp only [Int.ofNat_eq_natCast, neg_one]; done) | (simp only [Int.ofNat_eq_natCast, neg_one]; omega)) only [tysW, wB, mB, Nat.reduceAdd, Nat.reduceMul, List.length_cons, List.length_nil]
  refine hk _ _ _ g9 ⟨p9, _, rfl, ?_, by omega⟩
  unfold belB
  simp only [List.append_assoc] at o9
  exact o9.less (by omega)
end
end Go.Ev.R
namespace Go.Ev.R
open Go Go.RowKit
section
variable {N d : Nat} (hN : N = 100000) {h0 h : T} {s0 s : Nat} {K : KV} {pw : Nat → Prop} {Z : Value → T → Prop} (g : From s0 h0 h s) (hp : ∀ n, s0 ≤ n → pw n) {wb : Nat} (hwb : s0 ≤ wb) {p : Option Addr} {len : Nat} {bs : List Int} (hw : h.get wb = some (.cells ⟨[.slice p len len, .bool false]⟩ 111 (0, 0))) (r : Sl EB h p len len bs)
include hN g hp hwb hw r
theorem s125 (hf0 : ∀ n, s0 ≤ n → h0.get n = none) (b : BV) {xl pl : List Int} (rx : Row EI h0 b.xp b.xn xl) (rp : Sl EI h0 b.pp b.pn b.pc pl) (h6 : b.xn ≤ 6) (hpn : b.pn = b.xn * b.xn) (hl : len ≤ 10000)
    (hk : ∀ p' len' h' s', From s0 h0 h' s' → s ≤ s' → h'.get wb = some (.cells ⟨[.slice p' len' len', .bool false]⟩ 111 (0, 0)) → OwnG EB 5 h' s p' len' (bs ++ belB b xl pl) → len' ≤ len + 500 → (∀ i, i < s → i ≠ wb → h'.get i = h.get i) → (K (.tuple ⟨[]⟩) s').wp pw Z h') :
    (D N (d + 5) 125 [ptr wb, .agg ⟨bvv b⟩] K s).wp pw Z h := by
  have hws := lt_of_some g.fresh ⟨_, hw⟩
  have hN' : 100000 ≤ N := by omega
  rw [D_125]; unfold F125; rw [app2_eq]
  unfold X125_2
  refine wp_boxA g hp fun h1 g1 c1 b1 => ?_
  simp only [bvv] at b1
  have w1 := c1.box hw hws
  try simp (disch := first | assumption | omega | (simp only [Int.ofNat_eq_natCast, neg_one]; done) | (simp only [Int.ofNat_eq_natCast, neg_one]; omega)) only [tysW, wB, mB, Nat.reduceAdd, Nat.reduceMul, List.length_cons, List.length_nil, ldB b1, clB b1, ldBL b1, clBL b1]
  refine wp_newF g1 hp fun h2 g2 c2' b2 => ?_
  replace b1 := c2'.box b1 (by omega)
  have w2 := c2'.box w1 (by omega)
  try simp (disch := first | assumption | omega | (simp only [Int.ofNat_eq_natCast, neg_one]; done) | (simp only [Int.ofNat_eq_natCast, neg_one]; omega)) only [tysW, wB, mB, Nat.reduceAdd, Nat.reduceMul, List.length_cons, List.length_nil]
  refine s86 (w := 8) (d := d + 1) hN' g2 hp hwb w2 (r.from g.fresh (c1.trans c2')) (.inr (.inr (.inr rfl))) (Row.of_cells (E := EI) (l := [b.time]) b2 rfl) (by simp [fitsW]) (by omega) fun p3 h3 s3 g3 l3 w3 o3 e3 => ?_
  replace b1 := (e3 s (by omega) (by omega)).trans b1
  try simp (disch := first | assumption | omega | (simp only [Int.ofNat_eq_natCast, neg_one]; done) | (simp only [Int.ofNat_eq_natCast, neg_one]; omega)) only [tysW, wB, mB, Nat.reduceAdd, Nat.reduceMul, List.length_cons, List.length_nil, ldB b1, clB b1, ldBL b1, clBL b1]
  refine ValS.go g3 hp (s124 (d := d + 3) g3.fresh b.flag) fun h4 s4 g4 c4 => ?_
  have l4 := c4.le
  replace b1 := c4.box b1 (by omega)
  replace w3 := c4.box w3 (by omega)
  replace o3 := o3.from g3.fresh c4
  try simp (disch := first | assumption | omega | (simp only [Int.ofNat_eq_natCast, neg_one]; done) | (simp only [Int.ofNat_eq_natCast, neg_one]; omega)) only [tysW, wB, mB, Nat.reduceAdd, Nat.reduceMul, List.length_cons, List.length_nil]
  refine wp_newF g4 hp fun h5 g5 c5 b5 => ?_
  replace b1 := c5.box b1 (by omega)
  replace w3 := c5.box w3 (by omega)
  replace o3 := o3.from g4.fresh c5
  try simp (disch := first | assumption | omega | (simp only [Int.ofNat_eq_natCast, neg_one]; done) | (simp only [Int.ofNat_eq_natCast, neg_one]; omega)) only [tysW, wB, mB, Nat.reduceAdd, Nat.reduceMul, List.length_cons, List.length_nil]
  refine s86 (w := 1) (d := d + 1) hN' g5 hp hwb w3 o3.sl (.inl rfl) (Row.of_cells (E := EI) (l := [bit b.flag]) b5 rfl) (bit_fits _) (by omega) fun p6 h6' s6 g6 l6 w6 o6 e6 => ?_
  replace b1 := (e6 s (by omega) (by omega)).trans b1
  try simp (disch := first | assumption | omega | (simp only [Int.ofNat_eq_natCast, neg_one]; done) | (simp only [Int.ofNat_eq_natCast, neg_one]; omega)) only [tysW, wB, mB, Nat.reduceAdd, Nat.reduceMul, List.length_cons, List.length_nil, ldB b1, clB b1, ldBL b1, clBL b1]
  refine wp_newF g6 hp fun h7 g7 c7 b7 => ?_
  replace b1 := c7.box b1 (by omega)
  have w7 := c7.box w6 (by omega)
  have o7 := o6.from g6.fresh c7
  try simp (disch := first | assumption | omega | (simp only [Int.ofNat_eq_natCast, neg_one]; done) | (simp only [Int.ofNat_eq_natCast, neg_one]; omega)) only [tysW, wB, mB, Nat.reduceAdd, Nat.reduceMul, List.length_cons, List.length_nil]
  refine s86l (w := 8) (d := d + 1) hN' g7 hp hwb w7 o7.sl (.inr (.inr (.inr rfl))) (Row.of_cells (E := EI) (l := [b.pass, b.fail]) b7 rfl) (by simp [fitsW]) (by omega) (by omega) fun p8 h8 s8 g8 l8 w8 o8 e8 => ?_
  replace b1 := (e8 s (by omega) (by omega)).trans b1
  try simp (disch := first | assumption | omega | (simp only [Int.ofNat_eq_natCast, neg_one]; done) | (simp only [Int.ofNat_eq_natCast, neg_one]; omega)) only [tysW, wB, mB, Nat.reduceAdd, Nat.reduceMul, List.length_cons, List.length_nil, ldB b1, clB b1, ldBL b1, clBL b1]
  refine s88 (d := d) hN' g8 hp hwb w8 o8.sl (g8.row hf0 rx) (by omega) (by omega) fun p9 h9 s9 g9 l9 w9 o9 e9 => ?_
  replace b1 := (e9 s (by omega) (by omega)).trans b1
  try simp (disch := first | assumption | omega | (simp only [Int.ofNat_eq_natCast, neg_one]; done) | (simp only [Int.ofNat_eq_natCast, neg_one]; omega)) only [tysW, wB, mB, Nat.reduceAdd, Nat.reduceMul, List.length_cons, List.length_nil, ldB b1, clB b1, ldBL b1, clBL b1]
  have hsq : b.xn * b.xn ≤ 36 := by
    calc b.xn * b.xn ≤ 6 * 6 := Nat.mul_le_mul h6 h6
    _ = 36 := rfl
  have hlen := rp.row.1
  have hle := rp.le
  have hul := up_tri h6 (show pl.length = b.xn * b.xn by omega)
  have htr := tri_le b.xn
  have l19 : s + 1 ≤ s9 := by omega
  obtain ⟨L, hL⟩ : ∃ L, L = len + 8 + 1 + 2 * 8 + (1 + b.xn * 8) := ⟨_, rfl⟩
  rw [← hL] at w9 o9
  have loop : ∀ (J : Value → Nat → AM) (hJ : ∀ v s', J v s' = D N (d + 4) 88 [ptr wb, v] (fun _ s => K (.tuple ⟨[]⟩) s) s') (B : (Value → Value → Nat → AM) → Value → Value → Nat → AM) (hB : ∀ H u v s', B H u v s' = X125_1 N (D N (d + 4)) K (vi b.xn) (ptr s) J H u v s') (m i : Nat) (p1 : Option Addr) (h2 : T) (s2 : Nat), b.xn - i < m → i ≤ b.xn → From s0 h0 h2 s2 → From s9 h9 h2 s2 → OwnG EI 3 h2 s9 p1 (upM b.xn pl i).length (upM b.xn pl i) →
      (loopJ m 2 (fun _ _ _ => AM.fail) B (.slice p1 (upM b.xn pl i).length (upM b.xn pl i).length) (vi i) s2).wp pw Z h2 := by
    intro J hJ B hB m
    induction m with
    | zero => intro i p1 h2 s2 hm; omega
    | succ m ih =>
      intro i p1 h2 s2 hm hi g2 c2 o2
      have l2 := c2.le
      have r2 := rp.from hf0 g2
      have bx := c2.box b1 (by omega)
      rw [loopJ_succ, hB]
      unfold X125_1
      by_cases hlt : i < b.xn
      · have hi36 : i * b.xn + b.xn ≤ b.xn * b.xn := by rw [← Nat.succ_mul]; exact Nat.mul_le_mul hlt (Nat.le_refl _)
        have hul := upM_len h6 pl i hi
        try simp (disch := first | assumption | omega | (simp only [Int.ofNat_eq_natCast, neg_one]; done) | (simp only [Int.ofNat_eq_natCast, neg_one]; omega)) only [tysW, wB, mB, Nat.reduceAdd, Nat.reduceMul, List.length_cons, List.length_nil, ldB bx, clB bx, ldBL bx, clBL bx, mulN _ _ _ _ (show i * b.xn ≤ 1000000 by omega), addN _ _ _ _ (show i * b.xn + i ≤ 1000000 by omega), addN _ _ _ _ (show i * b.xn + b.xn ≤ 1000000 by omega)]
        refine r2.cut (ab_mid (by omega) (by omega) .i64 .i64) (by omega) (by omega) (by omega) (Nat.le_refl _) fun p3 r3 k3 => ?_
        rw [show i * b.xn + b.xn - (i * b.xn + i) = b.xn - i by omega] at r3 ⊢
        try simp (disch := first | assumption | omega | (simp only [Int.ofNat_eq_natCast, neg_one]; done) | (simp only [Int.ofNat_eq_natCast, neg_one]; omega)) only [tysW, wB, mB, Nat.reduceAdd, Nat.reduceMul, List.length_cons, List.length_nil]
        refine apG (E := EI) (h0 := h9) (s0 := s9) (t := s9) c2 (fun n hn => hp n (by omega)) o2 (Nat.le_refl _) l2 r3.row (fun _ => rfl) (by omega) fun p4 h4 s4 c4 l4 o4 e4 => ?_
        try simp (disch := first | assumption | omega | (simp only [Int.ofNat_eq_natCast, neg_one]; done) | (simp only [Int.ofNat_eq_natCast, neg_one]; omega)) only [tysW, wB, mB, Nat.reduceAdd, Nat.reduceMul, List.length_cons, List.length_nil]
        have e : upM b.xn pl (i + 1) = upM b.xn pl i ++ (pl.drop (i * b.xn + i)).take (b.xn - i) := rfl
        have el : (upM b.xn pl (i + 1)).length = (upM b.xn pl i).length + (b.xn - i) := by rw [e, List.length_append, r3.row.1]
        rw [← e, ← el] at o4
        rw [← el]
        exact ih (i + 1) p4 h4 s4 (by omega) (by omega) (g9.trans c4) c4 o4
      · obtain rfl : i = b.xn := by omega
        try simp (disch := first | assumption | omega | (simp only [Int.ofNat_eq_natCast, neg_one]; done) | (simp only [Int.ofNat_eq_natCast, neg_one]; omega)) only [tysW, wB, mB, Nat.reduceAdd, Nat.reduceMul, List.length_cons, List.length_nil]
        rw [hJ]
        have w2 := c2.box w9 (by omega)
        refine s88 (d := d) hN' g2 hp hwb w2 (o9.from g9.fresh c2).sl o2.sl.row (by show (up b.xn pl).length ≤ 24; omega) (by omega) fun p5 h5 s5 g5 l5 w5 o5 e5 => ?_
        refine hk p5 _ h5 s5 g5 (by omega) w5 ?_ (by show L + (1 + (up b.xn pl).length * 8) ≤ _; omega) fun i h7 h8 => ?_
        · have o5' := o5.less (show s ≤ s2 by omega)
          unfold belB
          have eb : bys 8 [b.pass, b.fail] = be 8 b.pass ++ be 8 b.fail := by simp [bys]
          rw [eb] at o5'
          simp only [List.append_assoc] at o5'
          exact o5'
        · rw [e5 i (by omega) h8, c2.keep i (by omega), e9 i (by omega) h8, e8 i (by omega) h8, c7.keep i (by omega), e6 i (by omega) h8, c5.keep i (by omega), c4.keep i (by omega), e3 i (by omega) h8, c2'.keep i (by omega), c1.keep i h7]
  exact loop _ (fun _ _ => rfl) _ (fun _ _ _ _ => rfl) N 0 none h9 s9 (by omega) (by omega) g9 (From.refl g9.fresh) .nil
end
end Go.Ev.R
namespace Go.Ev.R
open Go Go.RowKit
def letP (x : TV) (nl xl pl : List Int) (c : UInt8) : List Int := if c = 115 then be 1 x.sen else if c = 113 then be 4 x.seq else if c = 101 then be 1 x.err else if c = 110 then lis nl else if c = 120 then be 1 (bit x.ex) else belB x.b xl pl
def letR (x : TV) (nl xl pl : List Int) (c : UInt8) : List Int := if c = 115 then be 1 x.sen else if c = 113 then be 4 x.seq else if c = 101 then be 1 x.err else if c = 110 then lis nl else be 1 (bit x.ex) ++ belB x.b xl pl
def encT (x : TV) (nl xl pl : List Int) : List Int := be 1 x.kind ++ (telT x.kind).flatMap (letP x nl xl pl)
theorem tel_mrk (x : TV) (nl xl pl : List Int) (k : Int) : (mrkT k).flatMap (letR x nl xl pl) = (telT k).flatMap (letP x nl xl pl) := by
  by_cases hk : 1 ≤ k ∧ k ≤ 6
  · rcases kinds6 hk with rfl | rfl | rfl | rfl | rfl | rfl <;> simp [telT, mrkT, letP, letR]
  · rw [mrkT_no hk]
    unfold telT
    rw [if_neg (by omega), if_neg (by omega), if_neg (by omega), if_neg (by omega), if_neg (by omega), if_neg (by omega)]
    rfl
noncomputable def bytesT (x : TV) (nl xl pl : List Int) : List Int := if badT x pl = true then [] else encT x nl xl pl
noncomputable def errT (x : TV) (pl : List Int) : Int := if badT x pl = true then 2 else 0
/-- The telling's lists, in a heap. -/
structure ListsT (h : T) (x : TV) (nl xl pl : List Int) : Prop where
  n : Row EI h x.np x.nn nl
  y : Row EI h x.b.xp x.b.xn xl
  p : Sl EI h x.b.pp x.b.pn x.b.pc pl
theorem ListsT.from {h h' : T} {s0 s : Nat} {x : TV} {nl xl pl : List Int} (r : ListsT h x nl xl pl) (hf : ∀ n, s0 ≤ n → h.get n = none) (g : From s0 h h' s) : ListsT h' x nl xl pl := ⟨g.row hf r.n, g.row hf r.y, r.p.from hf g⟩
section
variable {N d : Nat} (hN : N = 100000) {h : T} {s : Nat} (hf : ∀ n, s ≤ n → h.get n = none)
include hN hf
theorem s65 (x : TV) {nl xl pl : List Int} (r : ListsT h x nl xl pl) (hpn : x.b.pn ≤ 1000) (hxn : x.b.xn ≤ 1000) : PureS (D N (d + 12)) 65 [.agg ⟨tvv x⟩] h s (fun v h' s' => ∃ p' len, v = .tuple ⟨[.slice p' len len, vi (errT x pl)]⟩ ∧ OwnG EB 5 h' s p' len (bytesT x nl xl pl) ∧ len ≤ 5000) := by
  refine PureS.of hf fun K pw Z g hp hk => ?_
  rw [D_65]; unfold F65; rw [app1_eq]
  unfold X65_3
  refine wp_boxA g hp fun h1 g1 c1 b1 => ?_
  simp only [tvv] at b1
  try simp (disch := first | assumption | omega | (simp only [Int.ofNat_eq_natCast, neg_one]; done) | (simp only [Int.ofNat_eq_natCast, neg_one]; omega)) only [tysW, wB, mB, Nat.reduceAdd, Nat.reduceMul, List.length_cons, List.length_nil, ldB b1, clB b1, ldBL b1, clBL b1]
  refine ValS.go g1 hp (s36 (d := d) hN g1.fresh x (r.p.from hf g1).row hpn hxn) fun h2 s2 g2 c2 => ?_
  have l2 := c2.le
  replace b1 := c2.box b1 (by omega)
  cases hbad : badT x pl with
  | true =>
    try simp (disch := first | assumption | omega | (simp only [Int.ofNat_eq_natCast, neg_one]; done) | (simp only [Int.ofNat_eq_natCast, neg_one]; omega)) only [tysW, wB, mB, Nat.reduceAdd, Nat.reduceMul, List.length_cons, List.length_nil, if_true]
    refine hk _ _ _ g2 ?_
    unfold errT bytesT
    rw [hbad]
    exact ⟨none, 0, rfl, .nil, by omega⟩
  | false =>
    have hk : ∀ p' len h' s', From s h h' s' → OwnG EB 5 h' s p' len (encT x nl xl pl) → len ≤ 5000 → (K (.tuple ⟨[.slice p' len len, i64 0]⟩) s').wp pw Z h' := fun p' len h' s' g' o hl => hk _ _ _ g' (by unfold errT bytesT; rw [hbad]; exact ⟨p', len, rfl, o, hl⟩)
    obtain ⟨⟨q1, q2, q3, q4, q5, q6⟩, -⟩ := badT_fine hbad
    obtain ⟨q7, q8, -⟩ := held_iff.1 q6
    try simp (disch := first | assumption | omega | (simp only [Int.ofNat_eq_natCast, neg_one]; done) | (simp only [Int.ofNat_eq_natCast, neg_one]; omega)) only [tysW, wB, mB, Nat.reduceAdd, Nat.reduceMul, List.length_cons, List.length_nil, Bool.false_eq_true, if_false]
    refine wp_boxA g2 hp fun h3 g3 c3 b3 => ?_
    replace b1 := c3.box b1 (by omega)
    try simp (disch := first | assumption | omega | (simp only [Int.ofNat_eq_natCast, neg_one]; done) | (simp only [Int.ofNat_eq_natCast, neg_one]; omega)) only [tysW, wB, mB, Nat.reduceAdd, Nat.reduceMul, List.length_cons, List.length_nil, ldB b1, clB b1, ldBL b1, clBL b1]
    refine wp_newF g3 hp fun h4 g4 c4 b4 => ?_
    replace b1 := c4.box b1 (by omega)
    replace b3 := c4.box b3 (by omega)
    try simp (disch := first | assumption | omega | (simp only [Int.ofNat_eq_natCast, neg_one]; done) | (simp only [Int.ofNat_eq_natCast, neg_one]; omega)) only [tysW, wB, mB, Nat.reduceAdd, Nat.reduceMul, List.length_cons, List.length_nil]
    refine s86 (w := 1) (d := d + 8) (by omega) g4 hp (wb := s2) (by omega) b3 (.nil _) (.inl rfl) (Row.of_cells (E := EI) (l := [x.kind]) b4 rfl) (by simp [fitsW]; omega) (by omega) fun p5 h5 s5 g5 l5 b5 o5 e5 => ?_
    replace b1 := (e5 s (by omega) (by omega)).trans b1
    try simp (disch := first | assumption | omega | (simp only [Int.ofNat_eq_natCast, neg_one]; done) | (simp only [Int.ofNat_eq_natCast, neg_one]; omega)) only [tysW, wB, mB, Nat.reduceAdd, Nat.reduceMul, List.length_cons, List.length_nil]
    refine PureS.goL g5 hp (s108 (d := d + 10) g5.fresh) fun v h6 s6 ts6 ws6 g6 c6 hv hw6 ht6 => ?_
    obtain ⟨m, rfl, hm, bm⟩ := hv
    have l6 := c6.le
    replace b1 := c6.box b1 (by omega)
    replace b5 := c6.box b5 (by omega)
    replace o5 := o5.from g5.fresh c6
    try simp (disch := first | assumption | omega | (simp only [Int.ofNat_eq_natCast, neg_one]; done) | (simp only [Int.ofNat_eq_natCast, neg_one]; omega)) only [tysW, wB, mB, Nat.reduceAdd, Nat.reduceMul, List.length_cons, List.length_nil, ldB b1, clB b1, ldBL b1, clBL b1]
    unfold X65_2
    refine log_wp (W := fun _ => False) (Q := fun v h' s' => v = txt (telT x.kind) ∧ h' = h6 ∧ s' = s6) ?_ (fun n hn => hn.elim) ?_
    · rw [wp_tel bm]
      exact ⟨_, _, rfl, rfl, rfl, rfl⟩
    rintro v h7 s7 ts7 ws7 ⟨rfl, rfl, rfl⟩ hw7 ht7
    replace hw7 : ∀ n ∈ ws7, s7 ≤ n ∧ n < s7 := fun n hn => (hw7 n hn).1.elim
    replace ht7 : ∀ n ∈ ts7, n < s7 := fun n hn => lt_of_some g6.fresh (ht7 n hn)
    try simp (disch := first | assumption | omega | (simp only [Int.ofNat_eq_natCast, neg_one]; done) | (simp only [Int.ofNat_eq_natCast, neg_one]; omega)) only [tysW, wB, mB, Nat.reduceAdd, Nat.reduceMul, List.length_cons, List.length_nil, rng9]
    refine wp_newL (q := fun b => ptr b) g6 hp fun h8 g8 c8 b8 => ?_
    replace b1 := c8.box b1 (by omega)
    replace b5 := c8.box b5 (by omega)
    replace o5 := (o5.from g6.fresh c8).less (show s2 + 1 ≤ s2 + 1 + 1 by omega)
    rw [List.nil_append] at o5
    simp only [Nat.zero_add] at b5 o5
    rw [wp_guard, if_pos (by repeat' (first | exact dynOk_nil _ _ | refine dyn_skip' ?_ | refine dyn_cons ?_ ?_ | exact allF_nil _ _ | refine allF_cons ?_ ?_ | exact disj_below hw6 (by omega) | exact disjA hw6 (by omega) | exact disjB hw6 (by omega) | exact disjC hw6 (by assumption) | exact disjD (fun m hm => by have := hw6 m hm; omega) | exact disj_below ht6 (by omega) | exact disjA ht6 (by omega) | exact disjB ht6 (by omega) | exact disjC ht6 (by assumption) | exact disjD (fun m hm => by have := ht6 m hm; omega) | exact disj_below hw7 (by omega) | exact disjA hw7 (by omega) | exact disjB hw7 (by omega) | exact disjC hw7 (by assumption) | exact disjD (fun m hm => by have := hw7 m hm; omega) | exact disj_below ht7 (by omega) | exact disjA ht7 (by omega) | exact disjB ht7 (by omega) | exact disjC ht7 (by assumption) | exact disjD (fun m hm => by have := ht7 m hm; omega) | exact disjN _ | exact disj1 (by omega) | exact disj2 (by omega) | exact disj3 (by assumption) | exact disjC hw6 (fun m hm => by have := ht6 m hm; omega) | exact disjC hw6 (fun m hm => by have := hw7 m hm; omega) | exact disjC hw6 (fun m hm => by have := ht7 m hm; omega) | exact disjC ht6 (fun m hm => by have := hw6 m hm; omega) | exact disjC ht6 (fun m hm => by have := hw7 m hm; omega) | exact disjC ht6 (fun m hm => by have := ht7 m hm; omega) | exact disjC hw7 (fun m hm => by have := hw6 m hm; omega) | exact disjC hw7 (fun m hm => by have := ht6 m hm; omega) | exact disjC hw7 (fun m hm => by have := ht7 m hm; omega) | exact disjC ht7 (fun m hm => by have := hw6 m hm; omega) | exact disjC ht7 (fun m hm => by have := ht6 m hm; omega) | exact disjC ht7 (fun m hm => by have := hw7 m hm; omega)))]
    have loop : ∀ (J : Nat → AM) (hJ : ∀ s', J s' = fa 111 (ptr s2) 0 (fun v11 s => fa 109 v11 0 (fun v12 s => ld 25 v12 (fun v13 s => K (.tuple ⟨[v13, i64 0]⟩) s) s) s) s') (B : (Nat → AM) → Nat → AM) (hB : ∀ H s', B H s' = X65_1 N (D N (d + 11)) K (ptr s7) (ptr s) (ptr s2) J H s') (n i : Nat) (p1 : Option Addr) (len1 : Nat) (h1 : T) (s1 : Nat), (telT x.kind).length - i < n → i ≤ (telT x.kind).length → From s h h1 s1 → s7 + 1 ≤ s1 → h1.get s = some (.cells ⟨tvv x⟩ 60 (0, 0)) → h1.get s2 = some (.cells ⟨[.slice p1 len1 len1, .bool false]⟩ 111 (0, 0)) → OwnG EB 5 h1 (s2 + 1) p1 len1 (be 1 x.kind ++ ((telT x.kind).take i).flatMap (letP x nl xl pl)) → h1.get s7 = some (.stringIter ⟨⟨telT x.kind⟩⟩ i) → len1 ≤ 1 + 500 * i →
        (loopJ n 0 (fun _ => AM.fail) B s1).wp pw Z h1 := by
      intro J hJ B hB n
      induction n with
      | zero => intro i p1 len1 h1 s1 hn; omega
      | succ n ih =>
        intro i p1 len1 h1 s1 hn hi g1 hs1 b1 bw o1 bi hl1
        have hle := tel_le x.kind
        rw [loopJ_succ, hB]
        unfold X65_1
        by_cases hlt : i < (telT x.kind).length
        · obtain ⟨c, hc⟩ := get_some (l := telT x.kind) (i := i) hlt
          have hcm := tel_mem (List.mem_of_getElem? hc)
          refine wp_next g1 hp bi (by omega) hc (by rcases hcm with rfl | rfl | rfl | rfl | rfl | rfl <;> decide) fun h2 g2 bi2 e2 => ?_
          replace b1 := (e2 s (by omega)).trans b1
          replace bw := (e2 s2 (by omega)).trans bw
          replace o1 := o1.but fun hp => e2 _ (o1.ne bi hp)
          have bx := b1
          simp only [tvv] at bx
          have step : ∀ (w : Nat) (n1 : Int) (h3 : T) (s3 : Nat) (q : Option Addr), isW w → letP x nl xl pl c = be w n1 → fitsW w n1 = true → From s h h3 s3 → From s1 h2 h3 s3 → Row EI h3 q 1 [n1] → (D N (d + 11) 86 [ptr s2, vi w, .slice q 1 1] (fun _ s => loopJ n 0 (fun _ => AM.fail) B s) s3).wp pw Z h3 := by
            intro w n1 h3 s3 q hw he hfit g3 c3 r3
            have l3 := c3.le
            have hw8 : w ≤ 8 := by rcases hw with rfl | rfl | rfl | rfl <;> omega
            refine s86 (d := d + 8) (by omega) g3 hp (wb := s2) (by omega) (c3.box bw (by omega)) (o1.from g2.fresh c3).sl hw r3 hfit (by omega) fun p4 h4 s4 g4 l4 b4 o4 e4 => ?_
            refine ih (i + 1) p4 (len1 + w) h4 s4 (by omega) (by omega) g4 (by omega) ((e4 s (by omega) (by omega)).trans (c3.box b1 (by omega))) b4 ?_ ((e4 s7 (by omega) (by omega)).trans (c3.box bi2 (by omega))) (by omega)
            rw [take_next hc, ← List.append_assoc, he]
            exact o4.less (by omega)
          rcases hcm with rfl | rfl | rfl | rfl | rfl | rfl
          · try simp (disch := first | assumption | omega | (simp only [Int.ofNat_eq_natCast, neg_one]; done) | (simp only [Int.ofNat_eq_natCast, neg_one]; omega)) only [tysW, wB, mB, Nat.reduceAdd, Nat.reduceMul, List.length_cons, List.length_nil, ldB bx, clB bx, ldBL bx, clBL bx, eqc32, UInt8.reduceToNat, Nat.reduceBEq]
            refine wp_newF g2 hp fun h3 g3 c3 b3 => ?_
            try simp (disch := first | assumption | omega | (simp only [Int.ofNat_eq_natCast, neg_one]; done) | (simp only [Int.ofNat_eq_natCast, neg_one]; omega)) only [tysW, wB, mB, Nat.reduceAdd, Nat.reduceMul, List.length_cons, List.length_nil]
            exact step 1 x.sen h3 _ _ (.inl rfl) rfl (by simp [fitsW]; omega) g3 c3 (Row.of_cells (E := EI) (l := [x.sen]) b3 rfl)
          · try simp (disch := first | assumption | omega | (simp only [Int.ofNat_eq_natCast, neg_one]; done) | (simp only [Int.ofNat_eq_natCast, neg_one]; omega)) only [tysW, wB, mB, Nat.reduceAdd, Nat.reduceMul, List.length_cons, List.length_nil, ldB bx, clB bx, ldBL bx, clBL bx, eqc32, UInt8.reduceToNat, Nat.reduceBEq]
            refine wp_newF g2 hp fun h3 g3 c3 b3 => ?_
            try simp (disch := first | assumption | omega | (simp only [Int.ofNat_eq_natCast, neg_one]; done) | (simp only [Int.ofNat_eq_natCast, neg_one]; omega)) only [tysW, wB, mB, Nat.reduceAdd, Nat.reduceMul, List.length_cons, List.length_nil]
            exact step 4 x.seq h3 _ _ (.inr (.inr (.inl rfl))) rfl (by simp [fitsW]; omega) g3 c3 (Row.of_cells (E := EI) (l := [x.seq]) b3 rfl)
          · try simp (disch := first | assumption | omega | (simp only [Int.ofNat_eq_natCast, neg_one]; done) | (simp only [Int.ofNat_eq_natCast, neg_one]; omega)) only [tysW, wB, mB, Nat.reduceAdd, Nat.reduceMul, List.length_cons, List.length_nil, ldB bx, clB bx, ldBL bx, clBL bx, eqc32, UInt8.reduceToNat, Nat.reduceBEq]
            refine wp_newF g2 hp fun h3 g3 c3 b3 => ?_
            try simp (disch := first | assumption | omega | (simp only [Int.ofNat_eq_natCast, neg_one]; done) | (simp only [Int.ofNat_eq_natCast, neg_one]; omega)) only [tysW, wB, mB, Nat.reduceAdd, Nat.reduceMul, List.length_cons, List.length_nil]
            exact step 1 x.err h3 _ _ (.inl rfl) rfl (by simp [fitsW]; omega) g3 c3 (Row.of_cells (E := EI) (l := [x.err]) b3 rfl)
          · try simp (disch := first | assumption | omega | (simp only [Int.ofNat_eq_natCast, neg_one]; done) | (simp only [Int.ofNat_eq_natCast, neg_one]; omega)) only [tysW, wB, mB, Nat.reduceAdd, Nat.reduceMul, List.length_cons, List.length_nil, ldB bx, clB bx, ldBL bx, clBL bx, eqc32, UInt8.reduceToNat, Nat.reduceBEq]
            refine s88 (d := d + 7) (by omega) g2 hp (wb := s2) (by omega) bw o1.sl (g2.row hf r.n) q5 (by omega) fun p4 h4 s4 g4 l4 b4 o4 e4 => ?_
            refine ih (i + 1) p4 _ h4 s4 (by omega) (by omega) g4 (by omega) ((e4 s (by omega) (by omega)).trans b1) b4 ?_ ((e4 s7 (by omega) (by omega)).trans bi2) (by omega)
            rw [take_next hc, ← List.append_assoc]
            exact o4.less (by omega)
          · try simp (disch := first | assumption | omega | (simp only [Int.ofNat_eq_natCast, neg_one]; done) | (simp only [Int.ofNat_eq_natCast, neg_one]; omega)) only [tysW, wB, mB, Nat.reduceAdd, Nat.reduceMul, List.length_cons, List.length_nil, ldB bx, clB bx, ldBL bx, clBL bx, eqc32, UInt8.reduceToNat, Nat.reduceBEq]
            refine ValS.go g2 hp (s124 (d := d + 10) g2.fresh x.ex) fun h3 s3 g3 c3 => ?_
            try simp (disch := first | assumption | omega | (simp only [Int.ofNat_eq_natCast, neg_one]; done) | (simp only [Int.ofNat_eq_natCast, neg_one]; omega)) only [tysW, wB, mB, Nat.reduceAdd, Nat.reduceMul, List.length_cons, List.length_nil]
            refine wp_newF g3 hp fun h4 g4 c4 b4 => ?_
            try simp (disch := first | assumption | omega | (simp only [Int.ofNat_eq_natCast, neg_one]; done) | (simp only [Int.ofNat_eq_natCast, neg_one]; omega)) only [tysW, wB, mB, Nat.reduceAdd, Nat.reduceMul, List.length_cons, List.length_nil]
            exact step 1 (bit x.ex) h4 _ _ (.inl rfl) rfl (bit_fits _) g4 (c3.trans c4) (Row.of_cells (E := EI) (l := [bit x.ex]) b4 rfl)
          · try simp (disch := first | assumption | omega | (simp only [Int.ofNat_eq_natCast, neg_one]; done) | (simp only [Int.ofNat_eq_natCast, neg_one]; omega)) only [tysW, wB, mB, Nat.reduceAdd, Nat.reduceMul, List.length_cons, List.length_nil, ldB bx, clB bx, ldBL bx, clBL bx, eqc32, UInt8.reduceToNat, Nat.reduceBEq]
            refine s125 (d := d + 6) hN g2 hp (wb := s2) (by omega) bw o1.sl hf x.b r.y r.p q7 q8 (by omega) fun p4 len4 h4 s4 g4 l4 b4 o4 hl4 e4 => ?_
            refine ih (i + 1) p4 _ h4 s4 (by omega) (by omega) g4 (by omega) ((e4 s (by omega) (by omega)).trans b1) b4 ?_ ((e4 s7 (by omega) (by omega)).trans bi2) (by omega)
            rw [take_next hc, ← List.append_assoc]
            exact o4.less (by omega)
        · obtain rfl : i = (telT x.kind).length := by omega
          rw [wp_last bi]
          try simp (disch := first | assumption | omega | (simp only [Int.ofNat_eq_natCast, neg_one]; done) | (simp only [Int.ofNat_eq_natCast, neg_one]; omega)) only [tysW, wB, mB, Nat.reduceAdd, Nat.reduceMul, List.length_cons, List.length_nil]
          rw [hJ]
          try simp (disch := first | assumption | omega | (simp only [Int.ofNat_eq_natCast, neg_one]; done) | (simp only [Int.ofNat_eq_natCast, neg_one]; omega)) only [tysW, wB, mB, Nat.reduceAdd, Nat.reduceMul, List.length_cons, List.length_nil, ldB bw, clB bw, ldBL bw, clBL bw]
          refine hk p1 len1 _ _ g1 ?_ (by omega)
          rw [List.take_of_length_le (Nat.le_refl _)] at o1
          exact o1.less (by omega)
    have hle := tel_le x.kind
    exact loop _ (fun _ => rfl) _ (fun _ _ => rfl) N 0 p5 1 h8 (s7 + 1) (by omega) (by omega) g8 (Nat.le_refl _) b1 b5 (by simpa using o5) b8 (by omega)
theorem s66 (x : TV) {nl xl pl : List Int} (r : ListsT h x nl xl pl) (hpn : x.b.pn ≤ 1000) (hxn : x.b.xn ≤ 1000) : PureS (D N (d + 12)) 66 [.agg ⟨tvv x⟩] h s (fun v h' s' => ∃ p' len, v = .tuple ⟨[.slice p' len len, vi (errT x pl)]⟩ ∧ OwnG EB 5 h' s p' len (bytesT x nl xl pl)) := by
  refine PureS.of hf fun K pw Z g hp hk => ?_
  rw [D_66]; unfold F66; rw [app1_eq]
  refine wp_boxA g hp fun h1 g1 c1 b1 => ?_
  simp only [tvv] at b1
  try simp (disch := first | assumption | omega | (simp only [Int.ofNat_eq_natCast, neg_one]; done) | (simp only [Int.ofNat_eq_natCast, neg_one]; omega)) only [tysW, wB, mB, Nat.reduceAdd, Nat.reduceMul, List.length_cons, List.length_nil, ldB b1, clB b1, ldBL b1, clBL b1]
  refine ValS.go g1 hp (s67 (d := d) hN g1.fresh x (r.p.from hf g1).row hpn hxn) fun h2 s2 g2 c2 => ?_
  have l2 := c2.le
  replace b1 := c2.box b1 (by omega)
  cases hbad : badT x pl with
  | true =>
    try simp (disch := first | assumption | omega | (simp only [Int.ofNat_eq_natCast, neg_one]; done) | (simp only [Int.ofNat_eq_natCast, neg_one]; omega)) only [tysW, wB, mB, Nat.reduceAdd, Nat.reduceMul, List.length_cons, List.length_nil, if_true]
    refine hk _ _ _ g2 ?_
    unfold errT bytesT
    rw [hbad]
    exact ⟨none, 0, rfl, .nil⟩
  | false =>
    have hk : ∀ p' len h' s', From s h h' s' → OwnG EB 5 h' s p' len (encT x nl xl pl) → (K (.tuple ⟨[.slice p' len len, i64 0]⟩) s').wp pw Z h' := fun p' len h' s' g' o => hk _ _ _ g' (by unfold errT bytesT; rw [hbad]; exact ⟨p', len, rfl, o⟩)
    obtain ⟨⟨q1, q2, q3, q4, q5, q6⟩, -⟩ := badT_fine hbad
    obtain ⟨q7, q8, -⟩ := held_iff.1 q6
    try simp (disch := first | assumption | omega | (simp only [Int.ofNat_eq_natCast, neg_one]; done) | (simp only [Int.ofNat_eq_natCast, neg_one]; omega)) only [tysW, wB, mB, Nat.reduceAdd, Nat.reduceMul, List.length_cons, List.length_nil, ldB b1, clB b1, ldBL b1, clBL b1, Bool.false_eq_true, if_false]
    refine PureS.go g2 hp (s89 (w := 1) (d := d + 8) (by omega) g2.fresh (.inl rfl) (.nil _) (by omega) x.kind (by simp [fitsW]; omega)) fun v h3 s3 g3 c3 hv => ?_
    obtain ⟨p3, rfl, o3⟩ := hv
    have l3 := c3.le
    replace b1 := c3.box b1 (by omega)
    try simp (disch := first | assumption | omega | (simp only [Int.ofNat_eq_natCast, neg_one]; done) | (simp only [Int.ofNat_eq_natCast, neg_one]; omega)) only [tysW, wB, mB, Nat.reduceAdd, Nat.reduceMul, List.length_cons, List.length_nil, ldB b1, clB b1, ldBL b1, clBL b1]
    refine ValS.go g3 hp (s126 (d := d + 10) g3.fresh x.kind) fun h4 s4 g4 c4 => ?_
    replace b1 := c4.box b1 (by omega)
    have l4 := c4.le
    rw [List.nil_append] at o3
    replace o3 := (o3.from g3.fresh c4).less (show s ≤ s2 by omega)
    simp only [Nat.zero_add] at o3
    try simp (disch := first | assumption | omega | (simp only [Int.ofNat_eq_natCast, neg_one]; done) | (simp only [Int.ofNat_eq_natCast, neg_one]; omega)) only [tysW, wB, mB, Nat.reduceAdd, Nat.reduceMul, List.length_cons, List.length_nil]
    have loop : ∀ (J : Value → Nat → AM) (hJ : ∀ v s', J v s' = K (.tuple ⟨[v, i64 0]⟩) s') (B : (Value → Value → Nat → AM) → Value → Value → Nat → AM) (hB : ∀ H u v s', B H u v s' = X66_2 N (D N (d + 11)) K (str (mrkT x.kind)) (ptr s) J H u v s') (n i : Nat) (p1 : Option Addr) (len1 : Nat) (h1 : T) (s1 : Nat), (mrkT x.kind).length - i < n → i ≤ (mrkT x.kind).length → From s h h1 s1 → s + 1 ≤ s1 → h1.get s = some (.cells ⟨tvv x⟩ 60 (0, 0)) → OwnG EB 5 h1 s p1 len1 (be 1 x.kind ++ ((mrkT x.kind).take i).flatMap (letR x nl xl pl)) → len1 ≤ 1 + 600 * i →
        (loopJ n 2 (fun _ _ _ => AM.fail) B (.slice p1 len1 len1) (vi i) s1).wp pw Z h1 := by
      intro J hJ B hB n
      induction n with
      | zero => intro i p1 len1 h1 s1 hn; omega
      | succ n ih =>
        intro i p1 len1 h1 s1 hn hi g1 hs1 b1 o1 hl1
        have hle := mrk_le x.kind
        rw [loopJ_succ, hB]
        unfold X66_2
        by_cases hlt : i < (mrkT x.kind).length
        · obtain ⟨c, hc⟩ := get_some (l := mrkT x.kind) (i := i) hlt
          have hcm := mrk_mem (List.mem_of_getElem? hc)
          have bx := b1
          simp only [tvv] at bx
          try simp (disch := first | assumption | omega | (simp only [Int.ofNat_eq_natCast, neg_one]; done) | (simp only [Int.ofNat_eq_natCast, neg_one]; omega)) only [tysW, wB, mB, Nat.reduceAdd, Nat.reduceMul, List.length_cons, List.length_nil, len_mrk, ix_mrk q1 hc]
          have step : ∀ (w : Nat) (n1 : Int), isW w → letR x nl xl pl c = be w n1 → fitsW w n1 = true → (D N (d + 11) 89 [.slice p1 len1 len1, vi w, vi n1] (fun v s => addX P 3 3 false true (vi i) (i64 1) (fun v20 s => loopJ n 2 (fun _ _ _ => AM.fail) B v v20 s) s) s1).wp pw Z h1 := by
            intro w n1 hw he hfit
            have hw8 : w ≤ 8 := by rcases hw with rfl | rfl | rfl | rfl <;> omega
            refine PureS.go g1 hp (s89 (d := d + 8) (by omega) g1.fresh hw o1.sl (by omega) n1 hfit) fun v h4 s4 g4 c4 hv => ?_
            obtain ⟨p4, rfl, o4⟩ := hv
            have l4 := c4.le
            try simp (disch := first | assumption | omega | (simp only [Int.ofNat_eq_natCast, neg_one]; done) | (simp only [Int.ofNat_eq_natCast, neg_one]; omega)) only [tysW, wB, mB, Nat.reduceAdd, Nat.reduceMul, List.length_cons, List.length_nil]
            refine ih (i + 1) p4 (len1 + w) h4 s4 (by omega) (by omega) g4 (by omega) (c4.box b1 (by omega)) ?_ (by omega)
            rw [take_next hc, ← List.append_assoc, he]
            exact o4.less (by omega)
          rcases hcm with rfl | rfl | rfl | rfl | rfl
          · try simp (disch := first | assumption | omega | (simp only [Int.ofNat_eq_natCast, neg_one]; done) | (simp only [Int.ofNat_eq_natCast, neg_one]; omega)) only [tysW, wB, mB, Nat.reduceAdd, Nat.reduceMul, List.length_cons, List.length_nil, ldB bx, clB bx, ldBL bx, clBL bx, eqc8, UInt8.reduceToNat, Nat.reduceBEq]
            exact step 1 x.sen (.inl rfl) rfl (by simp [fitsW]; omega)
          · try simp (disch := first | assumption | omega | (simp only [Int.ofNat_eq_natCast, neg_one]; done) | (simp only [Int.ofNat_eq_natCast, neg_one]; omega)) only [tysW, wB, mB, Nat.reduceAdd, Nat.reduceMul, List.length_cons, List.length_nil, ldB bx, clB bx, ldBL bx, clBL bx, eqc8, UInt8.reduceToNat, Nat.reduceBEq]
            exact step 4 x.seq (.inr (.inr (.inl rfl))) rfl (by simp [fitsW]; omega)
          · try simp (disch := first | assumption | omega | (simp only [Int.ofNat_eq_natCast, neg_one]; done) | (simp only [Int.ofNat_eq_natCast, neg_one]; omega)) only [tysW, wB, mB, Nat.reduceAdd, Nat.reduceMul, List.length_cons, List.length_nil, ldB bx, clB bx, ldBL bx, clBL bx, eqc8, UInt8.reduceToNat, Nat.reduceBEq]
            exact step 1 x.err (.inl rfl) rfl (by simp [fitsW]; omega)
          · try simp (disch := first | assumption | omega | (simp only [Int.ofNat_eq_natCast, neg_one]; done) | (simp only [Int.ofNat_eq_natCast, neg_one]; omega)) only [tysW, wB, mB, Nat.reduceAdd, Nat.reduceMul, List.length_cons, List.length_nil, ldB bx, clB bx, ldBL bx, clBL bx, eqc8, UInt8.reduceToNat, Nat.reduceBEq]
            refine PureS.go g1 hp (s91 (d := d + 8) (by omega) g1.fresh o1.sl (g1.row hf r.n) (by omega) (by omega)) fun v h4 s4 g4 c4 hv => ?_
            rw [if_pos q5] at hv
            obtain ⟨p4, rfl, o4⟩ := hv
            have l4 := c4.le
            try simp (disch := first | assumption | omega | (simp only [Int.ofNat_eq_natCast, neg_one]; done) | (simp only [Int.ofNat_eq_natCast, neg_one]; omega)) only [tysW, wB, mB, Nat.reduceAdd, Nat.reduceMul, List.length_cons, List.length_nil]
            refine ih (i + 1) p4 _ h4 s4 (by omega) (by omega) g4 (by omega) (c4.box b1 (by omega)) ?_ (by omega)
            rw [take_next hc, ← List.append_assoc]
            exact o4.less (by omega)
          · try simp (disch := first | assumption | omega | (simp only [Int.ofNat_eq_natCast, neg_one]; done) | (simp only [Int.ofNat_eq_natCast, neg_one]; omega)) only [tysW, wB, mB, Nat.reduceAdd, Nat.reduceMul, List.length_cons, List.length_nil, ldB bx, clB bx, ldBL bx, clBL bx, eqc8, UInt8.reduceToNat, Nat.reduceBEq]
            refine ValS.goL g1 hp (s128 (d := d + 10) g1.fresh x.ex) fun h4 s4 ts4 ws4 g4 c4 hw4 ht4 => ?_
            have l4 := c4.le
            replace bx := c4.box bx (by omega)
            replace o1 := o1.from g1.fresh c4
            unfold X66_1
            refine PureS.goL g4 hp (s89 (w := 1) (d := d + 8) (by omega) g4.fresh (.inl rfl) o1.sl (by omega) _ (bit_fits x.ex)) fun v h5 s5 ts5 ws5 g5 c5 hv hw5 ht5 => ?_
            obtain ⟨p5, rfl, o5⟩ := hv
            have l5 := c5.le
            replace bx := c5.box bx (by omega)
            try simp (disch := first | assumption | omega | (simp only [Int.ofNat_eq_natCast, neg_one]; done) | (simp only [Int.ofNat_eq_natCast, neg_one]; omega)) only [tysW, wB, mB, Nat.reduceAdd, Nat.reduceMul, List.length_cons, List.length_nil, ldB bx, clB bx, ldBL bx, clBL bx]
            refine PureS.goL g5 hp (s127 (d := d + 6) hN g5.fresh x.b (g5.row hf r.y) (r.p.from hf g5) q7 q8 o5.sl (by omega)) fun v h6 s6 ts6 ws6 g6 c6 hv hw6 ht6 => ?_
            obtain ⟨p6, len6, rfl, o6, hl6⟩ := hv
            have l6 := c6.le
            rw [wp_guard, if_pos (by repeat' (first | exact dynOk_nil _ _ | refine dyn_skip' ?_ | refine dyn_cons ?_ ?_ | exact allF_nil _ _ | refine allF_cons ?_ ?_ | exact disj_below hw4 (by omega) | exact disjA hw4 (by omega) | exact disjB hw4 (by omega) | exact disjC hw4 (by assumption) | exact disjD (fun m hm => by have := hw4 m hm; omega) | exact disj_below ht4 (by omega) | exact disjA ht4 (by omega) | exact disjB ht4 (by omega) | exact disjC ht4 (by assumption) | exact disjD (fun m hm => by have := ht4 m hm; omega) | exact disj_below hw5 (by omega) | exact disjA hw5 (by omega) | exact disjB hw5 (by omega) | exact disjC hw5 (by assumption) | exact disjD (fun m hm => by have := hw5 m hm; omega) | exact disj_below ht5 (by omega) | exact disjA ht5 (by omega) | exact disjB ht5 (by omega) | exact disjC ht5 (by assumption) | exact disjD (fun m hm => by have := ht5 m hm; omega) | exact disj_below hw6 (by omega) | exact disjA hw6 (by omega) | exact disjB hw6 (by omega) | exact disjC hw6 (by assumption) | exact disjD (fun m hm => by have := hw6 m hm; omega) | exact disj_below ht6 (by omega) | exact disjA ht6 (by omega) | exact disjB ht6 (by omega) | exact disjC ht6 (by assumption) | exact disjD (fun m hm => by have := ht6 m hm; omega) | exact disjN _ | exact disj1 (by omega) | exact disj2 (by omega) | exact disj3 (by assumption) | exact disjC hw4 (fun m hm => by have := ht4 m hm; omega) | exact disjC hw4 (fun m hm => by have := hw5 m hm; omega) | exact disjC hw4 (fun m hm => by have := ht5 m hm; omega) | exact disjC hw4 (fun m hm => by have := hw6 m hm; omega) | exact disjC hw4 (fun m hm => by have := ht6 m hm; omega) | exact disjC ht4 (fun m hm => by have := hw4 m hm; omega) | exact disjC ht4 (fun m hm => by have := hw5 m hm; omega) | exact disjC ht4 (fun m hm => by have := ht5 m hm; omega) | exact disjC ht4 (fun m hm => by have := hw6 m hm; omega) | exact disjC ht4 (fun m hm => by have := ht6 m hm; omega) | exact disjC hw5 (fun m hm => by have := hw4 m hm; omega) | exact disjC hw5 (fun m hm => by have := ht4 m hm; omega) | exact disjC hw5 (fun m hm => by have := ht5 m hm; omega) | exact disjC hw5 (fun m hm => by have := hw6 m hm; omega) | exact disjC hw5 (fun m hm => by have := ht6 m hm; omega) | exact disjC ht5 (fun m hm => by have := hw4 m hm; omega) | exact disjC ht5 (fun m hm => by have := ht4 m hm; omega) | exact disjC ht5 (fun m hm => by have := hw5 m hm; omega) | exact disjC ht5 (fun m hm => by have := hw6 m hm; omega) | exact disjC ht5 (fun m hm => by have := ht6 m hm; omega) | exact disjC hw6 (fun m hm => by have := hw4 m hm; omega) | exact disjC hw6 (fun m hm => by have := ht4 m hm; omega) | exact disjC hw6 (fun m hm => by have := hw5 m hm; omega) | exact disjC hw6 (fun m hm => by have := ht5 m hm; omega) | exact disjC hw6 (fun m hm => by have := ht6 m hm; omega) | exact disjC ht6 (fun m hm => by have := hw4 m hm; omega) | exact disjC ht6 (fun m hm => by have := ht4 m hm; omega) | exact disjC ht6 (fun m hm => by have := hw5 m hm; omega) | exact disjC ht6 (fun m hm => by have := ht5 m hm; omega) | exact disjC ht6 (fun m hm => by have := hw6 m hm; omega)))]
            try simp (disch := first | assumption | omega | (simp only [Int.ofNat_eq_natCast, neg_one]; done) | (simp only [Int.ofNat_eq_natCast, neg_one]; omega)) only [tysW, wB, mB, Nat.reduceAdd, Nat.reduceMul, List.length_cons, List.length_nil]
            refine ih (i + 1) p6 _ h6 s6 (by omega) (by omega) g6 (by omega) (c6.box (c5.box (c4.box b1 (by omega)) (by omega)) (by omega)) ?_ (by omega)
            rw [take_next hc, ← List.append_assoc]
            rw [List.append_assoc] at o6
            exact o6.less (by omega)
        · obtain rfl : i = (mrkT x.kind).length := by omega
          try simp (disch := first | assumption | omega | (simp only [Int.ofNat_eq_natCast, neg_one]; done) | (simp only [Int.ofNat_eq_natCast, neg_one]; omega)) only [tysW, wB, mB, Nat.reduceAdd, Nat.reduceMul, List.length_cons, List.length_nil, len_mrk]
          rw [hJ]
          refine hk p1 len1 _ _ g1 ?_
          rw [List.take_of_length_le (Nat.le_refl _), tel_mrk] at o1
          exact o1
    have hle := mrk_le x.kind
    exact loop _ (fun _ _ => rfl) _ (fun _ _ _ _ => rfl) N 0 p3 1 h4 s4 (by omega) (by omega) g4 (by omega) b1 (by simpa using o3) (by omega)
end
end Go.Ev.R
namespace Go.Ev.R
open Go Go.RowKit
def cpB (b : BV) (p2 p3 : Option Addr) : BV := ⟨b.time, p2, b.xn, b.xn, p3, b.pn, b.pn, b.flag, b.pass, b.fail⟩
def cpT (x : TV) (p1 p2 p3 : Option Addr) : TV := ⟨x.kind, x.sen, x.seq, x.err, p1, x.nn, x.nn, x.ex, cpB x.b p2 p3⟩
def sameB (a b : BV) (xl pl xl' pl' : List Int) : Bool := decide (a.time = b.time ∧ xl = xl' ∧ pl = pl' ∧ a.flag = b.flag ∧ a.pass = b.pass ∧ a.fail = b.fail)
def sameT (x y : TV) (nl xl pl nl' xl' pl' : List Int) : Bool := decide (x.kind = y.kind ∧ x.sen = y.sen ∧ x.seq = y.seq ∧ x.err = y.err ∧ nl = nl' ∧ x.ex = y.ex ∧ sameB x.b y.b xl pl xl' pl' = true)
def longT (x : TV) : Bool := decide (60 < x.nn ∨ 60 < x.b.xn ∨ 60 < x.b.pn)
section
variable {N d : Nat} {h : T} {s : Nat} (hf : ∀ n, s ≤ n → h.get n = none)
include hf
theorem s63 (x : TV) : ValS (D N (d + 1)) 63 [.agg ⟨tvv x⟩] h s (.bool (longT x)) := by
  refine ValS.of hf fun K pw Z g hp hk => ?_
  rw [D_63]; unfold F63; rw [app1_eq]
  unfold X63_1
  refine wp_boxA g hp fun h1 g1 c1 b1 => ?_
  simp only [tvv] at b1
  have hk := hk _ _ g1
  unfold longT at hk
  by_cases e1 : (60 : Int) < (x.nn : Int)
  · try simp (disch := first | assumption | omega | (simp only [Int.ofNat_eq_natCast, neg_one]; done) | (simp only [Int.ofNat_eq_natCast, neg_one]; omega)) only [tysW, wB, mB, Nat.reduceAdd, Nat.reduceMul, List.length_cons, List.length_nil, ldB b1, clB b1, ldBL b1, clBL b1]
    rw [decide_eq_true (by omega)] at hk
    exact hk
  by_cases e2 : (60 : Int) < (x.b.xn : Int)
  · try simp (disch := first | assumption | omega | (simp only [Int.ofNat_eq_natCast, neg_one]; done) | (simp only [Int.ofNat_eq_natCast, neg_one]; omega)) only [tysW, wB, mB, Nat.reduceAdd, Nat.reduceMul, List.length_cons, List.length_nil, ldB b1, clB b1, ldBL b1, clBL b1]
    rw [decide_eq_true (by omega)] at hk
    exact hk
  by_cases e3 : (60 : Int) < (x.b.pn : Int)
  · try simp (disch := first | assumption | omega | (simp only [Int.ofNat_eq_natCast, neg_one]; done) | (simp only [Int.ofNat_eq_natCast, neg_one]; omega)) only [tysW, wB, mB, Nat.reduceAdd, Nat.reduceMul, List.length_cons, List.length_nil, ldB b1, clB b1, ldBL b1, clBL b1]
    rw [decide_eq_true (by omega)] at hk
    exact hk
  try simp (disch := first | assumption | omega | (simp only [Int.ofNat_eq_natCast, neg_one]; done) | (simp only [Int.ofNat_eq_natCast, neg_one]; omega)) only [tysW, wB, mB, Nat.reduceAdd, Nat.reduceMul, List.length_cons, List.length_nil, ldB b1, clB b1, ldBL b1, clBL b1]
  rw [decide_eq_false (by omega)] at hk
  exact hk
theorem s123 (b : BV) {xl pl : List Int} (rx : Sl EI h b.xp b.xn b.xc xl) (rp : Sl EI h b.pp b.pn b.pc pl) (h1 : b.xn ≤ 1000) (h2 : b.pn ≤ 1000) : PureS (D N (d + 2)) 123 [.agg ⟨bvv b⟩] h s (fun v h' s' => ∃ p2 p3, v = .agg ⟨bvv (cpB b p2 p3)⟩ ∧ OwnG EI 3 h' s p2 b.xn xl ∧ OwnG EI 3 h' s p3 b.pn pl) := by
  refine PureS.of hf fun K pw Z g hp hk => ?_
  rw [D_123]; unfold F123; rw [app1_eq]
  refine wp_boxA g hp fun h1 g1 c1 b1 => ?_
  simp only [bvv] at b1
  try simp (disch := first | assumption | omega | (simp only [Int.ofNat_eq_natCast, neg_one]; done) | (simp only [Int.ofNat_eq_natCast, neg_one]; omega)) only [tysW, wB, mB, Nat.reduceAdd, Nat.reduceMul, List.length_cons, List.length_nil]
  refine wp_boxA g1 hp fun h2 g2 c2 b2 => ?_
  replace b1 := c2.box b1 (by omega)
  try simp (disch := first | assumption | omega | (simp only [Int.ofNat_eq_natCast, neg_one]; done) | (simp only [Int.ofNat_eq_natCast, neg_one]; omega)) only [tysW, wB, mB, Nat.reduceAdd, Nat.reduceMul, List.length_cons, List.length_nil, ldB b1, clB b1, ldBL b1, clBL b1]
  refine PureS.go g2 hp (s85 (d := d) g2.fresh (rx.from hf g2) (by omega)) fun v h3 s3 g3 c3 hv => ?_
  obtain ⟨p2, rfl, o2⟩ := hv
  have l3 := c3.le
  replace b1 := c3.box b1 (by omega)
  replace b2 := c3.box b2 (by omega)
  try simp (disch := first | assumption | omega | (simp only [Int.ofNat_eq_natCast, neg_one]; done) | (simp only [Int.ofNat_eq_natCast, neg_one]; omega)) only [tysW, wB, mB, Nat.reduceAdd, Nat.reduceMul, List.length_cons, List.length_nil]
  refine wp_putF g3 hp b1 (by omega) (by simp) rfl fun h4 g4 b4 e4 => ?_
  simp only [overL] at b4
  replace b2 := (e4 (s + 1) (by omega)).trans b2
  have o2l := o2.lt g3.fresh
  replace o2 := o2.but fun hc => e4 _ (by have := o2l hc; omega)
  try simp (disch := first | assumption | omega | (simp only [Int.ofNat_eq_natCast, neg_one]; done) | (simp only [Int.ofNat_eq_natCast, neg_one]; omega)) only [tysW, wB, mB, Nat.reduceAdd, Nat.reduceMul, List.length_cons, List.length_nil, ldB b4, clB b4, ldBL b4, clBL b4]
  refine PureS.go g4 hp (s85 (d := d) g4.fresh (rp.from hf g4) (by omega)) fun v h5 s5 g5 c5 hv => ?_
  obtain ⟨p3, rfl, o3⟩ := hv
  have l5 := c5.le
  replace b4 := c5.box b4 (by omega)
  replace b2 := c5.box b2 (by omega)
  replace o2 := o2.from g4.fresh c5
  have o3l := o3.lt g5.fresh
  try simp (disch := first | assumption | omega | (simp only [Int.ofNat_eq_natCast, neg_one]; done) | (simp only [Int.ofNat_eq_natCast, neg_one]; omega)) only [tysW, wB, mB, Nat.reduceAdd, Nat.reduceMul, List.length_cons, List.length_nil]
  refine wp_putF g5 hp b4 (by omega) (by simp) rfl fun h6 g6 b6 e6 => ?_
  simp only [overL] at b6
  replace b2 := (e6 (s + 1) (by omega)).trans b2
  try simp (disch := first | assumption | omega | (simp only [Int.ofNat_eq_natCast, neg_one]; done) | (simp only [Int.ofNat_eq_natCast, neg_one]; omega)) only [tysW, wB, mB, Nat.reduceAdd, Nat.reduceMul, List.length_cons, List.length_nil, ldB b6, clB b6, ldBL b6, clBL b6]
  refine wp_putF g6 hp b2 (by omega) (by simp) rfl fun h7 g7 b7 e7 => ?_
  simp only [overL] at b7
  try simp (disch := first | assumption | omega | (simp only [Int.ofNat_eq_natCast, neg_one]; done) | (simp only [Int.ofNat_eq_natCast, neg_one]; omega)) only [tysW, wB, mB, Nat.reduceAdd, Nat.reduceMul, List.length_cons, List.length_nil, ldB b7, clB b7, ldBL b7, clBL b7]
  exact hk _ _ _ g7 ⟨p2, p3, rfl, (o2.but fun hc => by have := o2l hc; rw [e7 _ (by omega), e6 _ (by omega)]).less (by omega), (o3.but fun hc => by have := o3l hc; rw [e7 _ (by omega), e6 _ (by omega)]).less (by omega)⟩
theorem s64 (x : TV) {nl xl pl : List Int} (rn : Sl EI h x.np x.nn x.nc nl) (rx : Sl EI h x.b.xp x.b.xn x.b.xc xl) (rp : Sl EI h x.b.pp x.b.pn x.b.pc pl) (h0 : x.nn ≤ 1000) (h1 : x.b.xn ≤ 1000) (h2 : x.b.pn ≤ 1000) : PureS (D N (d + 3)) 64 [.agg ⟨tvv x⟩] h s (fun v h' s' => ∃ p1 p2 p3, v = .agg ⟨tvv (cpT x p1 p2 p3)⟩ ∧ OwnG EI 3 h' s p1 x.nn nl ∧ OwnG EI 3 h' s p2 x.b.xn xl ∧ OwnG EI 3 h' s p3 x.b.pn pl) := by
  refine PureS.of hf fun K pw Z g hp hk => ?_
  rw [D_64]; unfold F64; rw [app1_eq]
  refine wp_boxA g hp fun h1 g1 c1 b1 => ?_
  simp only [tvv] at b1
  try simp (disch := first | assumption | omega | (simp only [Int.ofNat_eq_natCast, neg_one]; done) | (simp only [Int.ofNat_eq_natCast, neg_one]; omega)) only [tysW, wB, mB, Nat.reduceAdd, Nat.reduceMul, List.length_cons, List.length_nil]
  refine wp_boxA g1 hp fun h2 g2 c2 b2 => ?_
  replace b1 := c2.box b1 (by omega)
  try simp (disch := first | assumption | omega | (simp only [Int.ofNat_eq_natCast, neg_one]; done) | (simp only [Int.ofNat_eq_natCast, neg_one]; omega)) only [tysW, wB, mB, Nat.reduceAdd, Nat.reduceMul, List.length_cons, List.length_nil, ldB b1, clB b1, ldBL b1, clBL b1]
  refine PureS.goL g2 hp (s85 (d := d + 1) g2.fresh (rn.from hf g2) (by omega)) fun v h3 s3 ts3 ws3 g3 c3 hv hw3 ht3 => ?_
  obtain ⟨p1, rfl, o1⟩ := hv
  have l3 := c3.le
  have o1l := o1.lt g3.fresh
  replace b1 := c3.box b1 (by omega)
  replace b2 := c3.box b2 (by omega)
  try simp (disch := first | assumption | omega | (simp only [Int.ofNat_eq_natCast, neg_one]; done) | (simp only [Int.ofNat_eq_natCast, neg_one]; omega)) only [tysW, wB, mB, Nat.reduceAdd, Nat.reduceMul, List.length_cons, List.length_nil, ldB b1, clB b1, ldBL b1, clBL b1]
  refine PureS.goL g3 hp (s123 (d := d) g3.fresh x.b (rx.from hf g3) (rp.from hf g3) (by omega) (by omega)) fun v h4 s4 ts4 ws4 g4 c4 hv hw4 ht4 => ?_
  obtain ⟨p2, p3, rfl, o2, o3⟩ := hv
  have l4 := c4.le
  have o2l := o2.lt g4.fresh
  have o3l := o3.lt g4.fresh
  replace b1 := c4.box b1 (by omega)
  replace b2 := c4.box b2 (by omega)
  replace o1 := o1.from g3.fresh c4
  unfold X64_1
  try simp (disch := first | assumption | omega | (simp only [Int.ofNat_eq_natCast, neg_one]; done) | (simp only [Int.ofNat_eq_natCast, neg_one]; omega)) only [tysW, wB, mB, Nat.reduceAdd, Nat.reduceMul, List.length_cons, List.length_nil]
  refine wp_putL g4 hp b1 (by omega) (by simp) rfl fun h5 g5 b5 e5 => ?_
  simp only [overL] at b5
  replace b2 := (e5 (s + 1) (by omega)).trans b2
  try simp (disch := first | assumption | omega | (simp only [Int.ofNat_eq_natCast, neg_one]; done) | (simp only [Int.ofNat_eq_natCast, neg_one]; omega)) only [tysW, wB, mB, Nat.reduceAdd, Nat.reduceMul, List.length_cons, List.length_nil, bvv, cpB]
  refine wp_putL g5 hp b5 (by omega) (by simp) rfl fun h6 g6 b6 e6 => ?_
  simp only [overL] at b6
  replace b2 := (e6 (s + 1) (by omega)).trans b2
  try simp (disch := first | assumption | omega | (simp only [Int.ofNat_eq_natCast, neg_one]; done) | (simp only [Int.ofNat_eq_natCast, neg_one]; omega)) only [tysW, wB, mB, Nat.reduceAdd, Nat.reduceMul, List.length_cons, List.length_nil]
  rw [wp_guard, if_pos (by repeat' (first | exact dynOk_nil _ _ | refine dyn_skip' ?_ | refine dyn_cons ?_ ?_ | exact allF_nil _ _ | refine allF_cons ?_ ?_ | exact disj_below hw3 (by omega) | exact disjA hw3 (by omega) | exact disjB hw3 (by omega) | exact disjC hw3 (by assumption) | exact disjD (fun m hm => by have := hw3 m hm; omega) | exact disj_below ht3 (by omega) | exact disjA ht3 (by omega) | exact disjB ht3 (by omega) | exact disjC ht3 (by assumption) | exact disjD (fun m hm => by have := ht3 m hm; omega) | exact disj_below hw4 (by omega) | exact disjA hw4 (by omega) | exact disjB hw4 (by omega) | exact disjC hw4 (by assumption) | exact disjD (fun m hm => by have := hw4 m hm; omega) | exact disj_below ht4 (by omega) | exact disjA ht4 (by omega) | exact disjB ht4 (by omega) | exact disjC ht4 (by assumption) | exact disjD (fun m hm => by have := ht4 m hm; omega) | exact disjN _ | exact disj1 (by omega) | exact disj2 (by omega) | exact disj3 (by assumption) | exact disjC hw3 (fun m hm => by have := ht3 m hm; omega) | exact disjC hw3 (fun m hm => by have := hw4 m hm; omega) | exact disjC hw3 (fun m hm => by have := ht4 m hm; omega) | exact disjC ht3 (fun m hm => by have := hw3 m hm; omega) | exact disjC ht3 (fun m hm => by have := hw4 m hm; omega) | exact disjC ht3 (fun m hm => by have := ht4 m hm; omega) | exact disjC hw4 (fun m hm => by have := hw3 m hm; omega) | exact disjC hw4 (fun m hm => by have := ht3 m hm; omega) | exact disjC hw4 (fun m hm => by have := ht4 m hm; omega) | exact disjC ht4 (fun m hm => by have := hw3 m hm; omega) | exact disjC ht4 (fun m hm => by have := ht3 m hm; omega) | exact disjC ht4 (fun m hm => by have := hw4 m hm; omega)))]
  try simp (disch := first | assumption | omega | (simp only [Int.ofNat_eq_natCast, neg_one]; done) | (simp only [Int.ofNat_eq_natCast, neg_one]; omega)) only [tysW, wB, mB, Nat.reduceAdd, Nat.reduceMul, List.length_cons, List.length_nil, ldB b6, clB b6, ldBL b6, clBL b6]
  refine wp_putF g6 hp b2 (by omega) (by simp) rfl fun h7 g7 b7 e7 => ?_
  simp only [overL] at b7
  try simp (disch := first | assumption | omega | (simp only [Int.ofNat_eq_natCast, neg_one]; done) | (simp only [Int.ofNat_eq_natCast, neg_one]; omega)) only [tysW, wB, mB, Nat.reduceAdd, Nat.reduceMul, List.length_cons, List.length_nil, ldB b7, clB b7, ldBL b7, clBL b7]
  have kk : ∀ i, i ≠ s → i ≠ s + 1 → h7.get i = h4.get i := fun i h1 h2 => by rw [e7 i h2, e6 i h1, e5 i h1]
  exact hk _ _ _ g7 ⟨p1, p2, p3, rfl, (o1.but fun hc => kk _ (by have := o1l hc; omega) (by have := o1l hc; omega)).less (by omega), (o2.but fun hc => kk _ (by have := o2l hc; omega) (by have := o2l hc; omega)).less (by omega), (o3.but fun hc => kk _ (by have := o3l hc; omega) (by have := o3l hc; omega)).less (by omega)⟩
end
section
variable {N d : Nat} (hN : 100000 ≤ N) {h : T} {s : Nat} (hf : ∀ n, s ≤ n → h.get n = none)
include hN hf
theorem s131 (a b : BV) {xl pl xl' pl' : List Int} (rx : Row EI h a.xp a.xn xl) (rp : Row EI h a.pp a.pn pl) (rx' : Row EI h b.xp b.xn xl') (rp' : Row EI h b.pp b.pn pl') (h1 : a.xn ≤ 1000) (h2 : a.pn ≤ 1000) : ValS (D N (d + 2)) 131 [.agg ⟨bvv a⟩, .agg ⟨bvv b⟩] h s (.bool (sameB a b xl pl xl' pl')) := by
  refine ValS.of hf fun K pw Z g hp hk => ?_
  rw [D_131]; unfold F131; rw [app2_eq]
  refine wp_boxA g hp fun h1 g1 c1 b1 => ?_
  refine wp_boxA g1 hp fun h2 g2 c2 b2 => ?_
  replace b1 := c2.box b1 (by omega)
  simp only [bvv] at b1 b2
  unfold sameB at hk
  by_cases e1 : a.time = b.time
  rotate_left
  · try simp (disch := first | assumption | omega | (simp only [Int.ofNat_eq_natCast, neg_one]; done) | (simp only [Int.ofNat_eq_natCast, neg_one]; omega)) only [tysW, wB, mB, Nat.reduceAdd, Nat.reduceMul, List.length_cons, List.length_nil, ldB b1, clB b1, ldBL b1, clBL b1, ldB b2, clB b2, ldBL b2, clBL b2]
    unfold X131_2 X131_1
    try simp (disch := first | assumption | omega | (simp only [Int.ofNat_eq_natCast, neg_one]; done) | (simp only [Int.ofNat_eq_natCast, neg_one]; omega)) only [tysW, wB, mB, Nat.reduceAdd, Nat.reduceMul, List.length_cons, List.length_nil]
    have hk := hk _ _ g2
    rw [decide_eq_false (by simp [e1])] at hk
    exact hk
  try simp (disch := first | assumption | omega | (simp only [Int.ofNat_eq_natCast, neg_one]; done) | (simp only [Int.ofNat_eq_natCast, neg_one]; omega)) only [tysW, wB, mB, Nat.reduceAdd, Nat.reduceMul, List.length_cons, List.length_nil, ldB b1, clB b1, ldBL b1, clBL b1, ldB b2, clB b2, ldBL b2, clBL b2]
  refine ValS.go g2 hp (s98 (d := d) hN g2.fresh (g2.row hf rx) (g2.row hf rx') (by omega)) fun h3 s3 g3 c3 => ?_
  replace b1 := c3.box b1 (by omega)
  replace b2 := c3.box b2 (by omega)
  have l3 := c3.le
  by_cases e2 : xl = xl'
  rotate_left
  · rw [decide_eq_false e2]
    unfold X131_2
    try simp (disch := first | assumption | omega | (simp only [Int.ofNat_eq_natCast, neg_one]; done) | (simp only [Int.ofNat_eq_natCast, neg_one]; omega)) only [tysW, wB, mB, Nat.reduceAdd, Nat.reduceMul, List.length_cons, List.length_nil]
    unfold X131_1
    try simp (disch := first | assumption | omega | (simp only [Int.ofNat_eq_natCast, neg_one]; done) | (simp only [Int.ofNat_eq_natCast, neg_one]; omega)) only [tysW, wB, mB, Nat.reduceAdd, Nat.reduceMul, List.length_cons, List.length_nil]
    have hk := hk _ _ g3
    rw [decide_eq_false (by simp [e2])] at hk
    exact hk
  rw [decide_eq_true e2]
  unfold X131_2
  try simp (disch := first | assumption | omega | (simp only [Int.ofNat_eq_natCast, neg_one]; done) | (simp only [Int.ofNat_eq_natCast, neg_one]; omega)) only [tysW, wB, mB, Nat.reduceAdd, Nat.reduceMul, List.length_cons, List.length_nil, ldB b1, clB b1, ldBL b1, clBL b1, ldB b2, clB b2, ldBL b2, clBL b2]
  refine ValS.go g3 hp (s98 (d := d) hN g3.fresh (g3.row hf rp) (g3.row hf rp') (by omega)) fun h4 s4 g4 c4 => ?_
  replace b1 := c4.box b1 (by omega)
  replace b2 := c4.box b2 (by omega)
  have l4 := c4.le
  by_cases e3 : pl = pl'
  rotate_left
  · rw [decide_eq_false e3]
    try simp (disch := first | assumption | omega | (simp only [Int.ofNat_eq_natCast, neg_one]; done) | (simp only [Int.ofNat_eq_natCast, neg_one]; omega)) only [tysW, wB, mB, Nat.reduceAdd, Nat.reduceMul, List.length_cons, List.length_nil]
    unfold X131_1
    try simp (disch := first | assumption | omega | (simp only [Int.ofNat_eq_natCast, neg_one]; done) | (simp only [Int.ofNat_eq_natCast, neg_one]; omega)) only [tysW, wB, mB, Nat.reduceAdd, Nat.reduceMul, List.length_cons, List.length_nil]
    have hk := hk _ _ g4
    rw [decide_eq_false (by simp [e3])] at hk
    exact hk
  rw [decide_eq_true e3]
  have hk := hk _ _ g4
  by_cases e4 : a.flag = b.flag
  rotate_left
  · have q : (a.flag == b.flag) = false := by simpa using e4
    try simp (disch := first | assumption | omega | (simp only [Int.ofNat_eq_natCast, neg_one]; done) | (simp only [Int.ofNat_eq_natCast, neg_one]; omega)) only [tysW, wB, mB, Nat.reduceAdd, Nat.reduceMul, List.length_cons, List.length_nil, ldB b1, clB b1, ldBL b1, clBL b1, ldB b2, clB b2, ldBL b2, clBL b2, eqb_4, q]
    unfold X131_1
    try simp (disch := first | assumption | omega | (simp only [Int.ofNat_eq_natCast, neg_one]; done) | (simp only [Int.ofNat_eq_natCast, neg_one]; omega)) only [tysW, wB, mB, Nat.reduceAdd, Nat.reduceMul, List.length_cons, List.length_nil]
    rw [decide_eq_false (by simp [e4])] at hk
    exact hk
  have q : (a.flag == b.flag) = true := by simpa using e4
  by_cases e5 : a.pass = b.pass
  rotate_left
  · try simp (disch := first | assumption | omega | (simp only [Int.ofNat_eq_natCast, neg_one]; done) | (simp only [Int.ofNat_eq_natCast, neg_one]; omega)) only [tysW, wB, mB, Nat.reduceAdd, Nat.reduceMul, List.length_cons, List.length_nil, ldB b1, clB b1, ldBL b1, clBL b1, ldB b2, clB b2, ldBL b2, clBL b2, eqb_4, q]
    unfold X131_1
    try simp (disch := first | assumption | omega | (simp only [Int.ofNat_eq_natCast, neg_one]; done) | (simp only [Int.ofNat_eq_natCast, neg_one]; omega)) only [tysW, wB, mB, Nat.reduceAdd, Nat.reduceMul, List.length_cons, List.length_nil, ldB b1, clB b1, ldBL b1, clBL b1, ldB b2, clB b2, ldBL b2, clBL b2]
    rw [decide_eq_false (by simp [e5])] at hk
    exact hk
  by_cases e6 : a.fail = b.fail
  · try simp (disch := first | assumption | omega | (simp only [Int.ofNat_eq_natCast, neg_one]; done) | (simp only [Int.ofNat_eq_natCast, neg_one]; omega)) only [tysW, wB, mB, Nat.reduceAdd, Nat.reduceMul, List.length_cons, List.length_nil, ldB b1, clB b1, ldBL b1, clBL b1, ldB b2, clB b2, ldBL b2, clBL b2, eqb_4, q]
    unfold X131_1
    try simp (disch := first | assumption | omega | (simp only [Int.ofNat_eq_natCast, neg_one]; done) | (simp only [Int.ofNat_eq_natCast, neg_one]; omega)) only [tysW, wB, mB, Nat.reduceAdd, Nat.reduceMul, List.length_cons, List.length_nil, ldB b1, clB b1, ldBL b1, clBL b1, ldB b2, clB b2, ldBL b2, clBL b2]
    rw [decide_eq_true ⟨e1, e2, e3, e4, e5, e6⟩] at hk
    exact hk
  · try simp (disch := first | assumption | omega | (simp only [Int.ofNat_eq_natCast, neg_one]; done) | (simp only [Int.ofNat_eq_natCast, neg_one]; omega)) only [tysW, wB, mB, Nat.reduceAdd, Nat.reduceMul, List.length_cons, List.length_nil, ldB b1, clB b1, ldBL b1, clBL b1, ldB b2, clB b2, ldBL b2, clBL b2, eqb_4, q]
    unfold X131_1
    try simp (disch := first | assumption | omega | (simp only [Int.ofNat_eq_natCast, neg_one]; done) | (simp only [Int.ofNat_eq_natCast, neg_one]; omega)) only [tysW, wB, mB, Nat.reduceAdd, Nat.reduceMul, List.length_cons, List.length_nil, ldB b1, clB b1, ldBL b1, clBL b1, ldB b2, clB b2, ldBL b2, clBL b2]
    rw [decide_eq_false (by simp [e6])] at hk
    exact hk
theorem s68 (x y : TV) {nl xl pl nl' xl' pl' : List Int} (r : ListsT h x nl xl pl) (r' : ListsT h y nl' xl' pl') (h0 : x.nn ≤ 1000) (h1 : x.b.xn ≤ 1000) (h2 : x.b.pn ≤ 1000) : ValS (D N (d + 3)) 68 [.agg ⟨tvv x⟩, .agg ⟨tvv y⟩] h s (.bool (sameT x y nl xl pl nl' xl' pl')) := by
  refine ValS.of hf fun K pw Z g hp hk => ?_
  rw [D_68]; unfold F68; rw [app2_eq]
  unfold X68_3
  refine wp_boxA g hp fun h1 g1 c1 b1 => ?_
  refine wp_boxA g1 hp fun h2 g2 c2 b2 => ?_
  replace b1 := c2.box b1 (by omega)
  simp only [tvv] at b1 b2
  unfold sameT at hk
  by_cases e1 : x.kind = y.kind
  rotate_left
  · try simp (disch := first | assumption | omega | (simp only [Int.ofNat_eq_natCast, neg_one]; done) | (simp only [Int.ofNat_eq_natCast, neg_one]; omega)) only [tysW, wB, mB, Nat.reduceAdd, Nat.reduceMul, List.length_cons, List.length_nil, ldB b1, clB b1, ldBL b1, clBL b1, ldB b2, clB b2, ldBL b2, clBL b2]
    unfold X68_2 X68_1
    try simp (disch := first | assumption | omega | (simp only [Int.ofNat_eq_natCast, neg_one]; done) | (simp only [Int.ofNat_eq_natCast, neg_one]; omega)) only [tysW, wB, mB, Nat.reduceAdd, Nat.reduceMul, List.length_cons, List.length_nil]
    have hk := hk _ _ g2
    rw [decide_eq_false (by simp [e1])] at hk
    exact hk
  by_cases e2 : x.sen = y.sen
  rotate_left
  · try simp (disch := first | assumption | omega | (simp only [Int.ofNat_eq_natCast, neg_one]; done) | (simp only [Int.ofNat_eq_natCast, neg_one]; omega)) only [tysW, wB, mB, Nat.reduceAdd, Nat.reduceMul, List.length_cons, List.length_nil, ldB b1, clB b1, ldBL b1, clBL b1, ldB b2, clB b2, ldBL b2, clBL b2]
    unfold X68_2 X68_1
    try simp (disch := first | assumption | omega | (simp only [Int.ofNat_eq_natCast, neg_one]; done) | (simp only [Int.ofNat_eq_natCast, neg_one]; omega)) only [tysW, wB, mB, Nat.reduceAdd, Nat.reduceMul, List.length_cons, List.length_nil]
    have hk := hk _ _ g2
    rw [decide_eq_false (by simp [e2])] at hk
    exact hk
  by_cases e3 : x.seq = y.seq
  rotate_left
  · try simp (disch := first | assumption | omega | (simp only [Int.ofNat_eq_natCast, neg_one]; done) | (simp only [Int.ofNat_eq_natCast, neg_one]; omega)) only [tysW, wB, mB, Nat.reduceAdd, Nat.reduceMul, List.length_cons, List.length_nil, ldB b1, clB b1, ldBL b1, clBL b1, ldB b2, clB b2, ldBL b2, clBL b2]
    unfold X68_2
    try simp (disch := first | assumption | omega | (simp only [Int.ofNat_eq_natCast, neg_one]; done) | (simp only [Int.ofNat_eq_natCast, neg_one]; omega)) only [tysW, wB, mB, Nat.reduceAdd, Nat.reduceMul, List.length_cons, List.length_nil, ldB b1, clB b1, ldBL b1, clBL b1, ldB b2, clB b2, ldBL b2, clBL b2]
    unfold X68_1
    try simp (disch := first | assumption | omega | (simp only [Int.ofNat_eq_natCast, neg_one]; done) | (simp only [Int.ofNat_eq_natCast, neg_one]; omega)) only [tysW, wB, mB, Nat.reduceAdd, Nat.reduceMul, List.length_cons, List.length_nil]
    have hk := hk _ _ g2
    rw [decide_eq_false (by simp [e3])] at hk
    exact hk
  by_cases e4 : x.err = y.err
  rotate_left
  · try simp (disch := first | assumption | omega | (simp only [Int.ofNat_eq_natCast, neg_one]; done) | (simp only [Int.ofNat_eq_natCast, neg_one]; omega)) only [tysW, wB, mB, Nat.reduceAdd, Nat.reduceMul, List.length_cons, List.length_nil, ldB b1, clB b1, ldBL b1, clBL b1, ldB b2, clB b2, ldBL b2, clBL b2]
    unfold X68_2
    try simp (disch := first | assumption | omega | (simp only [Int.ofNat_eq_natCast, neg_one]; done) | (simp only [Int.ofNat_eq_natCast, neg_one]; omega)) only [tysW, wB, mB, Nat.reduceAdd, Nat.reduceMul, List.length_cons, List.length_nil, ldB b1, clB b1, ldBL b1, clBL b1, ldB b2, clB b2, ldBL b2, clBL b2]
    unfold X68_1
    try simp (disch := first | assumption | omega | (simp only [Int.ofNat_eq_natCast, neg_one]; done) | (simp only [Int.ofNat_eq_natCast, neg_one]; omega)) only [tysW, wB, mB, Nat.reduceAdd, Nat.reduceMul, List.length_cons, List.length_nil]
    have hk := hk _ _ g2
    rw [decide_eq_false (by simp [e4])] at hk
    exact hk
  try simp (disch := first | assumption | omega | (simp only [Int.ofNat_eq_natCast, neg_one]; done) | (simp only [Int.ofNat_eq_natCast, neg_one]; omega)) only [tysW, wB, mB, Nat.reduceAdd, Nat.reduceMul, List.length_cons, List.length_nil, ldB b1, clB b1, ldBL b1, clBL b1, ldB b2, clB b2, ldBL b2, clBL b2]
  unfold X68_2
  try simp (disch := first | assumption | omega | (simp only [Int.ofNat_eq_natCast, neg_one]; done) | (simp only [Int.ofNat_eq_natCast, neg_one]; omega)) only [tysW, wB, mB, Nat.reduceAdd, Nat.reduceMul, List.length_cons, List.length_nil, ldB b1, clB b1, ldBL b1, clBL b1, ldB b2, clB b2, ldBL b2, clBL b2]
  refine ValS.go g2 hp (s98 (d := d + 1) hN g2.fresh (g2.row hf r.n) (g2.row hf r'.n) (by omega)) fun h3 s3 g3 c3 => ?_
  replace b1 := c3.box b1 (by omega)
  replace b2 := c3.box b2 (by omega)
  by_cases e5 : nl = nl'
  rotate_left
  · rw [decide_eq_false e5]
    unfold X68_1
    try simp (disch := first | assumption | omega | (simp only [Int.ofNat_eq_natCast, neg_one]; done) | (simp only [Int.ofNat_eq_natCast, neg_one]; omega)) only [tysW, wB, mB, Nat.reduceAdd, Nat.reduceMul, List.length_cons, List.length_nil]
    have hk := hk _ _ g3
    rw [decide_eq_false (by simp [e5])] at hk
    exact hk
  rw [decide_eq_true e5]
  unfold X68_1
  by_cases e6 : x.ex = y.ex
  rotate_left
  · have q : (x.ex == y.ex) = false := by simpa using e6
    try simp (disch := first | assumption | omega | (simp only [Int.ofNat_eq_natCast, neg_one]; done) | (simp only [Int.ofNat_eq_natCast, neg_one]; omega)) only [tysW, wB, mB, Nat.reduceAdd, Nat.reduceMul, List.length_cons, List.length_nil, ldB b1, clB b1, ldBL b1, clBL b1, ldB b2, clB b2, ldBL b2, clBL b2, eqb_4, q]
    have hk := hk _ _ g3
    rw [decide_eq_false (by simp [e6])] at hk
    exact hk
  have q : (x.ex == y.ex) = true := by simpa using e6
  try simp (disch := first | assumption | omega | (simp only [Int.ofNat_eq_natCast, neg_one]; done) | (simp only [Int.ofNat_eq_natCast, neg_one]; omega)) only [tysW, wB, mB, Nat.reduceAdd, Nat.reduceMul, List.length_cons, List.length_nil, ldB b1, clB b1, ldBL b1, clBL b1, ldB b2, clB b2, ldBL b2, clBL b2, eqb_4, q]
  refine ValS.go g3 hp (s131 (d := d) hN g3.fresh x.b y.b (g3.row hf r.y) (g3.row hf r.p.row) (g3.row hf r'.y) (g3.row hf r'.p.row) (by omega) (by omega)) fun h4 s4 g4 c4 => ?_
  have hk := hk _ _ g4
  cases e7 : sameB x.b y.b xl pl xl' pl' with
  | true =>
    try simp (disch := first | assumption | omega | (simp only [Int.ofNat_eq_natCast, neg_one]; done) | (simp only [Int.ofNat_eq_natCast, neg_one]; omega)) only [tysW, wB, mB, Nat.reduceAdd, Nat.reduceMul, List.length_cons, List.length_nil]
    rw [decide_eq_true ⟨e1, e2, e3, e4, e5, e6, e7⟩] at hk
    exact hk
  | false =>
    try simp (disch := first | assumption | omega | (simp only [Int.ofNat_eq_natCast, neg_one]; done) | (simp only [Int.ofNat_eq_natCast, neg_one]; omega)) only [tysW, wB, mB, Nat.reduceAdd, Nat.reduceMul, List.length_cons, List.length_nil]
    rw [decide_eq_false (by simp [e7])] at hk
    exact hk
end
end Go.Ev.R
namespace Go.Ev.R
open Go Go.RowKit
theorem D_21 (N d : Nat) (K : KV) (s : Nat) : D N (d + 1) 21 [] K s = K (.bool true) s := by kernel_rfl
theorem belB_range (b : BV) (xl pl : List Int) : ∀ y ∈ belB b xl pl, 0 ≤ y ∧ y < 256 := by
  intro y hy
  unfold belB at hy
  simp only [List.mem_append] at hy
  rcases hy with h | h | h | h | h | h
  · exact be_range _ _ y h
  · exact be_range _ _ y h
  · exact be_range _ _ y h
  · exact be_range _ _ y h
  · exact lis_range _ y h
  · exact lis_range _ y h
theorem letP_range (x : TV) (nl xl pl : List Int) (c : UInt8) : ∀ y ∈ letP x nl xl pl c, 0 ≤ y ∧ y < 256 := by
  intro y hy
  unfold letP at hy
  split at hy
  · exact be_range _ _ y hy
  split at hy
  · exact be_range _ _ y hy
  split at hy
  · exact be_range _ _ y hy
  split at hy
  · exact lis_range _ y hy
  split at hy
  · exact be_range _ _ y hy
  · exact belB_range _ _ _ y hy
theorem encT_range (x : TV) (nl xl pl : List Int) : ∀ y ∈ encT x nl xl pl, 0 ≤ y ∧ y < 256 := by
  intro y hy
  rcases List.mem_append.1 hy with h | h
  · exact be_range _ _ y h
  · obtain ⟨c, -, h⟩ := List.mem_flatMap.1 h
    exact letP_range x nl xl pl c y h
theorem bytesT_range (x : TV) (nl xl pl : List Int) : ∀ y ∈ bytesT x nl xl pl, 0 ≤ y ∧ y < 256 := by
  intro y hy
  unfold bytesT at hy
  split at hy
  · cases hy
  · exact encT_range x nl xl pl y hy
end Go.Ev.R
namespace Go.Ev.R
open Go Go.RowKit
section
variable {N d : Nat} (hN : N = 100000) {h : T} {s : Nat} (hf : ∀ n, s ≤ n → h.get n = none)
include hN hf
theorem s12 (x : TV) {nl xl pl : List Int} (rn : Sl EI h x.np x.nn x.nc nl) (rx : Sl EI h x.b.xp x.b.xn x.b.xc xl) (rp : Sl EI h x.b.pp x.b.pn x.b.pc pl) : ValS (D N (d + 13)) 12 [.agg ⟨tvv x⟩] h s (.bool true) := by
  refine ValS.of hf fun K pw Z g hp hk => ?_
  rw [D_12]; unfold F12; rw [app1_eq]
  unfold X12_4
  refine wp_boxA g hp fun h1 g1 c1 b1 => ?_
  simp only [tvv] at b1
  try simp (disch := first | assumption | omega | (simp only [Int.ofNat_eq_natCast, neg_one]; done) | (simp only [Int.ofNat_eq_natCast, neg_one]; omega)) only [tysW, wB, mB, Nat.reduceAdd, Nat.reduceMul, List.length_cons, List.length_nil, ldB b1, clB b1, ldBL b1, clBL b1]
  refine ValS.go g1 hp (s63 (d := d + 11) g1.fresh x) fun h2 s2 g2 c2 => ?_
  have l2 := c2.le
  replace b1 := c2.box b1 (by omega)
  cases hlong : longT x with
  | true =>
    try simp (disch := first | assumption | omega | (simp only [Int.ofNat_eq_natCast, neg_one]; done) | (simp only [Int.ofNat_eq_natCast, neg_one]; omega)) only [tysW, wB, mB, Nat.reduceAdd, Nat.reduceMul, List.length_cons, List.length_nil]
    rw [D_21]
    exact hk _ _ g2
  | false =>
  have hsm := of_decide_eq_false hlong
  have m1 : x.nn ≤ 60 := by omega
  have m2 : x.b.xn ≤ 60 := by omega
  have m3 : x.b.pn ≤ 60 := by omega
  try simp (disch := first | assumption | omega | (simp only [Int.ofNat_eq_natCast, neg_one]; done) | (simp only [Int.ofNat_eq_natCast, neg_one]; omega)) only [tysW, wB, mB, Nat.reduceAdd, Nat.reduceMul, List.length_cons, List.length_nil, ldB b1, clB b1, ldBL b1, clBL b1]
  refine PureS.go g2 hp (s64 (d := d + 9) g2.fresh x (rn.from hf g2) (rx.from hf g2) (rp.from hf g2) (by omega) (by omega) (by omega)) fun v h3 s3 g3 c3 hv => ?_
  obtain ⟨p1, p2, p3, rfl, o1, o2, o3⟩ := hv
  have l3 := c3.le
  have o1l := o1.lt g3.fresh
  have o2l := o2.lt g3.fresh
  have o3l := o3.lt g3.fresh
  replace b1 := c3.box b1 (by omega)
  try simp (disch := first | assumption | omega | (simp only [Int.ofNat_eq_natCast, neg_one]; done) | (simp only [Int.ofNat_eq_natCast, neg_one]; omega)) only [tysW, wB, mB, Nat.reduceAdd, Nat.reduceMul, List.length_cons, List.length_nil]
  refine wp_boxA g3 hp fun h4 g4 c4 b4 => ?_
  replace b1 := c4.box b1 (by omega)
  try simp (disch := first | assumption | omega | (simp only [Int.ofNat_eq_natCast, neg_one]; done) | (simp only [Int.ofNat_eq_natCast, neg_one]; omega)) only [tysW, wB, mB, Nat.reduceAdd, Nat.reduceMul, List.length_cons, List.length_nil, tvv, cpT, cpB]
  refine wp_putF g4 hp b4 (by omega) (by simp) rfl fun h5 g5 b5 e5 => ?_
  simp only [overL] at b5
  replace b1 := (e5 s (by omega)).trans b1
  replace o1 := (o1.from g3.fresh c4).but fun hp => e5 _ (by have := o1l hp; omega)
  replace o2 := (o2.from g3.fresh c4).but fun hp => e5 _ (by have := o2l hp; omega)
  replace o3 := (o3.from g3.fresh c4).but fun hp => e5 _ (by have := o3l hp; omega)
  obtain ⟨y, hy⟩ : ∃ y, y = cpT x p1 p2 p3 := ⟨_, rfl⟩
  have ry : ListsT h5 y nl xl pl := by subst hy; exact ⟨o1.sl.row, o2.sl.row, o3.sl⟩
  have ry5 := ry
  have rx' : ListsT h x nl xl pl := ⟨rn.row, rx.row, rp⟩
  have eb : badT y pl = badT x pl := by subst hy; rfl
  have ee : errT y pl = errT x pl := by unfold errT; rw [eb]
  have ec : encT y nl xl pl = encT x nl xl pl := by subst hy; rfl
  have en : bytesT y nl xl pl = bytesT x nl xl pl := by unfold bytesT; rw [eb, ec]
  have es : sameT y x nl xl pl nl xl pl = true := by subst hy; simp [sameT, sameB, cpT, cpB]
  have yp : y.b.pn ≤ 60 := by subst hy; exact m3
  have yx : y.b.xn ≤ 60 := by subst hy; exact m2
  have yn : y.nn ≤ 60 := by subst hy; exact m1
  have b5 : h5.get s3 = some (.cells ⟨tvv y⟩ 60 (0, 0)) := by subst hy; exact b5
  have b5' := b5
  simp only [tvv] at b5'
  try simp (disch := first | assumption | omega | (simp only [Int.ofNat_eq_natCast, neg_one]; done) | (simp only [Int.ofNat_eq_natCast, neg_one]; omega)) only [tysW, wB, mB, Nat.reduceAdd, Nat.reduceMul, List.length_cons, List.length_nil, ldB b5', clB b5', ldBL b5', clBL b5']
  refine PureS.go g5 hp (s65 (d := d) hN g5.fresh y ry (by omega) (by omega)) fun v h6 s6 g6 c6 hv => ?_
  obtain ⟨pa, la, rfl, oa, hla⟩ := hv
  have l6 := c6.le
  rw [en] at oa
  rw [ee]
  have oal := oa.lt g6.fresh
  replace b1 := c6.box b1 (by omega)
  replace b5' := c6.box b5' (by omega)
  replace ry := ry.from g5.fresh c6
  try simp (disch := first | assumption | omega | (simp only [Int.ofNat_eq_natCast, neg_one]; done) | (simp only [Int.ofNat_eq_natCast, neg_one]; omega)) only [tysW, wB, mB, Nat.reduceAdd, Nat.reduceMul, List.length_cons, List.length_nil, ldB b1, clB b1, ldBL b1, clBL b1]
  refine PureS.go g6 hp (s66 (d := d) hN g6.fresh x (rx'.from hf g6) (by omega) (by omega)) fun v h7 s7 g7 c7 hv => ?_
  obtain ⟨pb, lb, rfl, ob⟩ := hv
  have l7 := c7.le
  replace b1 := c7.box b1 (by omega)
  replace b5' := c7.box b5' (by omega)
  replace ry := ry.from g6.fresh c7
  replace oa := oa.from g6.fresh c7
  try simp (disch := first | assumption | omega | (simp only [Int.ofNat_eq_natCast, neg_one]; done) | (simp only [Int.ofNat_eq_natCast, neg_one]; omega)) only [tysW, wB, mB, Nat.reduceAdd, Nat.reduceMul, List.length_cons, List.length_nil]
  refine ValS.goL g7 hp (s19 (d := d + 11) g7.fresh oa.sl.row ob.sl.row (bytesT_range x nl xl pl) (bytesT_range x nl xl pl)) fun h8 s8 ts8 ws8 g8 c8 hw8 ht8 => ?_
  have l8 := c8.le
  replace b1 := c8.box b1 (by omega)
  replace b5' := c8.box b5' (by omega)
  replace ry := ry.from g7.fresh c8
  replace oa := oa.from g7.fresh c8
  rw [decide_eq_true rfl]
  have ern : errT x pl = (if badT x pl = true then 2 else 0) := rfl
  obtain ⟨e, he⟩ : ∃ e, e = errT x pl := ⟨_, rfl⟩
  rw [← he] at ern ⊢
  unfold X12_3
  try simp (disch := first | assumption | omega | (simp only [Int.ofNat_eq_natCast, neg_one]; done) | (simp only [Int.ofNat_eq_natCast, neg_one]; omega)) only [tysW, wB, mB, Nat.reduceAdd, Nat.reduceMul, List.length_cons, List.length_nil, ldB b5', clB b5', ldBL b5', clBL b5']
  refine ValS.goL g8 hp (s36 (d := d + 1) hN g8.fresh y ry.p.row (by omega) (by omega)) fun h9 s9 ts9 ws9 g9 c9 hw9 ht9 => ?_
  have l9 := c9.le
  replace b1 := c9.box b1 (by omega)
  replace b5' := c9.box b5' (by omega)
  replace ry := ry.from g8.fresh c9
  replace oa := oa.from g8.fresh c9
  rw [eb, ← ern]
  unfold X12_2
  try simp (disch := first | assumption | omega | (simp only [Int.ofNat_eq_natCast, neg_one]; done) | (simp only [Int.ofNat_eq_natCast, neg_one]; omega)) only [tysW, wB, mB, Nat.reduceAdd, Nat.reduceMul, List.length_cons, List.length_nil, ldB b1, clB b1, ldBL b1, clBL b1]
  refine ValS.goL g9 hp (s67 (d := d + 1) hN g9.fresh x (rp.from hf g9).row (by omega) (by omega)) fun h10 s10 ts10 ws10 g10 c10 hw10 ht10 => ?_
  have l10 := c10.le
  replace b1 := c10.box b1 (by omega)
  replace b5' := c10.box b5' (by omega)
  replace ry := ry.from g9.fresh c10
  replace oa := oa.from g9.fresh c10
  rw [← ern]
  try simp (disch := first | assumption | omega | (simp only [Int.ofNat_eq_natCast, neg_one]; done) | (simp only [Int.ofNat_eq_natCast, neg_one]; omega)) only [tysW, wB, mB, Nat.reduceAdd, Nat.reduceMul, List.length_cons, List.length_nil]
  try unfold X12_1
  try simp (disch := first | assumption | omega | (simp only [Int.ofNat_eq_natCast, neg_one]; done) | (simp only [Int.ofNat_eq_natCast, neg_one]; omega)) only [tysW, wB, mB, Nat.reduceAdd, Nat.reduceMul, List.length_cons, List.length_nil]
  rw [wp_guard, if_pos (by repeat' (first | exact dynOk_nil _ _ | refine dyn_skip' ?_ | refine dyn_cons ?_ ?_ | exact allF_nil _ _ | refine allF_cons ?_ ?_ | exact disj_below hw8 (by omega) | exact disjA hw8 (by omega) | exact disjB hw8 (by omega) | exact disjC hw8 (by assumption) | exact disjD (fun m hm => by have := hw8 m hm; omega) | exact disj_below ht8 (by omega) | exact disjA ht8 (by omega) | exact disjB ht8 (by omega) | exact disjC ht8 (by assumption) | exact disjD (fun m hm => by have := ht8 m hm; omega) | exact disj_below hw9 (by omega) | exact disjA hw9 (by omega) | exact disjB hw9 (by omega) | exact disjC hw9 (by assumption) | exact disjD (fun m hm => by have := hw9 m hm; omega) | exact disj_below ht9 (by omega) | exact disjA ht9 (by omega) | exact disjB ht9 (by omega) | exact disjC ht9 (by assumption) | exact disjD (fun m hm => by have := ht9 m hm; omega) | exact disj_below hw10 (by omega) | exact disjA hw10 (by omega) | exact disjB hw10 (by omega) | exact disjC hw10 (by assumption) | exact disjD (fun m hm => by have := hw10 m hm; omega) | exact disj_below ht10 (by omega) | exact disjA ht10 (by omega) | exact disjB ht10 (by omega) | exact disjC ht10 (by assumption) | exact disjD (fun m hm => by have := ht10 m hm; omega) | exact disjN _ | exact disj1 (by omega) | exact disj2 (by omega) | exact disj3 (by assumption) | exact disjC hw8 (fun m hm => by have := ht8 m hm; omega) | exact disjC hw8 (fun m hm => by have := hw9 m hm; omega) | exact disjC hw8 (fun m hm => by have := ht9 m hm; omega) | exact disjC hw8 (fun m hm => by have := hw10 m hm; omega) | exact disjC hw8 (fun m hm => by have := ht10 m hm; omega) | exact disjC ht8 (fun m hm => by have := hw8 m hm; omega) | exact disjC ht8 (fun m hm => by have := hw9 m hm; omega) | exact disjC ht8 (fun m hm => by have := ht9 m hm; omega) | exact disjC ht8 (fun m hm => by have := hw10 m hm; omega) | exact disjC ht8 (fun m hm => by have := ht10 m hm; omega) | exact disjC hw9 (fun m hm => by have := hw8 m hm; omega) | exact disjC hw9 (fun m hm => by have := ht8 m hm; omega) | exact disjC hw9 (fun m hm => by have := ht9 m hm; omega) | exact disjC hw9 (fun m hm => by have := hw10 m hm; omega) | exact disjC hw9 (fun m hm => by have := ht10 m hm; omega) | exact disjC ht9 (fun m hm => by have := hw8 m hm; omega) | exact disjC ht9 (fun m hm => by have := ht8 m hm; omega) | exact disjC ht9 (fun m hm => by have := hw9 m hm; omega) | exact disjC ht9 (fun m hm => by have := hw10 m hm; omega) | exact disjC ht9 (fun m hm => by have := ht10 m hm; omega) | exact disjC hw10 (fun m hm => by have := hw8 m hm; omega) | exact disjC hw10 (fun m hm => by have := ht8 m hm; omega) | exact disjC hw10 (fun m hm => by have := hw9 m hm; omega) | exact disjC hw10 (fun m hm => by have := ht9 m hm; omega) | exact disjC hw10 (fun m hm => by have := ht10 m hm; omega) | exact disjC ht10 (fun m hm => by have := hw8 m hm; omega) | exact disjC ht10 (fun m hm => by have := ht8 m hm; omega) | exact disjC ht10 (fun m hm => by have := hw9 m hm; omega) | exact disjC ht10 (fun m hm => by have := ht9 m hm; omega) | exact disjC ht10 (fun m hm => by have := hw10 m hm; omega)))]
  refine s27 (d := d + 11) (by omega) g10 hp (oa.less (by omega)) (by omega) fun h11 g11 e11 => ?_
  replace b1 := (e11 s fun hp => by have := oal hp; omega).trans b1
  replace b5' := (e11 s3 fun hp => by have := oal hp; omega).trans b5'
  have c11 : From (s3 + 1) h5 h11 s10 := ⟨by omega, fun n hn => by rw [e11 n (fun hp => by have := oal hp; omega), c10.keep n (by omega), c9.keep n (by omega), c8.keep n (by omega), c7.keep n (by omega), c6.keep n hn], g11.fresh⟩
  have ry11 := ry5.from g5.fresh c11
  try simp (disch := first | assumption | omega | (simp only [Int.ofNat_eq_natCast, neg_one]; done) | (simp only [Int.ofNat_eq_natCast, neg_one]; omega)) only [tysW, wB, mB, Nat.reduceAdd, Nat.reduceMul, List.length_cons, List.length_nil, ldB b1, clB b1, ldBL b1, clBL b1, ldB b5', clB b5', ldBL b5', clBL b5']
  refine ValS.go g11 hp (s68 (d := d + 9) (by omega) g11.fresh y x ry11 (rx'.from hf g11) (by omega) (by omega) (by omega)) fun h12 s12 g12 c12 => ?_
  have hk := hk _ _ g12
  rw [es]
  try simp (disch := first | assumption | omega | (simp only [Int.ofNat_eq_natCast, neg_one]; done) | (simp only [Int.ofNat_eq_natCast, neg_one]; omega)) only [tysW, wB, mB, Nat.reduceAdd, Nat.reduceMul, List.length_cons, List.length_nil]
  rw [D_21]
  try simp (disch := first | assumption | omega | (simp only [Int.ofNat_eq_natCast, neg_one]; done) | (simp only [Int.ofNat_eq_natCast, neg_one]; omega)) only [tysW, wB, mB, Nat.reduceAdd, Nat.reduceMul, List.length_cons, List.length_nil]
  exact hk
end
end Go.Ev.R

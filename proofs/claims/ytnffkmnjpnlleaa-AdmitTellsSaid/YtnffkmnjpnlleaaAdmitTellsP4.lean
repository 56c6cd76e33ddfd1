/- The law AdmitTells, part 4: what the functions answer, by their terms. No condition. -/
import Derived.Test.YtnffkmnjpnlleaaAdmitTellsP3
set_option linter.unusedVariables false
set_option linter.unusedSimpArgs false
set_option maxRecDepth 100000
namespace Go.Ev.R
open Go Go.RowKit
/-- One's own list, added to. -/
theorem apL {h0 h : T} {s0 s n8 f len n c : Nat} {q : Option Addr} {l l2 : List K3} {pw : Nat → Prop} {Z : Value → T → Prop} {j : LogT} (g : From s0 h0 h s) (hp : ∀ n, s0 ≤ n → pw n) (hn8 : s0 ≤ n8) (b8 : h.get n8 = some (.cells ⟨l.flatMap kv⟩ 48 (f, 0))) (hf8 : f = 0 ∨ f = 4) (hl : l.length = len) (r2 : Row EK h q n l2) (hsm : len + n ≤ 1000000)
    (hk : ∀ m f' h' s' ts ws, From s0 h0 h' s' → s ≤ s' → h'.get m = some (.cells ⟨(l ++ l2).flatMap kv⟩ 48 (f', 0)) → (f' = f ∧ n = 0 ∨ f' = 4 ∧ n ≠ 0) → n8 ≤ m → (∀ i, i ≠ n8 → i < s → h'.get i = h.get i) → (∀ i ∈ ws, n8 ≤ i ∧ i < s') → (∀ i ∈ ts, i < s') → (j (.slice (some ⟨m, 0, none⟩) (len + n) (len + n)) ts ws s').wp pw Z h') :
    (AM.log (apS 48 3 (some ⟨n8, 0, none⟩) len len q n c (fun v s => .ret (pk v s)) s) (logU j)).wp pw Z h := by
  have hns := lt_of_some g.fresh ⟨_, b8⟩
  refine log_wp (W := fun i => n8 ≤ i) (Q := fun v h' s' => ∃ m f', v = .slice (some ⟨m, 0, none⟩) (len + n) (len + n) ∧ From s0 h0 h' s' ∧ s ≤ s' ∧ h'.get m = some (.cells ⟨(l ++ l2).flatMap kv⟩ 48 (f', 0)) ∧ (f' = f ∧ n = 0 ∨ f' = 4 ∧ n ≠ 0) ∧ n8 ≤ m ∧ ∀ i, i ≠ n8 → i < s → h'.get i = h.get i) ?_ (fun i hi => hp i (by omega)) ?_
  · by_cases hz : n = 0
    · subst hz
      refine wp_ap_none (by omega) (Nat.le_refl _) ⟨_, _, rfl, n8, f, rfl, g, Nat.le_refl _, ?_, .inl ⟨rfl, rfl⟩, Nat.le_refl _, fun _ _ _ => rfl⟩
      have : l2 = [] := List.eq_nil_of_length_eq_zero r2.1
      rw [this, List.append_nil]; exact b8
    · refine Sl.addK (E := EK) (Sl.own (E := EK) b8 hf8 hl) r2 (fun _ => rfl) hz hsm (by omega) (g.fresh _ (Nat.le_refl _)) (by omega) (fun m o sp e => ?_) fun h2 b2 e2 => ?_
      · cases e
        exact ⟨Nat.le_refl _, by omega, _, _, _, _, b8, hf8⟩
      · exact ⟨_, _, rfl, s, 4, rfl, ⟨by have := g.le; omega, fun i hi => by rw [e2 i (fun _ => by show i ≠ n8; omega) (by have := g.le; omega)]; exact g.keep i hi, fun i hi => by rw [e2 i (fun _ => by show i ≠ n8; omega) (by omega)]; exact g.fresh i (by omega)⟩, by omega, b2, .inr ⟨rfl, hz⟩, by omega, fun i h1 h2 => e2 i (fun _ => h1) (by omega)⟩
  · rintro v h' s' ts ws ⟨m, f', rfl, g', hs', b', hf', hm, e'⟩ hw ht
    exact hk m f' h' s' ts ws g' hs' b' hf' hm e' (fun i hi => ⟨(hw i hi).1, lt_of_some g'.fresh (hw i hi).2⟩) fun i hi => lt_of_some g'.fresh (ht i hi)
section
variable {N d : Nat} (hN : 100000 ≤ N) {h : T} {s : Nat} (hf : ∀ n, s ≤ n → h.get n = none)
include hN hf
theorem s44 (x : SU) (base clean : Int) {p : Option Addr} {len cap : Nat} {l : List K3} (r : Sl EK h p len cap l) (hl : len ≤ 10000) : PureS (D N (d + 7)) 44 [suval x, shval base p len cap clean] h s (fun v h' s' =>
    if fitsK x base clean l = true then ∃ p', v = .tuple ⟨[shval base p' len len (clean + tickN x clean len), vi (tickN x clean len), vi 0]⟩ ∧ Own h' s p' len l else v = .tuple ⟨[shval 0 none 0 0 0, vi 0, vi 2]⟩) := by
  refine PureS.of hf fun K pw Z g hp hk => ?_
  rw [D_44]; unfold F44; rw [app2_eq]
  unfold X44_1
  refine wp_boxA g hp fun h1 g1 c1 b1 => ?_
  refine wp_boxA g1 hp fun h2 g2 c2 b2 => ?_
  try simp (disch := first | assumption | omega | (simp only [Int.ofNat_eq_natCast, neg_one]; done) | (simp only [Int.ofNat_eq_natCast, neg_one]; omega)) only [tysW, w_bindJ, w_logJ, w_ct, w_cf, w_gtt, w_gft, w_gtf, w_gff, w_pt, w_pf, w_lret, w_e0, w_e1, w_e2, w_nil, w_fun, w_nt, w_nf, w_add, w_sub, w_eqt, w_eqf, w_net, w_nef, w_ltt, w_ltf, w_let, w_lef, w_gtt', w_gtf', w_get, w_gef, toNat_of, of_add, cast_add, nth_0, nth_s, Nat.zero_add, Nat.reduceAdd, Nat.reduceMul, Nat.add_zero, List.length_cons, List.length_nil, List.drop_zero, List.drop_succ_cons, List.take_succ_cons, List.take_zero, List.take_nil, true_and, and_true, Int.toNat_natCast, List.append_nil, List.nil_append, List.cons_append]
  refine wp_boxA g2 hp fun h3 g3 c3 b3 => ?_
  replace b1 := (c2.trans c3).box b1 (by omega)
  replace b2 := c3.box b2 (by omega)
  simp only [suv, shv] at b1 b2
  have r0 := r.from hf g3
  try simp (disch := first | assumption | omega | (simp only [Int.ofNat_eq_natCast, neg_one]; done) | (simp only [Int.ofNat_eq_natCast, neg_one]; omega)) only [tysW, w_bindJ, w_logJ, w_ct, w_cf, w_gtt, w_gft, w_gtf, w_gff, w_pt, w_pf, w_lret, w_e0, w_e1, w_e2, w_nil, w_fun, w_nt, w_nf, w_add, w_sub, w_eqt, w_eqf, w_net, w_nef, w_ltt, w_ltf, w_let, w_lef, w_gtt', w_gtf', w_get, w_gef, toNat_of, of_add, cast_add, nth_0, nth_s, Nat.zero_add, Nat.reduceAdd, Nat.reduceMul, Nat.add_zero, List.length_cons, List.length_nil, List.drop_zero, List.drop_succ_cons, List.take_succ_cons, List.take_zero, List.take_nil, true_and, and_true, Int.toNat_natCast, List.append_nil, List.nil_append, List.cons_append, ldB b1, clB b1, ldBL b1, clBL b1, ldB b2, clB b2, ldBL b2, clBL b2]
  refine ValS.go g3 hp (s48 (d := d) hN g3.fresh x base clean r0 hl) fun h4 s4 g4 c4 => ?_
  have l4 := c4.le
  have B1 := c4.box b1 (by omega)
  have B2 := c4.box b2 (by omega)
  have B3 := c4.box b3 (by omega)
  have hlen := r.row.1
  cases e1 : fitsK x base clean l with
  | false =>
    try simp (disch := first | assumption | omega | (simp only [Int.ofNat_eq_natCast, neg_one]; done) | (simp only [Int.ofNat_eq_natCast, neg_one]; omega)) only [tysW, w_bindJ, w_logJ, w_ct, w_cf, w_gtt, w_gft, w_gtf, w_gff, w_pt, w_pf, w_lret, w_e0, w_e1, w_e2, w_nil, w_fun, w_nt, w_nf, w_add, w_sub, w_eqt, w_eqf, w_net, w_nef, w_ltt, w_ltf, w_let, w_lef, w_gtt', w_gtf', w_get, w_gef, toNat_of, of_add, cast_add, nth_0, nth_s, Nat.zero_add, Nat.reduceAdd, Nat.reduceMul, Nat.add_zero, List.length_cons, List.length_nil, List.drop_zero, List.drop_succ_cons, List.take_succ_cons, List.take_zero, List.take_nil, true_and, and_true, Int.toNat_natCast, List.append_nil, List.nil_append, List.cons_append, show errI false = 2 from rfl]
    refine wp_putF g4 hp B3 (by omega) (by simp) rfl fun h5 g5 b5 e5 => ?_
    simp only [overL] at b5
    try simp (disch := first | assumption | omega | (simp only [Int.ofNat_eq_natCast, neg_one]; done) | (simp only [Int.ofNat_eq_natCast, neg_one]; omega)) only [tysW, w_bindJ, w_logJ, w_ct, w_cf, w_gtt, w_gft, w_gtf, w_gff, w_pt, w_pf, w_lret, w_e0, w_e1, w_e2, w_nil, w_fun, w_nt, w_nf, w_add, w_sub, w_eqt, w_eqf, w_net, w_nef, w_ltt, w_ltf, w_let, w_lef, w_gtt', w_gtf', w_get, w_gef, toNat_of, of_add, cast_add, nth_0, nth_s, Nat.zero_add, Nat.reduceAdd, Nat.reduceMul, Nat.add_zero, List.length_cons, List.length_nil, List.drop_zero, List.drop_succ_cons, List.take_succ_cons, List.take_zero, List.take_nil, true_and, and_true, Int.toNat_natCast, List.append_nil, List.nil_append, List.cons_append, ldB b5, clB b5, ldBL b5, clBL b5]
    refine hk _ _ _ g5 ?_
    rw [if_neg (by simp [e1])]
    rfl
  | true =>
    obtain ⟨f1, f2, f3, f4, f5, f6⟩ := fits_iff.1 e1
    obtain ⟨q1, q2, q3, q4, q5, q6⟩ := chk_keep f1
    rw [hlen] at f3 f5
    have ht : min x.budget ((len : Int) - clean) = tickN x clean len := rfl
    have htn : 0 ≤ tickN x clean len ∧ tickN x clean len ≤ (len : Int) - clean := by unfold tickN; omega
    try simp (disch := first | assumption | omega | (simp only [Int.ofNat_eq_natCast, neg_one]; done) | (simp only [Int.ofNat_eq_natCast, neg_one]; omega)) only [tysW, w_bindJ, w_logJ, w_ct, w_cf, w_gtt, w_gft, w_gtf, w_gff, w_pt, w_pf, w_lret, w_e0, w_e1, w_e2, w_nil, w_fun, w_nt, w_nf, w_add, w_sub, w_eqt, w_eqf, w_net, w_nef, w_ltt, w_ltf, w_let, w_lef, w_gtt', w_gtf', w_get, w_gef, toNat_of, of_add, cast_add, nth_0, nth_s, Nat.zero_add, Nat.reduceAdd, Nat.reduceMul, Nat.add_zero, List.length_cons, List.length_nil, List.drop_zero, List.drop_succ_cons, List.take_succ_cons, List.take_zero, List.take_nil, true_and, and_true, Int.toNat_natCast, List.append_nil, List.nil_append, List.cons_append, ldB B1, clB B1, ldBL B1, clBL B1, ldB B2, clB B2, ldBL B2, clBL B2, show errI true = 0 from rfl, blt_min]
    rw [ht]
    refine wp_newF g4 hp fun h5 g5 c5 b5 => ?_
    replace B2 := c5.box B2 (by omega)
    replace B3 := c5.box B3 (by omega)
    have r5 := r.from hf g5
    try simp (disch := first | assumption | omega | (simp only [Int.ofNat_eq_natCast, neg_one]; done) | (simp only [Int.ofNat_eq_natCast, neg_one]; omega)) only [tysW, w_bindJ, w_logJ, w_ct, w_cf, w_gtt, w_gft, w_gtf, w_gff, w_pt, w_pf, w_lret, w_e0, w_e1, w_e2, w_nil, w_fun, w_nt, w_nf, w_add, w_sub, w_eqt, w_eqf, w_net, w_nef, w_ltt, w_ltf, w_let, w_lef, w_gtt', w_gtf', w_get, w_gef, toNat_of, of_add, cast_add, nth_0, nth_s, Nat.zero_add, Nat.reduceAdd, Nat.reduceMul, Nat.add_zero, List.length_cons, List.length_nil, List.drop_zero, List.drop_succ_cons, List.take_succ_cons, List.take_zero, List.take_nil, true_and, and_true, Int.toNat_natCast, List.append_nil, List.nil_append, List.cons_append, ldB B2, clB B2, ldBL B2, clBL B2]
    have fin : ∀ (m f : Nat) (h6 : T) (s6 : Nat), From s h h6 s6 → h6.get m = some (.cells ⟨l.flatMap kv⟩ 48 (f, 0)) → (f = 0 ∨ f = 4 ∧ len ≠ 0) → s4 ≤ m → h6.get (s + 1) = some (.cells ⟨[vi base, .slice p len cap, vi clean]⟩ 46 (0, 0)) → h6.get (s + 1 + 1) = some (.cells ⟨[.int .i64 (Int.ofNat 0), .slice none 0 0, .int .i64 (Int.ofNat 0)]⟩ 46 (0, 0)) →
        (fa 46 (.pointer (some ⟨s + 1, 0, none⟩)) 1 (fun v25 s_1 => st 44 v25 (.slice (some ⟨m, 0, none⟩) len len) (fun _ s_2 => fa 46 (.pointer (some ⟨s + 1, 0, none⟩)) 2 (fun v26 s_3 => ld 3 v26 (fun v27 s_4 => addX P 3 3 false false v27 (vi (tickN x clean len)) (fun v28 s_5 => fa 46 (.pointer (some ⟨s + 1, 0, none⟩)) 2 (fun v29 s_6 => st 3 v29 v28 (fun _ s_7 => ld 46 (.pointer (some ⟨s + 1, 0, none⟩)) (fun v30 s_8 => st 46 (.pointer (some ⟨s + 1 + 1, 0, none⟩)) v30 (fun _ s_9 => aloadAt P 46 (.pointer (some ⟨s + 1 + 1, 0, none⟩)) (fun v31 s_10 => K (.tuple ⟨[v31, vi (tickN x clean len), i64 0]⟩) s_10) s_9) s_8) s_7) s_6) s_5) s_4) s_3) s_2) s_1) s6).wp pw Z h6 := by
      intro m f h6 s6 g6 b6 hff hm B2 B3
      try simp (disch := first | assumption | omega | (simp only [Int.ofNat_eq_natCast, neg_one]; done) | (simp only [Int.ofNat_eq_natCast, neg_one]; omega)) only [tysW, w_bindJ, w_logJ, w_ct, w_cf, w_gtt, w_gft, w_gtf, w_gff, w_pt, w_pf, w_lret, w_e0, w_e1, w_e2, w_nil, w_fun, w_nt, w_nf, w_add, w_sub, w_eqt, w_eqf, w_net, w_nef, w_ltt, w_ltf, w_let, w_lef, w_gtt', w_gtf', w_get, w_gef, toNat_of, of_add, cast_add, nth_0, nth_s, Nat.zero_add, Nat.reduceAdd, Nat.reduceMul, Nat.add_zero, List.length_cons, List.length_nil, List.drop_zero, List.drop_succ_cons, List.take_succ_cons, List.take_zero, List.take_nil, true_and, and_true, Int.toNat_natCast, List.append_nil, List.nil_append, List.cons_append]
      refine wp_putF g6 hp B2 (by omega) (by simp) rfl fun h7 g7 b7 e7 => ?_
      simp only [overL] at b7
      try simp (disch := first | assumption | omega | (simp only [Int.ofNat_eq_natCast, neg_one]; done) | (simp only [Int.ofNat_eq_natCast, neg_one]; omega)) only [tysW, w_bindJ, w_logJ, w_ct, w_cf, w_gtt, w_gft, w_gtf, w_gff, w_pt, w_pf, w_lret, w_e0, w_e1, w_e2, w_nil, w_fun, w_nt, w_nf, w_add, w_sub, w_eqt, w_eqf, w_net, w_nef, w_ltt, w_ltf, w_let, w_lef, w_gtt', w_gtf', w_get, w_gef, toNat_of, of_add, cast_add, nth_0, nth_s, Nat.zero_add, Nat.reduceAdd, Nat.reduceMul, Nat.add_zero, List.length_cons, List.length_nil, List.drop_zero, List.drop_succ_cons, List.take_succ_cons, List.take_zero, List.take_nil, true_and, and_true, Int.toNat_natCast, List.append_nil, List.nil_append, List.cons_append, ldB b7, clB b7, ldBL b7, clBL b7]
      refine wp_putF g7 hp b7 (by omega) (by simp) rfl fun h8 g8 b8 e8 => ?_
      simp only [overL] at b8
      try simp (disch := first | assumption | omega | (simp only [Int.ofNat_eq_natCast, neg_one]; done) | (simp only [Int.ofNat_eq_natCast, neg_one]; omega)) only [tysW, w_bindJ, w_logJ, w_ct, w_cf, w_gtt, w_gft, w_gtf, w_gff, w_pt, w_pf, w_lret, w_e0, w_e1, w_e2, w_nil, w_fun, w_nt, w_nf, w_add, w_sub, w_eqt, w_eqf, w_net, w_nef, w_ltt, w_ltf, w_let, w_lef, w_gtt', w_gtf', w_get, w_gef, toNat_of, of_add, cast_add, nth_0, nth_s, Nat.zero_add, Nat.reduceAdd, Nat.reduceMul, Nat.add_zero, List.length_cons, List.length_nil, List.drop_zero, List.drop_succ_cons, List.take_succ_cons, List.take_zero, List.take_nil, true_and, and_true, Int.toNat_natCast, List.append_nil, List.nil_append, List.cons_append, ldB b8, clB b8, ldBL b8, clBL b8]
      have B3' := (e8 (s + 1 + 1) (by omega)).trans ((e7 (s + 1 + 1) (by omega)).trans B3)
      refine wp_putF g8 hp B3' (by omega) (by simp) rfl fun h9 g9 b9 e9 => ?_
      simp only [overL] at b9
      try simp (disch := first | assumption | omega | (simp only [Int.ofNat_eq_natCast, neg_one]; done) | (simp only [Int.ofNat_eq_natCast, neg_one]; omega)) only [tysW, w_bindJ, w_logJ, w_ct, w_cf, w_gtt, w_gft, w_gtf, w_gff, w_pt, w_pf, w_lret, w_e0, w_e1, w_e2, w_nil, w_fun, w_nt, w_nf, w_add, w_sub, w_eqt, w_eqf, w_net, w_nef, w_ltt, w_ltf, w_let, w_lef, w_gtt', w_gtf', w_get, w_gef, toNat_of, of_add, cast_add, nth_0, nth_s, Nat.zero_add, Nat.reduceAdd, Nat.reduceMul, Nat.add_zero, List.length_cons, List.length_nil, List.drop_zero, List.drop_succ_cons, List.take_succ_cons, List.take_zero, List.take_nil, true_and, and_true, Int.toNat_natCast, List.append_nil, List.nil_append, List.cons_append, ldB b9, clB b9, ldBL b9, clBL b9]
      refine hk _ _ _ g9 ?_
      rw [if_pos e1]
      exact ⟨_, rfl, hlen, .inr ⟨m, f, rfl, by omega, by rw [e9 m (by omega), e8 m (by omega), e7 m (by omega)]; exact b6, hff⟩⟩
    by_cases h0 : len = 0
    · subst h0
      have hl0 := List.eq_nil_of_length_eq_zero hlen
      subst hl0
      exact wp_ap_none (by omega) (by omega) (fin s4 0 h5 _ g5 b5 (.inl rfl) (Nat.le_refl _) B2 B3)
    · refine Sl.addK (E := EK) (l := []) (Sl.own (len := 0) b5 (.inl rfl) rfl) r5.row (fun _ => rfl) h0 (by omega) (by omega) (g5.fresh _ (Nat.le_refl _)) (hp _ (by omega)) (fun m o sp e => ?_) fun h6 b6 e6 => ?_
      · cases e
        exact ⟨hp _ (by omega), by omega, _, _, _, _, b5, .inl rfl⟩
      · rw [Nat.zero_add]
        have k6 : ∀ n, n ≠ s4 → n ≠ s4 + 1 → h6.get n = h5.get n := fun n h1 h2 => e6 n (fun _ => h1) h2
        exact fin (s4 + 1) 4 h6 _ ⟨by omega, fun n hn => by rw [k6 n (by omega) (by omega)]; exact g5.keep n hn, fun n hn => by rw [k6 n (by omega) (by omega)]; exact g5.fresh n (by omega)⟩ b6 (.inr ⟨rfl, h0⟩) (by omega) ((k6 _ (by omega) (by omega)).trans B2) ((k6 _ (by omega) (by omega)).trans B3)
omit hN in
theorem s62q {p : Option Addr} {len cap : Nat} {l : List K3} (r : Sl EK h p len cap l) (hl : len ≤ 100000) : PureS (D N (d + 1)) 62 [.slice p len cap] h s (fun v h' s' => ∃ p', v = .slice p' len len ∧ Own h' s p' len l) := by
  refine PureS.of hf fun K pw Z g hp hk => ?_
  rw [D_62]; unfold F62; rw [app1_eq]
  try simp (disch := first | assumption | omega | (simp only [Int.ofNat_eq_natCast, neg_one]; done) | (simp only [Int.ofNat_eq_natCast, neg_one]; omega)) only [tysW, w_bindJ, w_logJ, w_ct, w_cf, w_gtt, w_gft, w_gtf, w_gff, w_pt, w_pf, w_lret, w_e0, w_e1, w_e2, w_nil, w_fun, w_nt, w_nf, w_add, w_sub, w_eqt, w_eqf, w_net, w_nef, w_ltt, w_ltf, w_let, w_lef, w_gtt', w_gtf', w_get, w_gef, toNat_of, of_add, cast_add, nth_0, nth_s, Nat.zero_add, Nat.reduceAdd, Nat.reduceMul, Nat.add_zero, List.length_cons, List.length_nil, List.drop_zero, List.drop_succ_cons, List.take_succ_cons, List.take_zero, List.take_nil, true_and, and_true, Int.toNat_natCast, List.append_nil, List.nil_append, List.cons_append]
  refine wp_newF g hp fun h1 g1 c1 b1 => ?_
  try simp (disch := first | assumption | omega | (simp only [Int.ofNat_eq_natCast, neg_one]; done) | (simp only [Int.ofNat_eq_natCast, neg_one]; omega)) only [tysW, w_bindJ, w_logJ, w_ct, w_cf, w_gtt, w_gft, w_gtf, w_gff, w_pt, w_pf, w_lret, w_e0, w_e1, w_e2, w_nil, w_fun, w_nt, w_nf, w_add, w_sub, w_eqt, w_eqf, w_net, w_nef, w_ltt, w_ltf, w_let, w_lef, w_gtt', w_gtf', w_get, w_gef, toNat_of, of_add, cast_add, nth_0, nth_s, Nat.zero_add, Nat.reduceAdd, Nat.reduceMul, Nat.add_zero, List.length_cons, List.length_nil, List.drop_zero, List.drop_succ_cons, List.take_succ_cons, List.take_zero, List.take_nil, true_and, and_true, Int.toNat_natCast, List.append_nil, List.nil_append, List.cons_append]
  by_cases h0 : len = 0
  · subst h0
    have hl0 := List.eq_nil_of_length_eq_zero r.row.1
    subst hl0
    exact wp_ap_none (by omega) (by omega) (hk _ _ _ g1 ⟨_, rfl, r.row.1, .inr ⟨s, 0, rfl, Nat.le_refl _, b1, .inl rfl⟩⟩)
  · have hrow := (r.from hf g1).row
    refine Sl.addK (E := EK) (l := []) (Sl.own (len := 0) b1 (.inl rfl) rfl) hrow (fun _ => rfl) h0 (by omega) (by omega) (g1.fresh _ (Nat.le_refl _)) (hp _ (by omega)) (fun m o sp e => ?_) fun h2 b2 e2 => ?_
    · cases e
      exact ⟨hp _ (Nat.le_refl _), by omega, _, _, _, _, b1, .inl rfl⟩
    · rw [Nat.zero_add]
      have g2 : From s h h2 (s + 1 + 1) := ⟨by omega, fun n hn => by rw [e2 n (fun _ => by show n ≠ s; omega) (by omega)]; exact g1.keep n hn, fun n hn => by rw [e2 n (fun _ => by show n ≠ s; omega) (by omega)]; exact g1.fresh n (by omega)⟩
      exact hk _ _ _ g2 ⟨_, rfl, r.row.1, .inr ⟨s + 1, 4, rfl, by omega, b2, .inr ⟨rfl, h0⟩⟩⟩
omit hN in
theorem s39 (base clean : Int) {p : Option Addr} {len cap : Nat} {l : List K3} (r : Sl EK h p len cap l) (hl : len ≤ 10000) : PureS (D N (d + 2)) 39 [shval base p len cap clean] h s (fun v h' s' => ∃ p', v = shval base p' len len clean ∧ Own h' s p' len l) := by
  refine PureS.of hf fun K pw Z g hp hk => ?_
  rw [D_39]; unfold F39; rw [app1_eq]
  refine wp_boxA g hp fun h1 g1 c1 b1 => ?_
  try simp (disch := first | assumption | omega | (simp only [Int.ofNat_eq_natCast, neg_one]; done) | (simp only [Int.ofNat_eq_natCast, neg_one]; omega)) only [tysW, w_bindJ, w_logJ, w_ct, w_cf, w_gtt, w_gft, w_gtf, w_gff, w_pt, w_pf, w_lret, w_e0, w_e1, w_e2, w_nil, w_fun, w_nt, w_nf, w_add, w_sub, w_eqt, w_eqf, w_net, w_nef, w_ltt, w_ltf, w_let, w_lef, w_gtt', w_gtf', w_get, w_gef, toNat_of, of_add, cast_add, nth_0, nth_s, Nat.zero_add, Nat.reduceAdd, Nat.reduceMul, Nat.add_zero, List.length_cons, List.length_nil, List.drop_zero, List.drop_succ_cons, List.take_succ_cons, List.take_zero, List.take_nil, true_and, and_true, Int.toNat_natCast, List.append_nil, List.nil_append, List.cons_append]
  refine wp_boxA g1 hp fun h2 g2 c2 b2 => ?_
  replace b1 := c2.box b1 (by omega)
  simp only [shv] at b1
  try simp (disch := first | assumption | omega | (simp only [Int.ofNat_eq_natCast, neg_one]; done) | (simp only [Int.ofNat_eq_natCast, neg_one]; omega)) only [tysW, w_bindJ, w_logJ, w_ct, w_cf, w_gtt, w_gft, w_gtf, w_gff, w_pt, w_pf, w_lret, w_e0, w_e1, w_e2, w_nil, w_fun, w_nt, w_nf, w_add, w_sub, w_eqt, w_eqf, w_net, w_nef, w_ltt, w_ltf, w_let, w_lef, w_gtt', w_gtf', w_get, w_gef, toNat_of, of_add, cast_add, nth_0, nth_s, Nat.zero_add, Nat.reduceAdd, Nat.reduceMul, Nat.add_zero, List.length_cons, List.length_nil, List.drop_zero, List.drop_succ_cons, List.take_succ_cons, List.take_zero, List.take_nil, true_and, and_true, Int.toNat_natCast, List.append_nil, List.nil_append, List.cons_append, ldB b1, clB b1, ldBL b1, clBL b1]
  refine PureS.go g2 hp (s62q (d := d) g2.fresh (r.from hf g2) (by omega)) fun v h3 s3 g3 c3 hv => ?_
  obtain ⟨p', rfl, ow⟩ := hv
  have l3 := c3.le
  replace b1 := c3.box b1 (by omega)
  replace b2 := c3.box b2 (by omega)
  try simp (disch := first | assumption | omega | (simp only [Int.ofNat_eq_natCast, neg_one]; done) | (simp only [Int.ofNat_eq_natCast, neg_one]; omega)) only [tysW, w_bindJ, w_logJ, w_ct, w_cf, w_gtt, w_gft, w_gtf, w_gff, w_pt, w_pf, w_lret, w_e0, w_e1, w_e2, w_nil, w_fun, w_nt, w_nf, w_add, w_sub, w_eqt, w_eqf, w_net, w_nef, w_ltt, w_ltf, w_let, w_lef, w_gtt', w_gtf', w_get, w_gef, toNat_of, of_add, cast_add, nth_0, nth_s, Nat.zero_add, Nat.reduceAdd, Nat.reduceMul, Nat.add_zero, List.length_cons, List.length_nil, List.drop_zero, List.drop_succ_cons, List.take_succ_cons, List.take_zero, List.take_nil, true_and, and_true, Int.toNat_natCast, List.append_nil, List.nil_append, List.cons_append, ldB b1, clB b1, ldBL b1, clBL b1]
  refine wp_putF g3 hp b1 (by omega) (by simp) rfl fun h4 g4 b4 e4 => ?_
  simp only [overL] at b4
  try simp (disch := first | assumption | omega | (simp only [Int.ofNat_eq_natCast, neg_one]; done) | (simp only [Int.ofNat_eq_natCast, neg_one]; omega)) only [tysW, w_bindJ, w_logJ, w_ct, w_cf, w_gtt, w_gft, w_gtf, w_gff, w_pt, w_pf, w_lret, w_e0, w_e1, w_e2, w_nil, w_fun, w_nt, w_nf, w_add, w_sub, w_eqt, w_eqf, w_net, w_nef, w_ltt, w_ltf, w_let, w_lef, w_gtt', w_gtf', w_get, w_gef, toNat_of, of_add, cast_add, nth_0, nth_s, Nat.zero_add, Nat.reduceAdd, Nat.reduceMul, Nat.add_zero, List.length_cons, List.length_nil, List.drop_zero, List.drop_succ_cons, List.take_succ_cons, List.take_zero, List.take_nil, true_and, and_true, Int.toNat_natCast, List.append_nil, List.nil_append, List.cons_append, ldB b4, clB b4, ldBL b4, clBL b4]
  replace b2 := (e4 (s + 1) (by omega)).trans b2
  refine wp_putF g4 hp b2 (by omega) (by simp) rfl fun h5 g5 b5 e5 => ?_
  simp only [overL] at b5
  try simp (disch := first | assumption | omega | (simp only [Int.ofNat_eq_natCast, neg_one]; done) | (simp only [Int.ofNat_eq_natCast, neg_one]; omega)) only [tysW, w_bindJ, w_logJ, w_ct, w_cf, w_gtt, w_gft, w_gtf, w_gff, w_pt, w_pf, w_lret, w_e0, w_e1, w_e2, w_nil, w_fun, w_nt, w_nf, w_add, w_sub, w_eqt, w_eqf, w_net, w_nef, w_ltt, w_ltf, w_let, w_lef, w_gtt', w_gtf', w_get, w_gef, toNat_of, of_add, cast_add, nth_0, nth_s, Nat.zero_add, Nat.reduceAdd, Nat.reduceMul, Nat.add_zero, List.length_cons, List.length_nil, List.drop_zero, List.drop_succ_cons, List.take_succ_cons, List.take_zero, List.take_nil, true_and, and_true, Int.toNat_natCast, List.append_nil, List.nil_append, List.cons_append, ldB b5, clB b5, ldBL b5, clBL b5]
  refine hk _ _ _ g5 ⟨p', rfl, ?_⟩
  exact (ow.but g3.fresh fun i hi hi' => by rw [e5 i (by omega), e4 i (by omega)]).less (by omega)
omit hN in
theorem s45x (base clean : Int) {p q : Option Addr} {len cap cap' : Nat} {l : List K3} (hN : 100000 ≤ N) (r : Row EK h p len l) (r' : Row EK h q len l) (hl : len ≤ 10000) : ValS (D N (d + 2)) 45 [shval base p len cap clean, shval base q len cap' clean] h s (.bool true) := by
  refine ValS.of hf fun K pw Z g hp hk => ?_
  rw [D_45]; unfold F45; rw [app2_eq]
  unfold X45_1
  refine wp_boxA g hp fun h1 g1 c1 b1 => ?_
  refine wp_boxA g1 hp fun h2 g2 c2 b2 => ?_
  replace b1 := c2.box b1 (by omega)
  simp only [shv] at b1 b2
  try simp (disch := first | assumption | omega | (simp only [Int.ofNat_eq_natCast, neg_one]; done) | (simp only [Int.ofNat_eq_natCast, neg_one]; omega)) only [tysW, w_bindJ, w_logJ, w_ct, w_cf, w_gtt, w_gft, w_gtf, w_gff, w_pt, w_pf, w_lret, w_e0, w_e1, w_e2, w_nil, w_fun, w_nt, w_nf, w_add, w_sub, w_eqt, w_eqf, w_net, w_nef, w_ltt, w_ltf, w_let, w_lef, w_gtt', w_gtf', w_get, w_gef, toNat_of, of_add, cast_add, nth_0, nth_s, Nat.zero_add, Nat.reduceAdd, Nat.reduceMul, Nat.add_zero, List.length_cons, List.length_nil, List.drop_zero, List.drop_succ_cons, List.take_succ_cons, List.take_zero, List.take_nil, true_and, and_true, Int.toNat_natCast, List.append_nil, List.nil_append, List.cons_append, ldB b1, clB b1, ldBL b1, clBL b1, ldB b2, clB b2, ldBL b2, clBL b2]
  refine ValS.go g2 hp (s60 (d := d) hN g2.fresh (g2.row hf r) (g2.row hf r') hl) fun h3 s3 g3 c3 => ?_
  try simp (disch := first | assumption | omega | (simp only [Int.ofNat_eq_natCast, neg_one]; done) | (simp only [Int.ofNat_eq_natCast, neg_one]; omega)) only [tysW, w_bindJ, w_logJ, w_ct, w_cf, w_gtt, w_gft, w_gtf, w_gff, w_pt, w_pf, w_lret, w_e0, w_e1, w_e2, w_nil, w_fun, w_nt, w_nf, w_add, w_sub, w_eqt, w_eqf, w_net, w_nef, w_ltt, w_ltf, w_let, w_lef, w_gtt', w_gtf', w_get, w_gef, toNat_of, of_add, cast_add, nth_0, nth_s, Nat.zero_add, Nat.reduceAdd, Nat.reduceMul, Nat.add_zero, List.length_cons, List.length_nil, List.drop_zero, List.drop_succ_cons, List.take_succ_cons, List.take_zero, List.take_nil, true_and, and_true, Int.toNat_natCast, List.append_nil, List.nil_append, List.cons_append]
  exact hk _ _ g3
end
/-- Written over. -/
theorem over_keys {N d : Nat} (hN : 100000 ≤ N) {h0 h : T} {s0 s n f len : Nat} {l : List K3} (g : From s0 h0 h s) {pw : Nat → Prop} {Z : Value → T → Prop} (hp : ∀ n, s0 ≤ n → pw n) (hn : s0 ≤ n) (hlen : l.length = len) (hl : len ≤ 10000) (hb : h.get n = some (.cells ⟨l.flatMap kv⟩ 48 (f, 0))) {K : Value → Nat → AM}
    (hk : ∀ h', From s0 h0 h' s → (∀ i, i ≠ n → h'.get i = h.get i) → (K (.tuple ⟨[]⟩) s).wp pw Z h') : (D N (d + 1) 52 [.slice (some ⟨n, 0, none⟩) len len] K s).wp pw Z h := by
  rw [D_52]; unfold F52; rw [app1_eq]
  have loop : ∀ (B : (Value → Nat → AM) → Value → Nat → AM) (hB : ∀ H i s', B H i s' = X52_1 N (D N d) K (.slice (some ⟨n, 0, none⟩) len len) H i s') (m i : Nat) (l1 : List K3) (h1 : T), len - i < m → i ≤ len → l1.length = len → From s0 h0 h1 s → h1.get n = some (.cells ⟨l1.flatMap kv⟩ 48 (f, 0)) → (∀ i, i ≠ n → h1.get i = h.get i) →
      (loopJ m 1 (fun _ _ => AM.fail) B (vi i) s).wp pw Z h1 := by
    intro B hB m
    induction m with
    | zero => intro i l1 h1 hm; omega
    | succ m ih =>
      intro i l1 h1 hm hil hl1 g1 hb1 e1
      rw [loopJ_succ, hB]
      unfold X52_1
      by_cases hlt : i < len
      · have r1 : Row EK h1 (some ⟨n, 0, none⟩) len l1 := .of_cells hb1 hl1
        try simp (disch := first | assumption | omega | (simp only [Int.ofNat_eq_natCast, neg_one]; done) | (simp only [Int.ofNat_eq_natCast, neg_one]; omega)) only [tysW, w_bindJ, w_logJ, w_ct, w_cf, w_gtt, w_gft, w_gtf, w_gff, w_pt, w_pf, w_lret, w_e0, w_e1, w_e2, w_nil, w_fun, w_nt, w_nf, w_add, w_sub, w_eqt, w_eqf, w_net, w_nef, w_ltt, w_ltf, w_let, w_lef, w_gtt', w_gtf', w_get, w_gef, toNat_of, of_add, cast_add, nth_0, nth_s, Nat.zero_add, Nat.reduceAdd, Nat.reduceMul, Nat.add_zero, List.length_cons, List.length_nil, List.drop_zero, List.drop_succ_cons, List.take_succ_cons, List.take_zero, List.take_nil, true_and, and_true, Int.toNat_natCast, List.append_nil, List.nil_append, List.cons_append, xa3 r1 (j := (i : Int)) (by omega) (by omega)]
        have hov : overL (l1.flatMap kv) (i * 3) [.int .i64 (Int.negSucc 6), .int .i64 (Int.negSucc 6), .int .i64 (Int.negSucc 6)] = (l1.set i ⟨Int.negSucc 6, Int.negSucc 6, Int.negSucc 6⟩).flatMap kv := EK.over ⟨Int.negSucc 6, Int.negSucc 6, Int.negSucc 6⟩ l1 i (by omega)
        simp only [show blk (some ⟨n, 0, none⟩) = n from rfl, show off (some ⟨n, 0, none⟩) = 0 from rfl, Nat.zero_add]
        refine wp_putF g1 hp hb1 hn (by rw [flat_len]; simp; omega) rfl fun h2 g2 b2 e2 => ?_
        rw [hov] at b2
        try simp (disch := first | assumption | omega | (simp only [Int.ofNat_eq_natCast, neg_one]; done) | (simp only [Int.ofNat_eq_natCast, neg_one]; omega)) only [tysW, w_bindJ, w_logJ, w_ct, w_cf, w_gtt, w_gft, w_gtf, w_gff, w_pt, w_pf, w_lret, w_e0, w_e1, w_e2, w_nil, w_fun, w_nt, w_nf, w_add, w_sub, w_eqt, w_eqf, w_net, w_nef, w_ltt, w_ltf, w_let, w_lef, w_gtt', w_gtf', w_get, w_gef, toNat_of, of_add, cast_add, nth_0, nth_s, Nat.zero_add, Nat.reduceAdd, Nat.reduceMul, Nat.add_zero, List.length_cons, List.length_nil, List.drop_zero, List.drop_succ_cons, List.take_succ_cons, List.take_zero, List.take_nil, true_and, and_true, Int.toNat_natCast, List.append_nil, List.nil_append, List.cons_append]
        exact ih (i + 1) (l1.set i ⟨Int.negSucc 6, Int.negSucc 6, Int.negSucc 6⟩) h2 (by omega) (by omega) (by simpa using hl1) g2 b2 fun j hj => (e2 j hj).trans (e1 j hj)
      · try simp (disch := first | assumption | omega | (simp only [Int.ofNat_eq_natCast, neg_one]; done) | (simp only [Int.ofNat_eq_natCast, neg_one]; omega)) only [tysW, w_bindJ, w_logJ, w_ct, w_cf, w_gtt, w_gft, w_gtf, w_gff, w_pt, w_pf, w_lret, w_e0, w_e1, w_e2, w_nil, w_fun, w_nt, w_nf, w_add, w_sub, w_eqt, w_eqf, w_net, w_nef, w_ltt, w_ltf, w_let, w_lef, w_gtt', w_gtf', w_get, w_gef, toNat_of, of_add, cast_add, nth_0, nth_s, Nat.zero_add, Nat.reduceAdd, Nat.reduceMul, Nat.add_zero, List.length_cons, List.length_nil, List.drop_zero, List.drop_succ_cons, List.take_succ_cons, List.take_zero, List.take_nil, true_and, and_true, Int.toNat_natCast, List.append_nil, List.nil_append, List.cons_append]
        exact hk h1 g1 e1
  exact loop _ (fun _ _ _ => rfl) N 0 l h (by omega) (by omega) hlen g hb fun _ _ => rfl
end Go.Ev.R
namespace Go.Ev.R
open Go Go.RowKit
section
variable {N d : Nat} (hN : 100000 ≤ N) {h : T} {s : Nat} (hf : ∀ n, s ≤ n → h.get n = none)
include hN hf
theorem s42 (x : SU) (base clean : Int) {p : Option Addr} {len cap : Nat} {l : List K3} (r : Sl EK h p len cap l) (hl : len ≤ 5000) (k : K3) : PureS (D N (d + 9)) 42 [suval x, shval base p len cap clean, kval k] h s (fun v h' s' =>
    if judgeK x base clean l k = 0 then ∃ p', v = .tuple ⟨[shval (baseP x base l) p' ((restK x l).length + 1) ((restK x l).length + 1) (cleanP x clean l k), vi (plK k (restK x l)), vi 0]⟩ ∧ Own h' s p' ((restK x l).length + 1) (insK k (restK x l)) else v = .tuple ⟨[shval 0 none 0 0 0, vi 0, vi (judgeK x base clean l k)]⟩) := by
  refine PureS.of hf fun K pw Z g hp hk => ?_
  rw [D_42]; unfold F42; rw [app3_eq]
  unfold X42_5
  refine wp_boxA g hp fun h1 g1 c1 b1 => ?_
  refine wp_boxA g1 hp fun h2 g2 c2 b2 => ?_
  refine wp_boxA g2 hp fun h3 g3 c3 b3 => ?_
  try simp (disch := first | assumption | omega | (simp only [Int.ofNat_eq_natCast, neg_one]; done) | (simp only [Int.ofNat_eq_natCast, neg_one]; omega)) only [tysW, w_bindJ, w_logJ, w_ct, w_cf, w_gtt, w_gft, w_gtf, w_gff, w_pt, w_pf, w_lret, w_e0, w_e1, w_e2, w_nil, w_fun, w_nt, w_nf, w_add, w_sub, w_eqt, w_eqf, w_net, w_nef, w_ltt, w_ltf, w_let, w_lef, w_gtt', w_gtf', w_get, w_gef, toNat_of, of_add, cast_add, nth_0, nth_s, Nat.zero_add, Nat.reduceAdd, Nat.reduceMul, Nat.add_zero, List.length_cons, List.length_nil, List.drop_zero, List.drop_succ_cons, List.take_succ_cons, List.take_zero, List.take_nil, true_and, and_true, Int.toNat_natCast, List.append_nil, List.nil_append, List.cons_append]
  refine wp_boxA g3 hp fun h4 g4 c4 b4 => ?_
  replace b1 := ((c2.trans c3).trans c4).box b1 (by omega)
  replace b2 := (c3.trans c4).box b2 (by omega)
  replace b3 := c4.box b3 (by omega)
  simp only [suv, shv, kv] at b1 b2 b3
  have r4 := r.from hf g4
  have hlen := r.row.1
  try simp (disch := first | assumption | omega | (simp only [Int.ofNat_eq_natCast, neg_one]; done) | (simp only [Int.ofNat_eq_natCast, neg_one]; omega)) only [tysW, w_bindJ, w_logJ, w_ct, w_cf, w_gtt, w_gft, w_gtf, w_gff, w_pt, w_pf, w_lret, w_e0, w_e1, w_e2, w_nil, w_fun, w_nt, w_nf, w_add, w_sub, w_eqt, w_eqf, w_net, w_nef, w_ltt, w_ltf, w_let, w_lef, w_gtt', w_gtf', w_get, w_gef, toNat_of, of_add, cast_add, nth_0, nth_s, Nat.zero_add, Nat.reduceAdd, Nat.reduceMul, Nat.add_zero, List.length_cons, List.length_nil, List.drop_zero, List.drop_succ_cons, List.take_succ_cons, List.take_zero, List.take_nil, true_and, and_true, Int.toNat_natCast, List.append_nil, List.nil_append, List.cons_append, ldB b1, clB b1, ldBL b1, clBL b1, ldB b2, clB b2, ldBL b2, clBL b2, ldB b3, clB b3, ldBL b3, clBL b3]
  refine ValS.go g4 hp (s51 (d := d) hN g4.fresh x base clean r4 (by omega) k) fun h5 s5 g5 c5 => ?_
  have l5 := c5.le
  have B1 := c5.box b1 (by omega)
  have B2 := c5.box b2 (by omega)
  have B3 := c5.box b3 (by omega)
  have B4 := c5.box b4 (by omega)
  by_cases e1 : judgeK x base clean l k = 0
  case neg =>
    try simp (disch := first | assumption | omega | (simp only [Int.ofNat_eq_natCast, neg_one]; done) | (simp only [Int.ofNat_eq_natCast, neg_one]; omega)) only [tysW, w_bindJ, w_logJ, w_ct, w_cf, w_gtt, w_gft, w_gtf, w_gff, w_pt, w_pf, w_lret, w_e0, w_e1, w_e2, w_nil, w_fun, w_nt, w_nf, w_add, w_sub, w_eqt, w_eqf, w_net, w_nef, w_ltt, w_ltf, w_let, w_lef, w_gtt', w_gtf', w_get, w_gef, toNat_of, of_add, cast_add, nth_0, nth_s, Nat.zero_add, Nat.reduceAdd, Nat.reduceMul, Nat.add_zero, List.length_cons, List.length_nil, List.drop_zero, List.drop_succ_cons, List.take_succ_cons, List.take_zero, List.take_nil, true_and, and_true, Int.toNat_natCast, List.append_nil, List.nil_append, List.cons_append]
    refine wp_putF g5 hp B4 (by omega) (by simp) rfl fun h6 g6 b6 e6 => ?_
    simp only [overL] at b6
    try simp (disch := first | assumption | omega | (simp only [Int.ofNat_eq_natCast, neg_one]; done) | (simp only [Int.ofNat_eq_natCast, neg_one]; omega)) only [tysW, w_bindJ, w_logJ, w_ct, w_cf, w_gtt, w_gft, w_gtf, w_gff, w_pt, w_pf, w_lret, w_e0, w_e1, w_e2, w_nil, w_fun, w_nt, w_nf, w_add, w_sub, w_eqt, w_eqf, w_net, w_nef, w_ltt, w_ltf, w_let, w_lef, w_gtt', w_gtf', w_get, w_gef, toNat_of, of_add, cast_add, nth_0, nth_s, Nat.zero_add, Nat.reduceAdd, Nat.reduceMul, Nat.add_zero, List.length_cons, List.length_nil, List.drop_zero, List.drop_succ_cons, List.take_succ_cons, List.take_zero, List.take_nil, true_and, and_true, Int.toNat_natCast, List.append_nil, List.nil_append, List.cons_append, ldB b6, clB b6, ldBL b6, clBL b6]
    refine hk _ _ _ g6 ?_
    rw [if_neg e1]; rfl
  obtain ⟨ff, fk, ftw, ffl, ffu⟩ := judge_ok e1
  obtain ⟨f1, f2, f3, f4, f5, f6⟩ := fits_iff.1 ff
  obtain ⟨q1, q2, q3, q4, q5, q6⟩ := chk_keep f1
  rw [hlen] at f3 f5
  have r5 := r.from hf g5
  -- what is behind
  have rest : ∀ (h1 : T) (s1 : Nat) (p2 : Option Addr) (len2 cap2 : Nat) (l2 : List K3) (base2 clean2 : Int), From s h h1 s1 → s + 1 + 1 + 1 < s1 → h1.get (s + 1 + 1) = some (.cells ⟨[vi k.a, vi k.b, vi k.c]⟩ 48 (0, 0)) → h1.get (s + 1 + 1 + 1) = some (.cells ⟨[.int .i64 (Int.ofNat 0), .slice none 0 0, .int .i64 (Int.ofNat 0)]⟩ 46 (0, 0)) → h1.get (s + 1) = some (.cells ⟨[vi base2, .slice p2 len2 cap2, vi clean2]⟩ 46 (0, 0)) →
      Sl EK h1 p2 len2 cap2 l2 → (cap2 ≠ 0 → blk p2 < s) → l2 = restK x l → base2 = baseP x base l → min clean2 (plK k l2 : Int) = cleanP x clean l k →
      (fa 46 (.pointer (some ⟨s + 1, 0, none⟩)) 1 (fun v15 s' => ld 44 v15 (fun v16 s' => ld 48 (.pointer (some ⟨s + 1 + 1, 0, none⟩)) (fun v17 s' => D N (d + 8) 117 [v16, v17] (fun v18 s' => extX v18 0 (fun v19 s' => extX v18 1 (fun v20 s' => AM.log (abuildSlice P 44 0 [] (fun v s => AM.ret (pk v s)) s') (logU (X42_4 N (D N (d + 8)) K (.pointer (some ⟨s + 1, 0, none⟩)) v19 (.pointer (some ⟨s + 1 + 1, 0, none⟩)) (.pointer (some ⟨s + 1 + 1 + 1, 0, none⟩))))) s') s') s') s') s') s1).wp pw Z h1 := by
    intro h1 s1 p2 len2 cap2 l2 base2 clean2 g1 hs1 C3 C4 C8 r2 hpb hl2 hb2 hc2
    have hrr : risingK l2 = true := by rw [hl2]; exact (put_fits e1).2.2.2.2.2
    have hlen2 := r2.row.1
    have hle2 : len2 ≤ len := by rw [← hlen2, hl2, ← hlen]; unfold restK; split <;> simp
    have hpl := pl_le k l2
    have hcl2 := r2.le
    try simp (disch := first | assumption | omega | (simp only [Int.ofNat_eq_natCast, neg_one]; done) | (simp only [Int.ofNat_eq_natCast, neg_one]; omega)) only [tysW, w_bindJ, w_logJ, w_ct, w_cf, w_gtt, w_gft, w_gtf, w_gff, w_pt, w_pf, w_lret, w_e0, w_e1, w_e2, w_nil, w_fun, w_nt, w_nf, w_add, w_sub, w_eqt, w_eqf, w_net, w_nef, w_ltt, w_ltf, w_let, w_lef, w_gtt', w_gtf', w_get, w_gef, toNat_of, of_add, cast_add, nth_0, nth_s, Nat.zero_add, Nat.reduceAdd, Nat.reduceMul, Nat.add_zero, List.length_cons, List.length_nil, List.drop_zero, List.drop_succ_cons, List.take_succ_cons, List.take_zero, List.take_nil, true_and, and_true, Int.toNat_natCast, List.append_nil, List.nil_append, List.cons_append, ldB C3, clB C3, ldBL C3, clBL C3, ldB C8, clB C8, ldBL C8, clBL C8]
    refine ValS.go g1 hp (s117 (d := d + 5) hN g1.fresh r2.row (by omega) k) fun h6 s6 g6 c6 => ?_
    have l6 := c6.le
    replace C3 := c6.box C3 (by omega)
    replace C4 := c6.box C4 (by omega)
    replace C8 := c6.box C8 (by omega)
    replace r2 := r2.from g1.fresh c6
    rw [find_rise hrr]
    generalize hq : plK k l2 = q at *
    try simp (disch := first | assumption | omega | (simp only [Int.ofNat_eq_natCast, neg_one]; done) | (simp only [Int.ofNat_eq_natCast, neg_one]; omega)) only [tysW, w_bindJ, w_logJ, w_ct, w_cf, w_gtt, w_gft, w_gtf, w_gff, w_pt, w_pf, w_lret, w_e0, w_e1, w_e2, w_nil, w_fun, w_nt, w_nf, w_add, w_sub, w_eqt, w_eqf, w_net, w_nef, w_ltt, w_ltf, w_let, w_lef, w_gtt', w_gtf', w_get, w_gef, toNat_of, of_add, cast_add, nth_0, nth_s, Nat.zero_add, Nat.reduceAdd, Nat.reduceMul, Nat.add_zero, List.length_cons, List.length_nil, List.drop_zero, List.drop_succ_cons, List.take_succ_cons, List.take_zero, List.take_nil, true_and, and_true, Int.toNat_natCast, List.append_nil, List.nil_append, List.cons_append]
    refine wp_newL (q := fun b => .slice (some ⟨b, 0, none⟩) 0 0) g6 hp fun h7 g7 c7 b7 => ?_
    replace C3 := c7.box C3 (by omega)
    replace C4 := c7.box C4 (by omega)
    replace C8 := c7.box C8 (by omega)
    replace r2 := r2.from g6.fresh c7
    unfold X42_4
    try simp (disch := first | assumption | omega | (simp only [Int.ofNat_eq_natCast, neg_one]; done) | (simp only [Int.ofNat_eq_natCast, neg_one]; omega)) only [tysW, w_bindJ, w_logJ, w_ct, w_cf, w_gtt, w_gft, w_gtf, w_gff, w_pt, w_pf, w_lret, w_e0, w_e1, w_e2, w_nil, w_fun, w_nt, w_nf, w_add, w_sub, w_eqt, w_eqf, w_net, w_nef, w_ltt, w_ltf, w_let, w_lef, w_gtt', w_gtf', w_get, w_gef, toNat_of, of_add, cast_add, nth_0, nth_s, Nat.zero_add, Nat.reduceAdd, Nat.reduceMul, Nat.add_zero, List.length_cons, List.length_nil, List.drop_zero, List.drop_succ_cons, List.take_succ_cons, List.take_zero, List.take_nil, true_and, and_true, Int.toNat_natCast, List.append_nil, List.nil_append, List.cons_append, ldB C8, clB C8, ldBL C8, clBL C8]
    refine r2.cutL (ab_to (i := q) (by omega) .i64) (by omega) (by omega) (by omega) (by omega) fun p8 ts8 r8 hb8 ht8 => ?_
    have ht8' : ∀ n ∈ ts8, n < s := fun n hn => by rw [(ht8 n hn).1]; exact hpb (ht8 n hn).2
    simp only [Nat.sub_zero, List.drop_zero] at r8
    try simp (disch := first | assumption | omega | (simp only [Int.ofNat_eq_natCast, neg_one]; done) | (simp only [Int.ofNat_eq_natCast, neg_one]; omega)) only [tysW, w_bindJ, w_logJ, w_ct, w_cf, w_gtt, w_gft, w_gtf, w_gff, w_pt, w_pf, w_lret, w_e0, w_e1, w_e2, w_nil, w_fun, w_nt, w_nf, w_add, w_sub, w_eqt, w_eqf, w_net, w_nef, w_ltt, w_ltf, w_let, w_lef, w_gtt', w_gtf', w_get, w_gef, toNat_of, of_add, cast_add, nth_0, nth_s, Nat.zero_add, Nat.reduceAdd, Nat.reduceMul, Nat.add_zero, List.length_cons, List.length_nil, List.drop_zero, List.drop_succ_cons, List.take_succ_cons, List.take_zero, List.take_nil, true_and, and_true, Int.toNat_natCast, List.append_nil, List.nil_append, List.cons_append, Nat.sub_zero]
    refine apL (l := []) g7 hp (by omega) b7 (.inl rfl) rfl r8.row (by omega) fun m9 f9 h9 s9 ts9 ws9 g9 l9 b9 hf9 hm9 e9 hw9 ht9 => ?_
    have D3 := (e9 (s + 1 + 1) (by omega) (by omega)).trans C3
    have D4 := (e9 (s + 1 + 1 + 1) (by omega) (by omega)).trans C4
    have D8 := (e9 (s + 1) (by omega) (by omega)).trans C8
    have hm9' := lt_of_some g9.fresh ⟨_, b9⟩
    try simp (disch := first | assumption | omega | (simp only [Int.ofNat_eq_natCast, neg_one]; done) | (simp only [Int.ofNat_eq_natCast, neg_one]; omega)) only [tysW, w_bindJ, w_logJ, w_ct, w_cf, w_gtt, w_gft, w_gtf, w_gff, w_pt, w_pf, w_lret, w_e0, w_e1, w_e2, w_nil, w_fun, w_nt, w_nf, w_add, w_sub, w_eqt, w_eqf, w_net, w_nef, w_ltt, w_ltf, w_let, w_lef, w_gtt', w_gtf', w_get, w_gef, toNat_of, of_add, cast_add, nth_0, nth_s, Nat.zero_add, Nat.reduceAdd, Nat.reduceMul, Nat.add_zero, List.length_cons, List.length_nil, List.drop_zero, List.drop_succ_cons, List.take_succ_cons, List.take_zero, List.take_nil, true_and, and_true, Int.toNat_natCast, List.append_nil, List.nil_append, List.cons_append, ldB D3, clB D3, ldBL D3, clBL D3]
    unfold X42_3
    try simp (disch := first | assumption | omega | (simp only [Int.ofNat_eq_natCast, neg_one]; done) | (simp only [Int.ofNat_eq_natCast, neg_one]; omega)) only [tysW, w_bindJ, w_logJ, w_ct, w_cf, w_gtt, w_gft, w_gtf, w_gff, w_pt, w_pf, w_lret, w_e0, w_e1, w_e2, w_nil, w_fun, w_nt, w_nf, w_add, w_sub, w_eqt, w_eqf, w_net, w_nef, w_ltt, w_ltf, w_let, w_lef, w_gtt', w_gtf', w_get, w_gef, toNat_of, of_add, cast_add, nth_0, nth_s, Nat.zero_add, Nat.reduceAdd, Nat.reduceMul, Nat.add_zero, List.length_cons, List.length_nil, List.drop_zero, List.drop_succ_cons, List.take_succ_cons, List.take_zero, List.take_nil, true_and, and_true, Int.toNat_natCast, List.append_nil, List.nil_append, List.cons_append]
    refine wp_newL (q := fun b => .slice (some ⟨b, 0, none⟩) 1 1) g9 hp fun h10 g10 c10 b10 => ?_
    have rk10 : Row EK h10 (some ⟨s9, 0, none⟩) 1 [k] := .of_cells b10 rfl
    have b9' := c10.box b9 hm9'
    try simp (disch := first | assumption | omega | (simp only [Int.ofNat_eq_natCast, neg_one]; done) | (simp only [Int.ofNat_eq_natCast, neg_one]; omega)) only [tysW, w_bindJ, w_logJ, w_ct, w_cf, w_gtt, w_gft, w_gtf, w_gff, w_pt, w_pf, w_lret, w_e0, w_e1, w_e2, w_nil, w_fun, w_nt, w_nf, w_add, w_sub, w_eqt, w_eqf, w_net, w_nef, w_ltt, w_ltf, w_let, w_lef, w_gtt', w_gtf', w_get, w_gef, toNat_of, of_add, cast_add, nth_0, nth_s, Nat.zero_add, Nat.reduceAdd, Nat.reduceMul, Nat.add_zero, List.length_cons, List.length_nil, List.drop_zero, List.drop_succ_cons, List.take_succ_cons, List.take_zero, List.take_nil, true_and, and_true, Int.toNat_natCast, List.append_nil, List.nil_append, List.cons_append]
    have htk : (l2.take q).length = q := by rw [List.length_take]; omega
    rw [List.nil_append] at b9'
    refine apL (l := l2.take q) g10 hp (by omega) b9' (by omega) (by omega) rk10 (by omega) fun m11 f11 h11 s11 ts11 ws11 g11 l11 b11 hf11 hm11 e11 hw11 ht11 => ?_
    have E3 := (e11 (s + 1 + 1) (by omega) (by omega)).trans (c10.box D3 (by omega))
    have E4 := (e11 (s + 1 + 1 + 1) (by omega) (by omega)).trans (c10.box D4 (by omega))
    have E8 := (e11 (s + 1) (by omega) (by omega)).trans (c10.box D8 (by omega))
    have r11 : Sl EK h11 p2 len2 cap2 l2 := r2.but fun hc => by have := hpb hc; rw [e11 _ (by omega) (by omega), c10.keep _ (by omega), e9 _ (by omega) (by omega)]
    try simp (disch := first | assumption | omega | (simp only [Int.ofNat_eq_natCast, neg_one]; done) | (simp only [Int.ofNat_eq_natCast, neg_one]; omega)) only [tysW, w_bindJ, w_logJ, w_ct, w_cf, w_gtt, w_gft, w_gtf, w_gff, w_pt, w_pf, w_lret, w_e0, w_e1, w_e2, w_nil, w_fun, w_nt, w_nf, w_add, w_sub, w_eqt, w_eqf, w_net, w_nef, w_ltt, w_ltf, w_let, w_lef, w_gtt', w_gtf', w_get, w_gef, toNat_of, of_add, cast_add, nth_0, nth_s, Nat.zero_add, Nat.reduceAdd, Nat.reduceMul, Nat.add_zero, List.length_cons, List.length_nil, List.drop_zero, List.drop_succ_cons, List.take_succ_cons, List.take_zero, List.take_nil, true_and, and_true, Int.toNat_natCast, List.append_nil, List.nil_append, List.cons_append, ldB E8, clB E8, ldBL E8, clBL E8]
    unfold X42_2
    try simp (disch := first | assumption | omega | (simp only [Int.ofNat_eq_natCast, neg_one]; done) | (simp only [Int.ofNat_eq_natCast, neg_one]; omega)) only [tysW, w_bindJ, w_logJ, w_ct, w_cf, w_gtt, w_gft, w_gtf, w_gff, w_pt, w_pf, w_lret, w_e0, w_e1, w_e2, w_nil, w_fun, w_nt, w_nf, w_add, w_sub, w_eqt, w_eqf, w_net, w_nef, w_ltt, w_ltf, w_let, w_lef, w_gtt', w_gtf', w_get, w_gef, toNat_of, of_add, cast_add, nth_0, nth_s, Nat.zero_add, Nat.reduceAdd, Nat.reduceMul, Nat.add_zero, List.length_cons, List.length_nil, List.drop_zero, List.drop_succ_cons, List.take_succ_cons, List.take_zero, List.take_nil, true_and, and_true, Int.toNat_natCast, List.append_nil, List.nil_append, List.cons_append]
    refine r11.cutL (ab_from (i := q) (by omega) hcl2 .i64) (by omega) (Nat.le_refl _) (by omega) (Nat.le_refl _) fun p12 ts12 r12 hb12 ht12 => ?_
    have ht12' : ∀ n ∈ ts12, n < s := fun n hn => by rw [(ht12 n hn).1]; exact hpb (ht12 n hn).2
    have hdr : ((l2.drop q).take (len2 - q)) = l2.drop q := List.take_of_length_le (by simp; omega)
    rw [hdr] at r12
    try simp (disch := first | assumption | omega | (simp only [Int.ofNat_eq_natCast, neg_one]; done) | (simp only [Int.ofNat_eq_natCast, neg_one]; omega)) only [tysW, w_bindJ, w_logJ, w_ct, w_cf, w_gtt, w_gft, w_gtf, w_gff, w_pt, w_pf, w_lret, w_e0, w_e1, w_e2, w_nil, w_fun, w_nt, w_nf, w_add, w_sub, w_eqt, w_eqf, w_net, w_nef, w_ltt, w_ltf, w_let, w_lef, w_gtt', w_gtf', w_get, w_gef, toNat_of, of_add, cast_add, nth_0, nth_s, Nat.zero_add, Nat.reduceAdd, Nat.reduceMul, Nat.add_zero, List.length_cons, List.length_nil, List.drop_zero, List.drop_succ_cons, List.take_succ_cons, List.take_zero, List.take_nil, true_and, and_true, Int.toNat_natCast, List.append_nil, List.nil_append, List.cons_append]
    refine apL (l := l2.take q ++ [k]) (len := q + 1) g11 hp (by omega) b11 (by omega) (by simp; omega) r12.row (by omega) fun m13 f13 h13 s13 ts13 ws13 g13 l13 b13 hf13 hm13 e13 hw13 ht13 => ?_
    have F4' := (e13 (s + 1 + 1 + 1) (by omega) (by omega)).trans E4
    have F8' := (e13 (s + 1) (by omega) (by omega)).trans E8
    try simp (disch := first | assumption | omega | (simp only [Int.ofNat_eq_natCast, neg_one]; done) | (simp only [Int.ofNat_eq_natCast, neg_one]; omega)) only [tysW, w_bindJ, w_logJ, w_ct, w_cf, w_gtt, w_gft, w_gtf, w_gff, w_pt, w_pf, w_lret, w_e0, w_e1, w_e2, w_nil, w_fun, w_nt, w_nf, w_add, w_sub, w_eqt, w_eqf, w_net, w_nef, w_ltt, w_ltf, w_let, w_lef, w_gtt', w_gtf', w_get, w_gef, toNat_of, of_add, cast_add, nth_0, nth_s, Nat.zero_add, Nat.reduceAdd, Nat.reduceMul, Nat.add_zero, List.length_cons, List.length_nil, List.drop_zero, List.drop_succ_cons, List.take_succ_cons, List.take_zero, List.take_nil, true_and, and_true, Int.toNat_natCast, List.append_nil, List.nil_append, List.cons_append]
    refine wp_putL g13 hp F8' (by omega) (by simp) rfl fun h14 g14 b14 e14 => ?_
    simp only [overL] at b14
    unfold X42_1
    rw [wp_guard, if_pos (by repeat' (first | exact dynOk_nil _ _ | refine dyn_skip' ?_ | refine dyn_cons ?_ ?_ | exact allF_nil _ _ | refine allF_cons ?_ ?_ | exact disj_below hw9 (by omega) | exact disjA hw9 (by omega) | exact disjB hw9 (by omega) | exact disjC hw9 (by assumption) | exact disjD (fun m hm => by have := hw9 m hm; omega) | exact disj_below ht9 (by omega) | exact disjA ht9 (by omega) | exact disjB ht9 (by omega) | exact disjC ht9 (by assumption) | exact disjD (fun m hm => by have := ht9 m hm; omega) | exact disj_below hw11 (by omega) | exact disjA hw11 (by omega) | exact disjB hw11 (by omega) | exact disjC hw11 (by assumption) | exact disjD (fun m hm => by have := hw11 m hm; omega) | exact disj_below ht11 (by omega) | exact disjA ht11 (by omega) | exact disjB ht11 (by omega) | exact disjC ht11 (by assumption) | exact disjD (fun m hm => by have := ht11 m hm; omega) | exact disj_below ht8' (by omega) | exact disjA ht8' (by omega) | exact disjB ht8' (by omega) | exact disjC ht8' (by assumption) | exact disjD (fun m hm => by have := ht8' m hm; omega) | exact disj_below ht12' (by omega) | exact disjA ht12' (by omega) | exact disjB ht12' (by omega) | exact disjC ht12' (by assumption) | exact disjD (fun m hm => by have := ht12' m hm; omega) | exact disjN _ | exact disj1 (by omega) | exact disj2 (by omega) | exact disj3 (by assumption) | exact disjC hw9 (fun m hm => by have := ht9 m hm; omega) | exact disjC hw9 (fun m hm => by have := hw11 m hm; omega) | exact disjC hw9 (fun m hm => by have := ht11 m hm; omega) | exact disjC hw9 (fun m hm => by have := ht8' m hm; omega) | exact disjC hw9 (fun m hm => by have := ht12' m hm; omega) | exact disjC ht9 (fun m hm => by have := hw9 m hm; omega) | exact disjC ht9 (fun m hm => by have := hw11 m hm; omega) | exact disjC ht9 (fun m hm => by have := ht11 m hm; omega) | exact disjC ht9 (fun m hm => by have := ht8' m hm; omega) | exact disjC ht9 (fun m hm => by have := ht12' m hm; omega) | exact disjC hw11 (fun m hm => by have := hw9 m hm; omega) | exact disjC hw11 (fun m hm => by have := ht9 m hm; omega) | exact disjC hw11 (fun m hm => by have := ht11 m hm; omega) | exact disjC hw11 (fun m hm => by have := ht8' m hm; omega) | exact disjC hw11 (fun m hm => by have := ht12' m hm; omega) | exact disjC ht11 (fun m hm => by have := hw9 m hm; omega) | exact disjC ht11 (fun m hm => by have := ht9 m hm; omega) | exact disjC ht11 (fun m hm => by have := hw11 m hm; omega) | exact disjC ht11 (fun m hm => by have := ht8' m hm; omega) | exact disjC ht11 (fun m hm => by have := ht12' m hm; omega) | exact disjC ht8' (fun m hm => by have := hw9 m hm; omega) | exact disjC ht8' (fun m hm => by have := ht9 m hm; omega) | exact disjC ht8' (fun m hm => by have := hw11 m hm; omega) | exact disjC ht8' (fun m hm => by have := ht11 m hm; omega) | exact disjC ht8' (fun m hm => by have := ht12' m hm; omega) | exact disjC ht12' (fun m hm => by have := hw9 m hm; omega) | exact disjC ht12' (fun m hm => by have := ht9 m hm; omega) | exact disjC ht12' (fun m hm => by have := hw11 m hm; omega) | exact disjC ht12' (fun m hm => by have := ht11 m hm; omega) | exact disjC ht12' (fun m hm => by have := ht8' m hm; omega)))]
    try simp (disch := first | assumption | omega | (simp only [Int.ofNat_eq_natCast, neg_one]; done) | (simp only [Int.ofNat_eq_natCast, neg_one]; omega)) only [tysW, w_bindJ, w_logJ, w_ct, w_cf, w_gtt, w_gft, w_gtf, w_gff, w_pt, w_pf, w_lret, w_e0, w_e1, w_e2, w_nil, w_fun, w_nt, w_nf, w_add, w_sub, w_eqt, w_eqf, w_net, w_nef, w_ltt, w_ltf, w_let, w_lef, w_gtt', w_gtf', w_get, w_gef, toNat_of, of_add, cast_add, nth_0, nth_s, Nat.zero_add, Nat.reduceAdd, Nat.reduceMul, Nat.add_zero, List.length_cons, List.length_nil, List.drop_zero, List.drop_succ_cons, List.take_succ_cons, List.take_zero, List.take_nil, true_and, and_true, Int.toNat_natCast, List.append_nil, List.nil_append, List.cons_append, ldB b14, clB b14, ldBL b14, clBL b14, blt_min]
    refine wp_putF g14 hp b14 (by omega) (by simp) rfl fun h15 g15 b15 e15 => ?_
    simp only [overL] at b15
    have F4 := (e15 (s + 1 + 1 + 1) (by omega)).trans ((e14 (s + 1 + 1 + 1) (by omega)).trans F4')
    try simp (disch := first | assumption | omega | (simp only [Int.ofNat_eq_natCast, neg_one]; done) | (simp only [Int.ofNat_eq_natCast, neg_one]; omega)) only [tysW, w_bindJ, w_logJ, w_ct, w_cf, w_gtt, w_gft, w_gtf, w_gff, w_pt, w_pf, w_lret, w_e0, w_e1, w_e2, w_nil, w_fun, w_nt, w_nf, w_add, w_sub, w_eqt, w_eqf, w_net, w_nef, w_ltt, w_ltf, w_let, w_lef, w_gtt', w_gtf', w_get, w_gef, toNat_of, of_add, cast_add, nth_0, nth_s, Nat.zero_add, Nat.reduceAdd, Nat.reduceMul, Nat.add_zero, List.length_cons, List.length_nil, List.drop_zero, List.drop_succ_cons, List.take_succ_cons, List.take_zero, List.take_nil, true_and, and_true, Int.toNat_natCast, List.append_nil, List.nil_append, List.cons_append, ldB b15, clB b15, ldBL b15, clBL b15]
    refine wp_putF g15 hp F4 (by omega) (by simp) rfl fun h16 g16 b16 e16 => ?_
    simp only [overL] at b16
    try simp (disch := first | assumption | omega | (simp only [Int.ofNat_eq_natCast, neg_one]; done) | (simp only [Int.ofNat_eq_natCast, neg_one]; omega)) only [tysW, w_bindJ, w_logJ, w_ct, w_cf, w_gtt, w_gft, w_gtf, w_gff, w_pt, w_pf, w_lret, w_e0, w_e1, w_e2, w_nil, w_fun, w_nt, w_nf, w_add, w_sub, w_eqt, w_eqf, w_net, w_nef, w_ltt, w_ltf, w_let, w_lef, w_gtt', w_gtf', w_get, w_gef, toNat_of, of_add, cast_add, nth_0, nth_s, Nat.zero_add, Nat.reduceAdd, Nat.reduceMul, Nat.add_zero, List.length_cons, List.length_nil, List.drop_zero, List.drop_succ_cons, List.take_succ_cons, List.take_zero, List.take_nil, true_and, and_true, Int.toNat_natCast, List.append_nil, List.nil_append, List.cons_append, ldB b16, clB b16, ldBL b16, clBL b16]
    refine hk _ _ _ g16 ?_
    have hins : l2.take q ++ [k] ++ l2.drop q = insK k l2 := by unfold insK; rw [hq, List.append_assoc]; rfl
    rw [hins] at b13
    rw [if_pos e1, ← hl2, ← hb2, ← hc2, hlen2, hq, show q + 1 + (len2 - q) = len2 + 1 by omega]
    exact ⟨_, rfl, by rw [ins_length, hlen2], .inr ⟨m13, f13, rfl, by omega, by rw [e16 m13 (by omega), e15 m13 (by omega), e14 m13 (by omega)]; exact b13, by omega⟩⟩
  by_cases e2 : (len : Int) = x.keep
  · have e3 : fullK x l = true := by unfold fullK; rw [hlen]; exact decide_eq_true e2
    obtain ⟨y, hy⟩ := get_some (l := l) (i := 0) (by omega)
    have hcl1 : 1 ≤ clean := by
      have := (ffu e3).2
      omega
    try simp (disch := first | assumption | omega | (simp only [Int.ofNat_eq_natCast, neg_one]; done) | (simp only [Int.ofNat_eq_natCast, neg_one]; omega)) only [tysW, w_bindJ, w_logJ, w_ct, w_cf, w_gtt, w_gft, w_gtf, w_gff, w_pt, w_pf, w_lret, w_e0, w_e1, w_e2, w_nil, w_fun, w_nt, w_nf, w_add, w_sub, w_eqt, w_eqf, w_net, w_nef, w_ltt, w_ltf, w_let, w_lef, w_gtt', w_gtf', w_get, w_gef, toNat_of, of_add, cast_add, nth_0, nth_s, Nat.zero_add, Nat.reduceAdd, Nat.reduceMul, Nat.add_zero, List.length_cons, List.length_nil, List.drop_zero, List.drop_succ_cons, List.take_succ_cons, List.take_zero, List.take_nil, true_and, and_true, Int.toNat_natCast, List.append_nil, List.nil_append, List.cons_append, ldB B1, clB B1, ldBL B1, clBL B1, ldB B2, clB B2, ldBL B2, clBL B2, xa30 r5.row (by omega), rowA0 r5.row hy]
    refine wp_putF g5 hp B2 (by omega) (by simp) rfl fun h6 g6 b6 e6 => ?_
    simp only [overL] at b6
    try simp (disch := first | assumption | omega | (simp only [Int.ofNat_eq_natCast, neg_one]; done) | (simp only [Int.ofNat_eq_natCast, neg_one]; omega)) only [tysW, w_bindJ, w_logJ, w_ct, w_cf, w_gtt, w_gft, w_gtf, w_gff, w_pt, w_pf, w_lret, w_e0, w_e1, w_e2, w_nil, w_fun, w_nt, w_nf, w_add, w_sub, w_eqt, w_eqf, w_net, w_nef, w_ltt, w_ltf, w_let, w_lef, w_gtt', w_gtf', w_get, w_gef, toNat_of, of_add, cast_add, nth_0, nth_s, Nat.zero_add, Nat.reduceAdd, Nat.reduceMul, Nat.add_zero, List.length_cons, List.length_nil, List.drop_zero, List.drop_succ_cons, List.take_succ_cons, List.take_zero, List.take_nil, true_and, and_true, Int.toNat_natCast, List.append_nil, List.nil_append, List.cons_append, ldB b6, clB b6, ldBL b6, clBL b6]
    have r6 := r.from hf g6
    have hcc := r.le
    refine r6.cut (ab_from (i := 1) (by omega) hcc .i64) (by omega) (Nat.le_refl _) (by omega) (Nat.le_refl _) fun p7 r7 hb7 => ?_
    have hdr : ((l.drop 1).take (len - 1)) = l.drop 1 := List.take_of_length_le (by simp; omega)
    rw [hdr] at r7
    try simp (disch := first | assumption | omega | (simp only [Int.ofNat_eq_natCast, neg_one]; done) | (simp only [Int.ofNat_eq_natCast, neg_one]; omega)) only [tysW, w_bindJ, w_logJ, w_ct, w_cf, w_gtt, w_gft, w_gtf, w_gff, w_pt, w_pf, w_lret, w_e0, w_e1, w_e2, w_nil, w_fun, w_nt, w_nf, w_add, w_sub, w_eqt, w_eqf, w_net, w_nef, w_ltt, w_ltf, w_let, w_lef, w_gtt', w_gtf', w_get, w_gef, toNat_of, of_add, cast_add, nth_0, nth_s, Nat.zero_add, Nat.reduceAdd, Nat.reduceMul, Nat.add_zero, List.length_cons, List.length_nil, List.drop_zero, List.drop_succ_cons, List.take_succ_cons, List.take_zero, List.take_nil, true_and, and_true, Int.toNat_natCast, List.append_nil, List.nil_append, List.cons_append]
    refine wp_putF g6 hp b6 (by omega) (by simp) rfl fun h8 g8 b8 e8 => ?_
    simp only [overL] at b8
    try simp (disch := first | assumption | omega | (simp only [Int.ofNat_eq_natCast, neg_one]; done) | (simp only [Int.ofNat_eq_natCast, neg_one]; omega)) only [tysW, w_bindJ, w_logJ, w_ct, w_cf, w_gtt, w_gft, w_gtf, w_gff, w_pt, w_pf, w_lret, w_e0, w_e1, w_e2, w_nil, w_fun, w_nt, w_nf, w_add, w_sub, w_eqt, w_eqf, w_net, w_nef, w_ltt, w_ltf, w_let, w_lef, w_gtt', w_gtf', w_get, w_gef, toNat_of, of_add, cast_add, nth_0, nth_s, Nat.zero_add, Nat.reduceAdd, Nat.reduceMul, Nat.add_zero, List.length_cons, List.length_nil, List.drop_zero, List.drop_succ_cons, List.take_succ_cons, List.take_zero, List.take_nil, true_and, and_true, Int.toNat_natCast, List.append_nil, List.nil_append, List.cons_append, ldB b8, clB b8, ldBL b8, clBL b8]
    refine wp_putF g8 hp b8 (by omega) (by simp) rfl fun h9 g9 b9 e9 => ?_
    simp only [overL] at b9
    have k9 : ∀ n, n ≠ s + 1 → h9.get n = h5.get n := fun n hn => by rw [e9 n hn, e8 n hn, e6 n hn]
    have hpb : blk p7 < s := by rw [(hb7 (by omega)).1]; exact r.lt hf (by omega)
    have r9 : Sl EK h9 p7 (len - 1) (cap - 1) (l.drop 1) := r7.but fun _ => by rw [e9 _ (by omega), e8 _ (by omega)]
    exact rest h9 s5 p7 (len - 1) (cap - 1) (l.drop 1) y.a (clean - 1) g9 (by omega) ((k9 _ (by omega)).trans B3) ((k9 _ (by omega)).trans B4) b9 r9 (fun _ => hpb) (by unfold restK; rw [if_pos e3]) (by unfold baseP; rw [if_pos e3, hy]) (by unfold cleanP restK; rw [if_pos e3, if_pos e3])
  · have e3 : fullK x l = false := by unfold fullK; rw [hlen]; exact decide_eq_false e2
    try simp (disch := first | assumption | omega | (simp only [Int.ofNat_eq_natCast, neg_one]; done) | (simp only [Int.ofNat_eq_natCast, neg_one]; omega)) only [tysW, w_bindJ, w_logJ, w_ct, w_cf, w_gtt, w_gft, w_gtf, w_gff, w_pt, w_pf, w_lret, w_e0, w_e1, w_e2, w_nil, w_fun, w_nt, w_nf, w_add, w_sub, w_eqt, w_eqf, w_net, w_nef, w_ltt, w_ltf, w_let, w_lef, w_gtt', w_gtf', w_get, w_gef, toNat_of, of_add, cast_add, nth_0, nth_s, Nat.zero_add, Nat.reduceAdd, Nat.reduceMul, Nat.add_zero, List.length_cons, List.length_nil, List.drop_zero, List.drop_succ_cons, List.take_succ_cons, List.take_zero, List.take_nil, true_and, and_true, Int.toNat_natCast, List.append_nil, List.nil_append, List.cons_append, ldB B1, clB B1, ldBL B1, clBL B1, ldB B2, clB B2, ldBL B2, clBL B2, ldB B3, clB B3, ldBL B3, clBL B3]
    have := rest h5 s5 p len cap l base clean g5 (by omega) B3 B4 B2 r5 (fun hc => r.lt hf hc) (by unfold restK; rw [if_neg (by simp [e3])]) (by unfold baseP; rw [if_neg (by simp [e3])]) (by unfold cleanP restK; rw [if_neg (by simp [e3]), if_neg (by simp [e3])])
    try simp (disch := first | assumption | omega | (simp only [Int.ofNat_eq_natCast, neg_one]; done) | (simp only [Int.ofNat_eq_natCast, neg_one]; omega)) only [tysW, w_bindJ, w_logJ, w_ct, w_cf, w_gtt, w_gft, w_gtf, w_gff, w_pt, w_pf, w_lret, w_e0, w_e1, w_e2, w_nil, w_fun, w_nt, w_nf, w_add, w_sub, w_eqt, w_eqf, w_net, w_nef, w_ltt, w_ltf, w_let, w_lef, w_gtt', w_gtf', w_get, w_gef, toNat_of, of_add, cast_add, nth_0, nth_s, Nat.zero_add, Nat.reduceAdd, Nat.reduceMul, Nat.add_zero, List.length_cons, List.length_nil, List.drop_zero, List.drop_succ_cons, List.take_succ_cons, List.take_zero, List.take_nil, true_and, and_true, Int.toNat_natCast, List.append_nil, List.nil_append, List.cons_append, ldB B1, clB B1, ldBL B1, clBL B1, ldB B2, clB B2, ldBL B2, clBL B2, ldB B3, clB B3, ldBL B3, clBL B3] at this
    exact this
end
end Go.Ev.R

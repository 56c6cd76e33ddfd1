/- The law TalkBack, part 4: what the functions answer, by their terms. No condition. -/
import Derived.Test.YtnffkmnjpnlleaaTalkBackP3
set_option linter.unusedVariables false
set_option linter.unusedSimpArgs false
set_option maxRecDepth 100000
namespace Go.Ev.R
open Go Go.RowKit
section
variable {N d : Nat} (hN : N = 100000) {h0 h : T} {s0 s : Nat} {K : KV} {pw : Nat → Prop} {Z : Value → T → Prop} (g : From s0 h0 h s) (hp : ∀ n, s0 ≤ n → pw n) {rb : Nat} (hrb : s0 ≤ rb) {x : RS} (hb : allBytes x.1) (hl : x.1.length ≤ 50000)
include hN g hp hrb hb hl
theorem s114 {xb : Nat} (hxb : xb < s) (R : RdAt h rb 135 x xb) (hk : ∀ p1 h' s', From s0 h0 h' s' → s ≤ s' → RdAt h' rb 135 (listR x).2 xb → OwnG EI 3 h' s p1 (listR x).1.length (listR x).1 → (∀ i, i < s → i ≠ rb → h'.get i = h.get i) → (K (.slice p1 (listR x).1.length (listR x).1.length) s').wp pw Z h') :
    (D N (d + 5) 114 [ptr rb] K s).wp pw Z h := by
  obtain ⟨p, len, cap, hbox, sl, hne⟩ := R
  have hrs := lt_of_some g.fresh ⟨_, hbox⟩
  have hlen := sl.row.1
  rw [D_114]; unfold F114; rw [app1_eq]
  try simp (disch := first | assumption | omega | (simp only [Int.ofNat_eq_natCast, neg_one]; done) | (simp only [Int.ofNat_eq_natCast, neg_one]; omega)) only [tysW, w_bindJ, w_logJ, w_ct, w_cf, w_gtt, w_gft, w_gtf, w_gff, w_pt, w_pf, w_lret, w_e0, w_e1, w_e2, w_nil, w_fun, w_nt, w_nf, w_add, w_sub, w_eqt, w_eqf, w_net, w_nef, w_ltt, w_ltf, w_let, w_lef, w_gtt', w_gtf', w_get, w_gef, toNat_of, of_add, cast_add, nth_0, nth_s, Nat.zero_add, Nat.reduceAdd, Nat.reduceMul, Nat.add_zero, List.length_cons, List.length_nil, List.drop_zero, List.drop_succ_cons, List.take_succ_cons, List.take_zero, List.take_nil, true_and, and_true, Int.toNat_natCast, List.append_nil, List.nil_append, List.cons_append, ldB hbox, clB hbox, ldBL hbox, clBL hbox]
  refine PureS.go g hp (s158 (d := d) hN g.fresh sl (by omega) hb) fun v h1 s1 g1 c1 hv => ?_
  have hbox1 := c1.box hbox hrs
  have sl1 := sl.from g.fresh c1
  have l1 := c1.le
  cases ht : listT x.1 with
  | none =>
    rw [ht] at hv
    obtain ⟨e, rfl, he⟩ := hv
    have e1 : listR x = ([], (x.1, true)) := by unfold listR; rw [ht]
    rw [e1] at hk
    cases hx2 : x.2 with
    | true =>
      rw [hx2] at hbox1
      try simp (disch := first | assumption | omega | (simp only [Int.ofNat_eq_natCast, neg_one]; done) | (simp only [Int.ofNat_eq_natCast, neg_one]; omega)) only [tysW, w_bindJ, w_logJ, w_ct, w_cf, w_gtt, w_gft, w_gtf, w_gff, w_pt, w_pf, w_lret, w_e0, w_e1, w_e2, w_nil, w_fun, w_nt, w_nf, w_add, w_sub, w_eqt, w_eqf, w_net, w_nef, w_ltt, w_ltf, w_let, w_lef, w_gtt', w_gtf', w_get, w_gef, toNat_of, of_add, cast_add, nth_0, nth_s, Nat.zero_add, Nat.reduceAdd, Nat.reduceMul, Nat.add_zero, List.length_cons, List.length_nil, List.drop_zero, List.drop_succ_cons, List.take_succ_cons, List.take_zero, List.take_nil, true_and, and_true, Int.toNat_natCast, List.append_nil, List.nil_append, List.cons_append, ldB hbox1, clB hbox1, ldBL hbox1, clBL hbox1]
      unfold X114_1
      try simp (disch := first | assumption | omega | (simp only [Int.ofNat_eq_natCast, neg_one]; done) | (simp only [Int.ofNat_eq_natCast, neg_one]; omega)) only [tysW, w_bindJ, w_logJ, w_ct, w_cf, w_gtt, w_gft, w_gtf, w_gff, w_pt, w_pf, w_lret, w_e0, w_e1, w_e2, w_nil, w_fun, w_nt, w_nf, w_add, w_sub, w_eqt, w_eqf, w_net, w_nef, w_ltt, w_ltf, w_let, w_lef, w_gtt', w_gtf', w_get, w_gef, toNat_of, of_add, cast_add, nth_0, nth_s, Nat.zero_add, Nat.reduceAdd, Nat.reduceMul, Nat.add_zero, List.length_cons, List.length_nil, List.drop_zero, List.drop_succ_cons, List.take_succ_cons, List.take_zero, List.take_nil, true_and, and_true, Int.toNat_natCast, List.append_nil, List.nil_append, List.cons_append]
      refine wp_putF g1 hp hbox1 hrb (by simp) rfl fun h2 g2 b2 e2 => ?_
      simp only [overL] at b2
      try simp (disch := first | assumption | omega | (simp only [Int.ofNat_eq_natCast, neg_one]; done) | (simp only [Int.ofNat_eq_natCast, neg_one]; omega)) only [tysW, w_bindJ, w_logJ, w_ct, w_cf, w_gtt, w_gft, w_gtf, w_gff, w_pt, w_pf, w_lret, w_e0, w_e1, w_e2, w_nil, w_fun, w_nt, w_nf, w_add, w_sub, w_eqt, w_eqf, w_net, w_nef, w_ltt, w_ltf, w_let, w_lef, w_gtt', w_gtf', w_get, w_gef, toNat_of, of_add, cast_add, nth_0, nth_s, Nat.zero_add, Nat.reduceAdd, Nat.reduceMul, Nat.add_zero, List.length_cons, List.length_nil, List.drop_zero, List.drop_succ_cons, List.take_succ_cons, List.take_zero, List.take_nil, true_and, and_true, Int.toNat_natCast, List.append_nil, List.nil_append, List.cons_append, ldB b2, clB b2, ldBL b2, clBL b2]
      exact hk (none) _ _ g2 l1 ⟨p, len, cap, b2, sl1.but fun hc => e2 _ (hne hc).1, hne⟩ .nil fun i h3 h4 => by rw [e2 i h4, c1.keep i h3]
    | false =>
      rw [hx2] at hbox1
      have he' : ¬ e = 0 := he
      try simp (disch := first | assumption | omega | (simp only [Int.ofNat_eq_natCast, neg_one]; done) | (simp only [Int.ofNat_eq_natCast, neg_one]; omega)) only [tysW, w_bindJ, w_logJ, w_ct, w_cf, w_gtt, w_gft, w_gtf, w_gff, w_pt, w_pf, w_lret, w_e0, w_e1, w_e2, w_nil, w_fun, w_nt, w_nf, w_add, w_sub, w_eqt, w_eqf, w_net, w_nef, w_ltt, w_ltf, w_let, w_lef, w_gtt', w_gtf', w_get, w_gef, toNat_of, of_add, cast_add, nth_0, nth_s, Nat.zero_add, Nat.reduceAdd, Nat.reduceMul, Nat.add_zero, List.length_cons, List.length_nil, List.drop_zero, List.drop_succ_cons, List.take_succ_cons, List.take_zero, List.take_nil, true_and, and_true, Int.toNat_natCast, List.append_nil, List.nil_append, List.cons_append, ldB hbox1, clB hbox1, ldBL hbox1, clBL hbox1]
      unfold X114_1
      try simp (disch := first | assumption | omega | (simp only [Int.ofNat_eq_natCast, neg_one]; done) | (simp only [Int.ofNat_eq_natCast, neg_one]; omega)) only [tysW, w_bindJ, w_logJ, w_ct, w_cf, w_gtt, w_gft, w_gtf, w_gff, w_pt, w_pf, w_lret, w_e0, w_e1, w_e2, w_nil, w_fun, w_nt, w_nf, w_add, w_sub, w_eqt, w_eqf, w_net, w_nef, w_ltt, w_ltf, w_let, w_lef, w_gtt', w_gtf', w_get, w_gef, toNat_of, of_add, cast_add, nth_0, nth_s, Nat.zero_add, Nat.reduceAdd, Nat.reduceMul, Nat.add_zero, List.length_cons, List.length_nil, List.drop_zero, List.drop_succ_cons, List.take_succ_cons, List.take_zero, List.take_nil, true_and, and_true, Int.toNat_natCast, List.append_nil, List.nil_append, List.cons_append]
      refine wp_putF g1 hp hbox1 hrb (by simp) rfl fun h2 g2 b2 e2 => ?_
      simp only [overL] at b2
      try simp (disch := first | assumption | omega | (simp only [Int.ofNat_eq_natCast, neg_one]; done) | (simp only [Int.ofNat_eq_natCast, neg_one]; omega)) only [tysW, w_bindJ, w_logJ, w_ct, w_cf, w_gtt, w_gft, w_gtf, w_gff, w_pt, w_pf, w_lret, w_e0, w_e1, w_e2, w_nil, w_fun, w_nt, w_nf, w_add, w_sub, w_eqt, w_eqf, w_net, w_nef, w_ltt, w_ltf, w_let, w_lef, w_gtt', w_gtf', w_get, w_gef, toNat_of, of_add, cast_add, nth_0, nth_s, Nat.zero_add, Nat.reduceAdd, Nat.reduceMul, Nat.add_zero, List.length_cons, List.length_nil, List.drop_zero, List.drop_succ_cons, List.take_succ_cons, List.take_zero, List.take_nil, true_and, and_true, Int.toNat_natCast, List.append_nil, List.nil_append, List.cons_append, ldB b2, clB b2, ldBL b2, clBL b2]
      exact hk (none) _ _ g2 l1 ⟨p, len, cap, b2, sl1.but fun hc => e2 _ (hne hc).1, hne⟩ .nil fun i h3 h4 => by rw [e2 i h4, c1.keep i h3]
  | some q =>
    obtain ⟨l, r⟩ := q
    rw [ht] at hv
    obtain ⟨p1, p2, rfl, o1, o2⟩ := hv
    cases hx2 : x.2 with
    | true =>
      have e1 : listR x = ([], (x.1, true)) := by unfold listR; rw [ht]; simp [hx2]
      rw [e1] at hk
      rw [hx2] at hbox1
      try simp (disch := first | assumption | omega | (simp only [Int.ofNat_eq_natCast, neg_one]; done) | (simp only [Int.ofNat_eq_natCast, neg_one]; omega)) only [tysW, w_bindJ, w_logJ, w_ct, w_cf, w_gtt, w_gft, w_gtf, w_gff, w_pt, w_pf, w_lret, w_e0, w_e1, w_e2, w_nil, w_fun, w_nt, w_nf, w_add, w_sub, w_eqt, w_eqf, w_net, w_nef, w_ltt, w_ltf, w_let, w_lef, w_gtt', w_gtf', w_get, w_gef, toNat_of, of_add, cast_add, nth_0, nth_s, Nat.zero_add, Nat.reduceAdd, Nat.reduceMul, Nat.add_zero, List.length_cons, List.length_nil, List.drop_zero, List.drop_succ_cons, List.take_succ_cons, List.take_zero, List.take_nil, true_and, and_true, Int.toNat_natCast, List.append_nil, List.nil_append, List.cons_append, ldB hbox1, clB hbox1, ldBL hbox1, clBL hbox1]
      unfold X114_1
      try simp (disch := first | assumption | omega | (simp only [Int.ofNat_eq_natCast, neg_one]; done) | (simp only [Int.ofNat_eq_natCast, neg_one]; omega)) only [tysW, w_bindJ, w_logJ, w_ct, w_cf, w_gtt, w_gft, w_gtf, w_gff, w_pt, w_pf, w_lret, w_e0, w_e1, w_e2, w_nil, w_fun, w_nt, w_nf, w_add, w_sub, w_eqt, w_eqf, w_net, w_nef, w_ltt, w_ltf, w_let, w_lef, w_gtt', w_gtf', w_get, w_gef, toNat_of, of_add, cast_add, nth_0, nth_s, Nat.zero_add, Nat.reduceAdd, Nat.reduceMul, Nat.add_zero, List.length_cons, List.length_nil, List.drop_zero, List.drop_succ_cons, List.take_succ_cons, List.take_zero, List.take_nil, true_and, and_true, Int.toNat_natCast, List.append_nil, List.nil_append, List.cons_append]
      refine wp_putF g1 hp hbox1 hrb (by simp) rfl fun h2 g2 b2 e2 => ?_
      simp only [overL] at b2
      try simp (disch := first | assumption | omega | (simp only [Int.ofNat_eq_natCast, neg_one]; done) | (simp only [Int.ofNat_eq_natCast, neg_one]; omega)) only [tysW, w_bindJ, w_logJ, w_ct, w_cf, w_gtt, w_gft, w_gtf, w_gff, w_pt, w_pf, w_lret, w_e0, w_e1, w_e2, w_nil, w_fun, w_nt, w_nf, w_add, w_sub, w_eqt, w_eqf, w_net, w_nef, w_ltt, w_ltf, w_let, w_lef, w_gtt', w_gtf', w_get, w_gef, toNat_of, of_add, cast_add, nth_0, nth_s, Nat.zero_add, Nat.reduceAdd, Nat.reduceMul, Nat.add_zero, List.length_cons, List.length_nil, List.drop_zero, List.drop_succ_cons, List.take_succ_cons, List.take_zero, List.take_nil, true_and, and_true, Int.toNat_natCast, List.append_nil, List.nil_append, List.cons_append, ldB b2, clB b2, ldBL b2, clBL b2]
      exact hk (none) _ _ g2 l1 ⟨p, len, cap, b2, sl1.but fun hc => e2 _ (hne hc).1, hne⟩ .nil fun i h3 h4 => by rw [e2 i h4, c1.keep i h3]
    | false =>
      have e1 : listR x = (l, (r, false)) := by unfold listR; rw [ht]; simp [hx2]
      rw [e1] at hk
      rw [hx2] at hbox1
      try simp (disch := first | assumption | omega | (simp only [Int.ofNat_eq_natCast, neg_one]; done) | (simp only [Int.ofNat_eq_natCast, neg_one]; omega)) only [tysW, w_bindJ, w_logJ, w_ct, w_cf, w_gtt, w_gft, w_gtf, w_gff, w_pt, w_pf, w_lret, w_e0, w_e1, w_e2, w_nil, w_fun, w_nt, w_nf, w_add, w_sub, w_eqt, w_eqf, w_net, w_nef, w_ltt, w_ltf, w_let, w_lef, w_gtt', w_gtf', w_get, w_gef, toNat_of, of_add, cast_add, nth_0, nth_s, Nat.zero_add, Nat.reduceAdd, Nat.reduceMul, Nat.add_zero, List.length_cons, List.length_nil, List.drop_zero, List.drop_succ_cons, List.take_succ_cons, List.take_zero, List.take_nil, true_and, and_true, Int.toNat_natCast, List.append_nil, List.nil_append, List.cons_append, ldB hbox1, clB hbox1, ldBL hbox1, clBL hbox1]
      unfold X114_1
      try simp (disch := first | assumption | omega | (simp only [Int.ofNat_eq_natCast, neg_one]; done) | (simp only [Int.ofNat_eq_natCast, neg_one]; omega)) only [tysW, w_bindJ, w_logJ, w_ct, w_cf, w_gtt, w_gft, w_gtf, w_gff, w_pt, w_pf, w_lret, w_e0, w_e1, w_e2, w_nil, w_fun, w_nt, w_nf, w_add, w_sub, w_eqt, w_eqf, w_net, w_nef, w_ltt, w_ltf, w_let, w_lef, w_gtt', w_gtf', w_get, w_gef, toNat_of, of_add, cast_add, nth_0, nth_s, Nat.zero_add, Nat.reduceAdd, Nat.reduceMul, Nat.add_zero, List.length_cons, List.length_nil, List.drop_zero, List.drop_succ_cons, List.take_succ_cons, List.take_zero, List.take_nil, true_and, and_true, Int.toNat_natCast, List.append_nil, List.nil_append, List.cons_append]
      refine wp_putF g1 hp hbox1 hrb (by simp) rfl fun h2 g2 b2 e2 => ?_
      simp only [overL] at b2
      try simp (disch := first | assumption | omega | (simp only [Int.ofNat_eq_natCast, neg_one]; done) | (simp only [Int.ofNat_eq_natCast, neg_one]; omega)) only [tysW, w_bindJ, w_logJ, w_ct, w_cf, w_gtt, w_gft, w_gtf, w_gff, w_pt, w_pf, w_lret, w_e0, w_e1, w_e2, w_nil, w_fun, w_nt, w_nf, w_add, w_sub, w_eqt, w_eqf, w_net, w_nef, w_ltt, w_ltf, w_let, w_lef, w_gtt', w_gtf', w_get, w_gef, toNat_of, of_add, cast_add, nth_0, nth_s, Nat.zero_add, Nat.reduceAdd, Nat.reduceMul, Nat.add_zero, List.length_cons, List.length_nil, List.drop_zero, List.drop_succ_cons, List.take_succ_cons, List.take_zero, List.take_nil, true_and, and_true, Int.toNat_natCast, List.append_nil, List.nil_append, List.cons_append, ldB b2, clB b2, ldBL b2, clBL b2]
      refine wp_putF g2 hp b2 hrb (by simp) rfl fun h3 g3 b3 e3 => ?_
      simp only [overL] at b3
      have k0 : ∀ i, i ≠ rb → h3.get i = h1.get i := fun i hi => by rw [e3 _ hi, e2 _ hi]
      have k1 : ∀ {p : Option Addr}, (p ≠ none → s ≤ blk p ∧ blk p < s1) → (p ≠ none → h3.get (blk p) = h1.get (blk p)) := fun hpp hp => by have := hpp hp; exact k0 _ (by omega)
      have o1' := o1.but (k1 (o1.lt g1.fresh))
      have o2' := o2.but (k1 (o2.lt g1.fresh))
      try simp (disch := first | assumption | omega | (simp only [Int.ofNat_eq_natCast, neg_one]; done) | (simp only [Int.ofNat_eq_natCast, neg_one]; omega)) only [tysW, w_bindJ, w_logJ, w_ct, w_cf, w_gtt, w_gft, w_gtf, w_gff, w_pt, w_pf, w_lret, w_e0, w_e1, w_e2, w_nil, w_fun, w_nt, w_nf, w_add, w_sub, w_eqt, w_eqf, w_net, w_nef, w_ltt, w_ltf, w_let, w_lef, w_gtt', w_gtf', w_get, w_gef, toNat_of, of_add, cast_add, nth_0, nth_s, Nat.zero_add, Nat.reduceAdd, Nat.reduceMul, Nat.add_zero, List.length_cons, List.length_nil, List.drop_zero, List.drop_succ_cons, List.take_succ_cons, List.take_zero, List.take_nil, true_and, and_true, Int.toNat_natCast, List.append_nil, List.nil_append, List.cons_append]
      exact hk p1 _ _ g3 l1 ⟨p2, r.length, r.length, b3, o2'.sl, fun hc => by
        have hp2 : p2 ≠ none := fun hn => hc (by have := o2.sl.non hn; exact this)
        have := o2.lt g1.fresh hp2; omega⟩ o1' fun i h4 h5 => by rw [k0 i h5, c1.keep i h4]
theorem s132 {w : Nat} (hw : isW w) {xb : Nat} (hxb : xb < s) (R : RdAt h rb 146 x xb) (hk : ∀ h' s', From s0 h0 h' s' → s ≤ s' → RdAt h' rb 146 (oneR w x).2 xb → (∀ i, i < s → i ≠ rb → h'.get i = h.get i) → (K (vi (oneR w x).1) s').wp pw Z h') :
    (D N (d + 4) 132 [ptr rb, vi w] K s).wp pw Z h := by
  obtain ⟨p, len, cap, hbox, sl, hne⟩ := R
  have hrs := lt_of_some g.fresh ⟨_, hbox⟩
  have hlen := sl.row.1
  rw [D_132]; unfold F132; rw [app2_eq]
  unfold X132_1
  try simp (disch := first | assumption | omega | (simp only [Int.ofNat_eq_natCast, neg_one]; done) | (simp only [Int.ofNat_eq_natCast, neg_one]; omega)) only [tysW, w_bindJ, w_logJ, w_ct, w_cf, w_gtt, w_gft, w_gtf, w_gff, w_pt, w_pf, w_lret, w_e0, w_e1, w_e2, w_nil, w_fun, w_nt, w_nf, w_add, w_sub, w_eqt, w_eqf, w_net, w_nef, w_ltt, w_ltf, w_let, w_lef, w_gtt', w_gtf', w_get, w_gef, toNat_of, of_add, cast_add, nth_0, nth_s, Nat.zero_add, Nat.reduceAdd, Nat.reduceMul, Nat.add_zero, List.length_cons, List.length_nil, List.drop_zero, List.drop_succ_cons, List.take_succ_cons, List.take_zero, List.take_nil, true_and, and_true, Int.toNat_natCast, List.append_nil, List.nil_append, List.cons_append, ldB hbox, clB hbox, ldBL hbox, clBL hbox]
  refine PureS.go g hp (s163 (d := d) (w := w) (many := 1) hN g.fresh hw (by omega) sl (by omega) hb) fun v h1 s1 g1 c1 hv => ?_
  have hbox1 := c1.box hbox hrs
  have sl1 := sl.from g.fresh c1
  have l1 := c1.le
  cases ht : takeT w 1 x.1 with
  | none =>
    rw [ht] at hv
    obtain ⟨e, rfl, he⟩ := hv
    have e1 : oneR w x = (0, (x.1, true)) := by unfold oneR; rw [ht]
    rw [e1] at hk
    cases hx2 : x.2 with
    | true =>
      rw [hx2] at hbox1
      try simp (disch := first | assumption | omega | (simp only [Int.ofNat_eq_natCast, neg_one]; done) | (simp only [Int.ofNat_eq_natCast, neg_one]; omega)) only [tysW, w_bindJ, w_logJ, w_ct, w_cf, w_gtt, w_gft, w_gtf, w_gff, w_pt, w_pf, w_lret, w_e0, w_e1, w_e2, w_nil, w_fun, w_nt, w_nf, w_add, w_sub, w_eqt, w_eqf, w_net, w_nef, w_ltt, w_ltf, w_let, w_lef, w_gtt', w_gtf', w_get, w_gef, toNat_of, of_add, cast_add, nth_0, nth_s, Nat.zero_add, Nat.reduceAdd, Nat.reduceMul, Nat.add_zero, List.length_cons, List.length_nil, List.drop_zero, List.drop_succ_cons, List.take_succ_cons, List.take_zero, List.take_nil, true_and, and_true, Int.toNat_natCast, List.append_nil, List.nil_append, List.cons_append, ldB hbox1, clB hbox1, ldBL hbox1, clBL hbox1]
      refine wp_putF g1 hp hbox1 hrb (by simp) rfl fun h2 g2 b2 e2 => ?_
      simp only [overL] at b2
      try simp (disch := first | assumption | omega | (simp only [Int.ofNat_eq_natCast, neg_one]; done) | (simp only [Int.ofNat_eq_natCast, neg_one]; omega)) only [tysW, w_bindJ, w_logJ, w_ct, w_cf, w_gtt, w_gft, w_gtf, w_gff, w_pt, w_pf, w_lret, w_e0, w_e1, w_e2, w_nil, w_fun, w_nt, w_nf, w_add, w_sub, w_eqt, w_eqf, w_net, w_nef, w_ltt, w_ltf, w_let, w_lef, w_gtt', w_gtf', w_get, w_gef, toNat_of, of_add, cast_add, nth_0, nth_s, Nat.zero_add, Nat.reduceAdd, Nat.reduceMul, Nat.add_zero, List.length_cons, List.length_nil, List.drop_zero, List.drop_succ_cons, List.take_succ_cons, List.take_zero, List.take_nil, true_and, and_true, Int.toNat_natCast, List.append_nil, List.nil_append, List.cons_append, ldB b2, clB b2, ldBL b2, clBL b2]
      exact hk  _ _ g2 l1 ⟨p, len, cap, b2, sl1.but fun hc => e2 _ (hne hc).1, hne⟩ fun i h3 h4 => by rw [e2 i h4, c1.keep i h3]
    | false =>
      rw [hx2] at hbox1
      have he' : ¬ e = 0 := he
      try simp (disch := first | assumption | omega | (simp only [Int.ofNat_eq_natCast, neg_one]; done) | (simp only [Int.ofNat_eq_natCast, neg_one]; omega)) only [tysW, w_bindJ, w_logJ, w_ct, w_cf, w_gtt, w_gft, w_gtf, w_gff, w_pt, w_pf, w_lret, w_e0, w_e1, w_e2, w_nil, w_fun, w_nt, w_nf, w_add, w_sub, w_eqt, w_eqf, w_net, w_nef, w_ltt, w_ltf, w_let, w_lef, w_gtt', w_gtf', w_get, w_gef, toNat_of, of_add, cast_add, nth_0, nth_s, Nat.zero_add, Nat.reduceAdd, Nat.reduceMul, Nat.add_zero, List.length_cons, List.length_nil, List.drop_zero, List.drop_succ_cons, List.take_succ_cons, List.take_zero, List.take_nil, true_and, and_true, Int.toNat_natCast, List.append_nil, List.nil_append, List.cons_append, ldB hbox1, clB hbox1, ldBL hbox1, clBL hbox1]
      refine wp_putF g1 hp hbox1 hrb (by simp) rfl fun h2 g2 b2 e2 => ?_
      simp only [overL] at b2
      try simp (disch := first | assumption | omega | (simp only [Int.ofNat_eq_natCast, neg_one]; done) | (simp only [Int.ofNat_eq_natCast, neg_one]; omega)) only [tysW, w_bindJ, w_logJ, w_ct, w_cf, w_gtt, w_gft, w_gtf, w_gff, w_pt, w_pf, w_lret, w_e0, w_e1, w_e2, w_nil, w_fun, w_nt, w_nf, w_add, w_sub, w_eqt, w_eqf, w_net, w_nef, w_ltt, w_ltf, w_let, w_lef, w_gtt', w_gtf', w_get, w_gef, toNat_of, of_add, cast_add, nth_0, nth_s, Nat.zero_add, Nat.reduceAdd, Nat.reduceMul, Nat.add_zero, List.length_cons, List.length_nil, List.drop_zero, List.drop_succ_cons, List.take_succ_cons, List.take_zero, List.take_nil, true_and, and_true, Int.toNat_natCast, List.append_nil, List.nil_append, List.cons_append, ldB b2, clB b2, ldBL b2, clBL b2]
      exact hk  _ _ g2 l1 ⟨p, len, cap, b2, sl1.but fun hc => e2 _ (hne hc).1, hne⟩ fun i h3 h4 => by rw [e2 i h4, c1.keep i h3]
  | some q =>
    obtain ⟨l, r⟩ := q
    obtain ⟨y, rfl⟩ := takeT1 ht
    rw [ht] at hv
    obtain ⟨p1, p2, rfl, o1, o2⟩ := hv
    cases hx2 : x.2 with
    | true =>
      have e1 : oneR w x = (0, (x.1, true)) := by unfold oneR; rw [ht]; simp [hx2]
      rw [e1] at hk
      rw [hx2] at hbox1
      try simp (disch := first | assumption | omega | (simp only [Int.ofNat_eq_natCast, neg_one]; done) | (simp only [Int.ofNat_eq_natCast, neg_one]; omega)) only [tysW, w_bindJ, w_logJ, w_ct, w_cf, w_gtt, w_gft, w_gtf, w_gff, w_pt, w_pf, w_lret, w_e0, w_e1, w_e2, w_nil, w_fun, w_nt, w_nf, w_add, w_sub, w_eqt, w_eqf, w_net, w_nef, w_ltt, w_ltf, w_let, w_lef, w_gtt', w_gtf', w_get, w_gef, toNat_of, of_add, cast_add, nth_0, nth_s, Nat.zero_add, Nat.reduceAdd, Nat.reduceMul, Nat.add_zero, List.length_cons, List.length_nil, List.drop_zero, List.drop_succ_cons, List.take_succ_cons, List.take_zero, List.take_nil, true_and, and_true, Int.toNat_natCast, List.append_nil, List.nil_append, List.cons_append, ldB hbox1, clB hbox1, ldBL hbox1, clBL hbox1]
      refine wp_putF g1 hp hbox1 hrb (by simp) rfl fun h2 g2 b2 e2 => ?_
      simp only [overL] at b2
      try simp (disch := first | assumption | omega | (simp only [Int.ofNat_eq_natCast, neg_one]; done) | (simp only [Int.ofNat_eq_natCast, neg_one]; omega)) only [tysW, w_bindJ, w_logJ, w_ct, w_cf, w_gtt, w_gft, w_gtf, w_gff, w_pt, w_pf, w_lret, w_e0, w_e1, w_e2, w_nil, w_fun, w_nt, w_nf, w_add, w_sub, w_eqt, w_eqf, w_net, w_nef, w_ltt, w_ltf, w_let, w_lef, w_gtt', w_gtf', w_get, w_gef, toNat_of, of_add, cast_add, nth_0, nth_s, Nat.zero_add, Nat.reduceAdd, Nat.reduceMul, Nat.add_zero, List.length_cons, List.length_nil, List.drop_zero, List.drop_succ_cons, List.take_succ_cons, List.take_zero, List.take_nil, true_and, and_true, Int.toNat_natCast, List.append_nil, List.nil_append, List.cons_append, ldB b2, clB b2, ldBL b2, clBL b2]
      exact hk  _ _ g2 l1 ⟨p, len, cap, b2, sl1.but fun hc => e2 _ (hne hc).1, hne⟩ fun i h3 h4 => by rw [e2 i h4, c1.keep i h3]
    | false =>
      have e1 : oneR w x = (y, (r, false)) := by unfold oneR; rw [ht]; simp [hx2]
      rw [e1] at hk
      rw [hx2] at hbox1
      try simp (disch := first | assumption | omega | (simp only [Int.ofNat_eq_natCast, neg_one]; done) | (simp only [Int.ofNat_eq_natCast, neg_one]; omega)) only [tysW, w_bindJ, w_logJ, w_ct, w_cf, w_gtt, w_gft, w_gtf, w_gff, w_pt, w_pf, w_lret, w_e0, w_e1, w_e2, w_nil, w_fun, w_nt, w_nf, w_add, w_sub, w_eqt, w_eqf, w_net, w_nef, w_ltt, w_ltf, w_let, w_lef, w_gtt', w_gtf', w_get, w_gef, toNat_of, of_add, cast_add, nth_0, nth_s, Nat.zero_add, Nat.reduceAdd, Nat.reduceMul, Nat.add_zero, List.length_cons, List.length_nil, List.drop_zero, List.drop_succ_cons, List.take_succ_cons, List.take_zero, List.take_nil, true_and, and_true, Int.toNat_natCast, List.append_nil, List.nil_append, List.cons_append, ldB hbox1, clB hbox1, ldBL hbox1, clBL hbox1]
      refine wp_putF g1 hp hbox1 hrb (by simp) rfl fun h3 g3 b3 e3 => ?_
      simp only [overL] at b3
      have k0 : ∀ i, i ≠ rb → h3.get i = h1.get i := fun i hi => e3 _ hi
      have k1 : ∀ {p : Option Addr}, (p ≠ none → s ≤ blk p ∧ blk p < s1) → (p ≠ none → h3.get (blk p) = h1.get (blk p)) := fun hpp hp => by have := hpp hp; exact k0 _ (by omega)
      have o1' := o1.but (k1 (o1.lt g1.fresh))
      have o2' := o2.but (k1 (o2.lt g1.fresh))
      have r1 := o1'.sl.row
      have ld0 : ∀ (kk : KV) (s : Nat), (aload (blk p1) (off p1) kk s).wp pw Z h3 = (kk (vi y) s).wp pw Z h3 := fun kk s => r1.int (i := 0) rfl kk s
      have x0 : ∀ (kk : KV) (s : Nat), xa 31 (.slice p1 1 1) (i64 0) kk s = kk (.pointer (some ⟨blk p1, off p1, none⟩)) s := fun kk s => xaI r1 (j := (0 : Int)) (by omega) (by simp) 1 .i64 kk s
      try simp (disch := first | assumption | omega | (simp only [Int.ofNat_eq_natCast, neg_one]; done) | (simp only [Int.ofNat_eq_natCast, neg_one]; omega)) only [tysW, w_bindJ, w_logJ, w_ct, w_cf, w_gtt, w_gft, w_gtf, w_gff, w_pt, w_pf, w_lret, w_e0, w_e1, w_e2, w_nil, w_fun, w_nt, w_nf, w_add, w_sub, w_eqt, w_eqf, w_net, w_nef, w_ltt, w_ltf, w_let, w_lef, w_gtt', w_gtf', w_get, w_gef, toNat_of, of_add, cast_add, nth_0, nth_s, Nat.zero_add, Nat.reduceAdd, Nat.reduceMul, Nat.add_zero, List.length_cons, List.length_nil, List.drop_zero, List.drop_succ_cons, List.take_succ_cons, List.take_zero, List.take_nil, true_and, and_true, Int.toNat_natCast, List.append_nil, List.nil_append, List.cons_append, x0, ld0]
      exact hk  _ _ g3 l1 ⟨p2, r.length, r.length, b3, o2'.sl, fun hc => by
        have hp2 : p2 ≠ none := fun hn => hc (by have := o2.sl.non hn; exact this)
        have := o2.lt g1.fresh hp2; omega⟩ fun i h4 h5 => by rw [k0 i h5, c1.keep i h4]
theorem s133 {xb : Nat} (hxb : xb < s) (R : RdAt h rb 146 x xb) (hk : ∀ p1 h' s', From s0 h0 h' s' → s ≤ s' → RdAt h' rb 146 (listR x).2 xb → OwnG EI 3 h' s p1 (listR x).1.length (listR x).1 → (∀ i, i < s → i ≠ rb → h'.get i = h.get i) → (K (.slice p1 (listR x).1.length (listR x).1.length) s').wp pw Z h') :
    (D N (d + 5) 133 [ptr rb] K s).wp pw Z h := by
  obtain ⟨p, len, cap, hbox, sl, hne⟩ := R
  have hrs := lt_of_some g.fresh ⟨_, hbox⟩
  have hlen := sl.row.1
  rw [D_133]; unfold F133; rw [app1_eq]
  try simp (disch := first | assumption | omega | (simp only [Int.ofNat_eq_natCast, neg_one]; done) | (simp only [Int.ofNat_eq_natCast, neg_one]; omega)) only [tysW, w_bindJ, w_logJ, w_ct, w_cf, w_gtt, w_gft, w_gtf, w_gff, w_pt, w_pf, w_lret, w_e0, w_e1, w_e2, w_nil, w_fun, w_nt, w_nf, w_add, w_sub, w_eqt, w_eqf, w_net, w_nef, w_ltt, w_ltf, w_let, w_lef, w_gtt', w_gtf', w_get, w_gef, toNat_of, of_add, cast_add, nth_0, nth_s, Nat.zero_add, Nat.reduceAdd, Nat.reduceMul, Nat.add_zero, List.length_cons, List.length_nil, List.drop_zero, List.drop_succ_cons, List.take_succ_cons, List.take_zero, List.take_nil, true_and, and_true, Int.toNat_natCast, List.append_nil, List.nil_append, List.cons_append, ldB hbox, clB hbox, ldBL hbox, clBL hbox]
  refine PureS.go g hp (s164 (d := d) hN g.fresh sl (by omega) hb) fun v h1 s1 g1 c1 hv => ?_
  have hbox1 := c1.box hbox hrs
  have sl1 := sl.from g.fresh c1
  have l1 := c1.le
  cases ht : listT x.1 with
  | none =>
    rw [ht] at hv
    obtain ⟨e, rfl, he⟩ := hv
    have e1 : listR x = ([], (x.1, true)) := by unfold listR; rw [ht]
    rw [e1] at hk
    cases hx2 : x.2 with
    | true =>
      rw [hx2] at hbox1
      try simp (disch := first | assumption | omega | (simp only [Int.ofNat_eq_natCast, neg_one]; done) | (simp only [Int.ofNat_eq_natCast, neg_one]; omega)) only [tysW, w_bindJ, w_logJ, w_ct, w_cf, w_gtt, w_gft, w_gtf, w_gff, w_pt, w_pf, w_lret, w_e0, w_e1, w_e2, w_nil, w_fun, w_nt, w_nf, w_add, w_sub, w_eqt, w_eqf, w_net, w_nef, w_ltt, w_ltf, w_let, w_lef, w_gtt', w_gtf', w_get, w_gef, toNat_of, of_add, cast_add, nth_0, nth_s, Nat.zero_add, Nat.reduceAdd, Nat.reduceMul, Nat.add_zero, List.length_cons, List.length_nil, List.drop_zero, List.drop_succ_cons, List.take_succ_cons, List.take_zero, List.take_nil, true_and, and_true, Int.toNat_natCast, List.append_nil, List.nil_append, List.cons_append, ldB hbox1, clB hbox1, ldBL hbox1, clBL hbox1]
      refine wp_putF g1 hp hbox1 hrb (by simp) rfl fun h2 g2 b2 e2 => ?_
      simp only [overL] at b2
      try simp (disch := first | assumption | omega | (simp only [Int.ofNat_eq_natCast, neg_one]; done) | (simp only [Int.ofNat_eq_natCast, neg_one]; omega)) only [tysW, w_bindJ, w_logJ, w_ct, w_cf, w_gtt, w_gft, w_gtf, w_gff, w_pt, w_pf, w_lret, w_e0, w_e1, w_e2, w_nil, w_fun, w_nt, w_nf, w_add, w_sub, w_eqt, w_eqf, w_net, w_nef, w_ltt, w_ltf, w_let, w_lef, w_gtt', w_gtf', w_get, w_gef, toNat_of, of_add, cast_add, nth_0, nth_s, Nat.zero_add, Nat.reduceAdd, Nat.reduceMul, Nat.add_zero, List.length_cons, List.length_nil, List.drop_zero, List.drop_succ_cons, List.take_succ_cons, List.take_zero, List.take_nil, true_and, and_true, Int.toNat_natCast, List.append_nil, List.nil_append, List.cons_append, ldB b2, clB b2, ldBL b2, clBL b2]
      exact hk (none) _ _ g2 l1 ⟨p, len, cap, b2, sl1.but fun hc => e2 _ (hne hc).1, hne⟩ .nil fun i h3 h4 => by rw [e2 i h4, c1.keep i h3]
    | false =>
      rw [hx2] at hbox1
      have he' : ¬ e = 0 := he
      try simp (disch := first | assumption | omega | (simp only [Int.ofNat_eq_natCast, neg_one]; done) | (simp only [Int.ofNat_eq_natCast, neg_one]; omega)) only [tysW, w_bindJ, w_logJ, w_ct, w_cf, w_gtt, w_gft, w_gtf, w_gff, w_pt, w_pf, w_lret, w_e0, w_e1, w_e2, w_nil, w_fun, w_nt, w_nf, w_add, w_sub, w_eqt, w_eqf, w_net, w_nef, w_ltt, w_ltf, w_let, w_lef, w_gtt', w_gtf', w_get, w_gef, toNat_of, of_add, cast_add, nth_0, nth_s, Nat.zero_add, Nat.reduceAdd, Nat.reduceMul, Nat.add_zero, List.length_cons, List.length_nil, List.drop_zero, List.drop_succ_cons, List.take_succ_cons, List.take_zero, List.take_nil, true_and, and_true, Int.toNat_natCast, List.append_nil, List.nil_append, List.cons_append, ldB hbox1, clB hbox1, ldBL hbox1, clBL hbox1]
      refine wp_putF g1 hp hbox1 hrb (by simp) rfl fun h2 g2 b2 e2 => ?_
      simp only [overL] at b2
      try simp (disch := first | assumption | omega | (simp only [Int.ofNat_eq_natCast, neg_one]; done) | (simp only [Int.ofNat_eq_natCast, neg_one]; omega)) only [tysW, w_bindJ, w_logJ, w_ct, w_cf, w_gtt, w_gft, w_gtf, w_gff, w_pt, w_pf, w_lret, w_e0, w_e1, w_e2, w_nil, w_fun, w_nt, w_nf, w_add, w_sub, w_eqt, w_eqf, w_net, w_nef, w_ltt, w_ltf, w_let, w_lef, w_gtt', w_gtf', w_get, w_gef, toNat_of, of_add, cast_add, nth_0, nth_s, Nat.zero_add, Nat.reduceAdd, Nat.reduceMul, Nat.add_zero, List.length_cons, List.length_nil, List.drop_zero, List.drop_succ_cons, List.take_succ_cons, List.take_zero, List.take_nil, true_and, and_true, Int.toNat_natCast, List.append_nil, List.nil_append, List.cons_append, ldB b2, clB b2, ldBL b2, clBL b2]
      exact hk (none) _ _ g2 l1 ⟨p, len, cap, b2, sl1.but fun hc => e2 _ (hne hc).1, hne⟩ .nil fun i h3 h4 => by rw [e2 i h4, c1.keep i h3]
  | some q =>
    obtain ⟨l, r⟩ := q
    rw [ht] at hv
    obtain ⟨p1, p2, rfl, o1, o2⟩ := hv
    cases hx2 : x.2 with
    | true =>
      have e1 : listR x = ([], (x.1, true)) := by unfold listR; rw [ht]; simp [hx2]
      rw [e1] at hk
      rw [hx2] at hbox1
      try simp (disch := first | assumption | omega | (simp only [Int.ofNat_eq_natCast, neg_one]; done) | (simp only [Int.ofNat_eq_natCast, neg_one]; omega)) only [tysW, w_bindJ, w_logJ, w_ct, w_cf, w_gtt, w_gft, w_gtf, w_gff, w_pt, w_pf, w_lret, w_e0, w_e1, w_e2, w_nil, w_fun, w_nt, w_nf, w_add, w_sub, w_eqt, w_eqf, w_net, w_nef, w_ltt, w_ltf, w_let, w_lef, w_gtt', w_gtf', w_get, w_gef, toNat_of, of_add, cast_add, nth_0, nth_s, Nat.zero_add, Nat.reduceAdd, Nat.reduceMul, Nat.add_zero, List.length_cons, List.length_nil, List.drop_zero, List.drop_succ_cons, List.take_succ_cons, List.take_zero, List.take_nil, true_and, and_true, Int.toNat_natCast, List.append_nil, List.nil_append, List.cons_append, ldB hbox1, clB hbox1, ldBL hbox1, clBL hbox1]
      refine wp_putF g1 hp hbox1 hrb (by simp) rfl fun h2 g2 b2 e2 => ?_
      simp only [overL] at b2
      try simp (disch := first | assumption | omega | (simp only [Int.ofNat_eq_natCast, neg_one]; done) | (simp only [Int.ofNat_eq_natCast, neg_one]; omega)) only [tysW, w_bindJ, w_logJ, w_ct, w_cf, w_gtt, w_gft, w_gtf, w_gff, w_pt, w_pf, w_lret, w_e0, w_e1, w_e2, w_nil, w_fun, w_nt, w_nf, w_add, w_sub, w_eqt, w_eqf, w_net, w_nef, w_ltt, w_ltf, w_let, w_lef, w_gtt', w_gtf', w_get, w_gef, toNat_of, of_add, cast_add, nth_0, nth_s, Nat.zero_add, Nat.reduceAdd, Nat.reduceMul, Nat.add_zero, List.length_cons, List.length_nil, List.drop_zero, List.drop_succ_cons, List.take_succ_cons, List.take_zero, List.take_nil, true_and, and_true, Int.toNat_natCast, List.append_nil, List.nil_append, List.cons_append, ldB b2, clB b2, ldBL b2, clBL b2]
      exact hk (none) _ _ g2 l1 ⟨p, len, cap, b2, sl1.but fun hc => e2 _ (hne hc).1, hne⟩ .nil fun i h3 h4 => by rw [e2 i h4, c1.keep i h3]
    | false =>
      have e1 : listR x = (l, (r, false)) := by unfold listR; rw [ht]; simp [hx2]
      rw [e1] at hk
      rw [hx2] at hbox1
      try simp (disch := first | assumption | omega | (simp only [Int.ofNat_eq_natCast, neg_one]; done) | (simp only [Int.ofNat_eq_natCast, neg_one]; omega)) only [tysW, w_bindJ, w_logJ, w_ct, w_cf, w_gtt, w_gft, w_gtf, w_gff, w_pt, w_pf, w_lret, w_e0, w_e1, w_e2, w_nil, w_fun, w_nt, w_nf, w_add, w_sub, w_eqt, w_eqf, w_net, w_nef, w_ltt, w_ltf, w_let, w_lef, w_gtt', w_gtf', w_get, w_gef, toNat_of, of_add, cast_add, nth_0, nth_s, Nat.zero_add, Nat.reduceAdd, Nat.reduceMul, Nat.add_zero, List.length_cons, List.length_nil, List.drop_zero, List.drop_succ_cons, List.take_succ_cons, List.take_zero, List.take_nil, true_and, and_true, Int.toNat_natCast, List.append_nil, List.nil_append, List.cons_append, ldB hbox1, clB hbox1, ldBL hbox1, clBL hbox1]
      refine wp_putF g1 hp hbox1 hrb (by simp) rfl fun h3 g3 b3 e3 => ?_
      simp only [overL] at b3
      have k0 : ∀ i, i ≠ rb → h3.get i = h1.get i := fun i hi => e3 _ hi
      have k1 : ∀ {p : Option Addr}, (p ≠ none → s ≤ blk p ∧ blk p < s1) → (p ≠ none → h3.get (blk p) = h1.get (blk p)) := fun hpp hp => by have := hpp hp; exact k0 _ (by omega)
      have o1' := o1.but (k1 (o1.lt g1.fresh))
      have o2' := o2.but (k1 (o2.lt g1.fresh))
      try simp (disch := first | assumption | omega | (simp only [Int.ofNat_eq_natCast, neg_one]; done) | (simp only [Int.ofNat_eq_natCast, neg_one]; omega)) only [tysW, w_bindJ, w_logJ, w_ct, w_cf, w_gtt, w_gft, w_gtf, w_gff, w_pt, w_pf, w_lret, w_e0, w_e1, w_e2, w_nil, w_fun, w_nt, w_nf, w_add, w_sub, w_eqt, w_eqf, w_net, w_nef, w_ltt, w_ltf, w_let, w_lef, w_gtt', w_gtf', w_get, w_gef, toNat_of, of_add, cast_add, nth_0, nth_s, Nat.zero_add, Nat.reduceAdd, Nat.reduceMul, Nat.add_zero, List.length_cons, List.length_nil, List.drop_zero, List.drop_succ_cons, List.take_succ_cons, List.take_zero, List.take_nil, true_and, and_true, Int.toNat_natCast, List.append_nil, List.nil_append, List.cons_append]
      exact hk p1 _ _ g3 l1 ⟨p2, r.length, r.length, b3, o2'.sl, fun hc => by
        have hp2 : p2 ≠ none := fun hn => hc (by have := o2.sl.non hn; exact this)
        have := o2.lt g1.fresh hp2; omega⟩ o1' fun i h4 h5 => by rw [k0 i h5, c1.keep i h4]
end
end Go.Ev.R
namespace Go.Ev.R
open Go Go.RowKit
theorem RdAt.other {h h' : T} {rb ty : Nat} {x : RS} {s xb : Nat} (R : RdAt h rb ty x rb) (hf : ∀ n, s ≤ n → h.get n = none) (hx : s ≤ xb) : RdAt h rb ty x xb := by
  obtain ⟨p, len, cap, b, sl, hne⟩ := R
  exact ⟨p, len, cap, b, sl, fun hc => ⟨(hne hc).1, by have := sl.lt hf hc; omega⟩⟩
theorem RdAt.from {h h' : T} {rb ty : Nat} {x : RS} {s s' xb : Nat} (R : RdAt h rb ty x xb) (hf : ∀ n, s ≤ n → h.get n = none) (g : From s h h' s') : RdAt h' rb ty x xb := by
  obtain ⟨p, len, cap, b, sl, hne⟩ := R
  exact ⟨p, len, cap, g.box b (lt_of_some hf ⟨_, b⟩), sl.from hf g, hne⟩
/-- Where but the other box is written. -/
theorem RdAt.but {h h' : T} {rb ty : Nat} {x : RS} {xb : Nat} (R : RdAt h rb ty x xb) (hn : rb ≠ xb) (e : ∀ i, i ≠ xb → h'.get i = h.get i) : RdAt h' rb ty x xb := by
  obtain ⟨p, len, cap, b, sl, hne⟩ := R
  exact ⟨p, len, cap, (e rb hn).trans b, sl.but fun hc => e _ (hne hc).2, hne⟩
theorem RdAt.iter {h h' : T} {rb ty : Nat} {x : RS} {xb it pos : Nat} {a : ByteArray} (R : RdAt h rb ty x xb) (hb : h.get it = some (.stringIter a pos)) (e : ∀ i, i ≠ it → h'.get i = h.get i) : RdAt h' rb ty x xb := by
  obtain ⟨p, len, cap, b, sl, hne⟩ := R
  refine ⟨p, len, cap, (e rb fun he => by rw [he, hb] at b; cases b).trans b, sl.but fun hc => e _ fun he => ?_, hne⟩
  obtain ⟨c, t, f, g, h1, -⟩ := sl.ok hc
  rw [he, hb] at h1; cases h1
/-- What is read of a saying. -/
structure DS where
  sen : Int
  seq : Int
  time : Int
  dat : List Int
  st : RS
def stepD (y : DS) (c : UInt8) : DS :=
  if c = 115 then { y with sen := (oneR 1 y.st).1, st := (oneR 1 y.st).2 }
  else if c = 113 then { y with seq := (oneR 4 y.st).1, st := (oneR 4 y.st).2 }
  else if c = 116 then { y with time := (oneR 8 y.st).1, st := (oneR 8 y.st).2 }
  else { y with dat := (listR y.st).1, st := (listR y.st).2 }
def kindD (b : List Int) : Int := (oneR 1 (b, false)).1
def startD (b : List Int) : DS := ⟨0, 0, 0, [], (oneR 1 (b, false)).2⟩
def decS (b : List Int) : DS := (sayT (kindD b)).foldl stepD (startD b)
def svD (k : Int) (y : DS) (p : Option Addr) : SV := ⟨k, y.sen, y.seq, y.time, p, y.dat.length, y.dat.length⟩
def badD (b : List Int) : Bool := (decS b).st.2 || (!(decS b).st.1.isEmpty || badS (svD (kindD b) (decS b) none))
theorem badS_p (k : Int) (y : DS) (p q : Option Addr) : badS (svD k y p) = badS (svD k y q) := rfl
theorem stepD_bytes {y : DS} {c : UInt8} (hb : allBytes y.st.1) : allBytes (stepD y c).st.1 ∧ (stepD y c).st.1.length ≤ y.st.1.length := by
  unfold stepD
  split
  · exact oneR_bytes hb
  split
  · exact oneR_bytes hb
  split
  · exact oneR_bytes hb
  · exact ⟨(listR_bytes hb).1, (listR_bytes hb).2.1⟩
theorem fold_bytes : ∀ (l : List UInt8) {y : DS}, allBytes y.st.1 → allBytes (l.foldl stepD y).st.1 ∧ (l.foldl stepD y).st.1.length ≤ y.st.1.length
  | [], y, h => ⟨h, Nat.le_refl _⟩
  | c :: l, y, h => by
    have h1 := stepD_bytes (c := c) h
    have h2 := fold_bytes l h1.1
    exact ⟨h2.1, Nat.le_trans h2.2 h1.2⟩
theorem fold_next {l : List UInt8} {i : Nat} {c : UInt8} (hc : l[i]? = some c) (y : DS) : (l.take (i + 1)).foldl stepD y = stepD ((l.take i).foldl stepD y) c := by
  rw [List.take_add_one, hc, List.foldl_append]; rfl
def Got (h : T) (s : Nat) (v : Value) (b : List Int) : Prop :=
  if badD b = true then v = .tuple ⟨[.agg ⟨[vi 0, vi 0, vi 0, vi 0, .slice none 0 0]⟩, vi 5]⟩
  else ∃ p, v = .tuple ⟨[.agg ⟨svv (svD (kindD b) (decS b) p)⟩, vi 0]⟩ ∧ OwnG EI 3 h s p (decS b).dat.length (decS b).dat
section
variable {N d : Nat} (hN : N = 100000) {h : T} {s : Nat} (hf : ∀ n, s ≤ n → h.get n = none)
include hN hf
theorem s37 {p : Option Addr} {len cap : Nat} {b : List Int} (r : Sl EB h p len cap b) (hl : len ≤ 50000) (hb : allBytes b) : PureS (D N (d + 12)) 37 [.slice p len cap] h s (fun v h' s' => Got h' s v b) := by
  refine PureS.of hf fun K pw Z g hp hk => ?_
  rw [D_37]; unfold F37; rw [app1_eq]
  unfold X37_4
  have hlen := r.row.1
  try simp (disch := first | assumption | omega | (simp only [Int.ofNat_eq_natCast, neg_one]; done) | (simp only [Int.ofNat_eq_natCast, neg_one]; omega)) only [tysW, w_bindJ, w_logJ, w_ct, w_cf, w_gtt, w_gft, w_gtf, w_gff, w_pt, w_pf, w_lret, w_e0, w_e1, w_e2, w_nil, w_fun, w_nt, w_nf, w_add, w_sub, w_eqt, w_eqf, w_net, w_nef, w_ltt, w_ltf, w_let, w_lef, w_gtt', w_gtf', w_get, w_gef, toNat_of, of_add, cast_add, nth_0, nth_s, Nat.zero_add, Nat.reduceAdd, Nat.reduceMul, Nat.add_zero, List.length_cons, List.length_nil, List.drop_zero, List.drop_succ_cons, List.take_succ_cons, List.take_zero, List.take_nil, true_and, and_true, Int.toNat_natCast, List.append_nil, List.nil_append, List.cons_append]
  refine wp_boxA g hp fun h1 g1 c1 b1 => ?_
  refine PureS.go g1 hp (s112 (d := d + 10) g1.fresh (r.from hf g1) (by omega)) fun v h2 s2 g2 c2 hv => ?_
  obtain ⟨p2, rfl, o2⟩ := hv
  have l2 := c2.le
  replace b1 := c2.box b1 (by omega)
  try simp (disch := first | assumption | omega | (simp only [Int.ofNat_eq_natCast, neg_one]; done) | (simp only [Int.ofNat_eq_natCast, neg_one]; omega)) only [tysW, w_bindJ, w_logJ, w_ct, w_cf, w_gtt, w_gft, w_gtf, w_gff, w_pt, w_pf, w_lret, w_e0, w_e1, w_e2, w_nil, w_fun, w_nt, w_nf, w_add, w_sub, w_eqt, w_eqf, w_net, w_nef, w_ltt, w_ltf, w_let, w_lef, w_gtt', w_gtf', w_get, w_gef, toNat_of, of_add, cast_add, nth_0, nth_s, Nat.zero_add, Nat.reduceAdd, Nat.reduceMul, Nat.add_zero, List.length_cons, List.length_nil, List.drop_zero, List.drop_succ_cons, List.take_succ_cons, List.take_zero, List.take_nil, true_and, and_true, Int.toNat_natCast, List.append_nil, List.nil_append, List.cons_append]
  refine wp_boxA g2 hp fun h3 g3 c3 b3 => ?_
  replace b1 := c3.box b1 (by omega)
  have o3 := o2.from g2.fresh c3
  try simp (disch := first | assumption | omega | (simp only [Int.ofNat_eq_natCast, neg_one]; done) | (simp only [Int.ofNat_eq_natCast, neg_one]; omega)) only [tysW, w_bindJ, w_logJ, w_ct, w_cf, w_gtt, w_gft, w_gtf, w_gff, w_pt, w_pf, w_lret, w_e0, w_e1, w_e2, w_nil, w_fun, w_nt, w_nf, w_add, w_sub, w_eqt, w_eqf, w_net, w_nef, w_ltt, w_ltf, w_let, w_lef, w_gtt', w_gtf', w_get, w_gef, toNat_of, of_add, cast_add, nth_0, nth_s, Nat.zero_add, Nat.reduceAdd, Nat.reduceMul, Nat.add_zero, List.length_cons, List.length_nil, List.drop_zero, List.drop_succ_cons, List.take_succ_cons, List.take_zero, List.take_nil, true_and, and_true, Int.toNat_natCast, List.append_nil, List.nil_append, List.cons_append]
  refine wp_putF g3 hp b3 (by omega) (by simp) rfl fun h4 g4 b4 e4 => ?_
  simp only [overL] at b4
  replace b1 := (e4 s (by omega)).trans b1
  have o4 := o3.but fun hp => e4 _ (by have := o2.lt g2.fresh hp; omega)
  have R4 : RdAt h4 s2 135 (b, false) s2 := ⟨p2, len, len, b4, o4.sl, fun hc => by
    have hp2 : p2 ≠ none := fun hn => hc (by have := o4.sl.non hn; exact this)
    have := o2.lt g2.fresh hp2; omega⟩
  refine s113 (d := d + 7) (w := 1) hN g4 hp (by omega) hb (by show b.length ≤ 50000; omega) (.inl rfl) (by omega) R4 fun h5 s5 g5 l5 R5 e5 => ?_
  replace b1 := (e5 s (by omega) (by omega)).trans b1
  have hb5 := oneR_bytes (w := 1) (x := (b, false)) hb
  try simp (disch := first | assumption | omega | (simp only [Int.ofNat_eq_natCast, neg_one]; done) | (simp only [Int.ofNat_eq_natCast, neg_one]; omega)) only [tysW, w_bindJ, w_logJ, w_ct, w_cf, w_gtt, w_gft, w_gtf, w_gff, w_pt, w_pf, w_lret, w_e0, w_e1, w_e2, w_nil, w_fun, w_nt, w_nf, w_add, w_sub, w_eqt, w_eqf, w_net, w_nef, w_ltt, w_ltf, w_let, w_lef, w_gtt', w_gtf', w_get, w_gef, toNat_of, of_add, cast_add, nth_0, nth_s, Nat.zero_add, Nat.reduceAdd, Nat.reduceMul, Nat.add_zero, List.length_cons, List.length_nil, List.drop_zero, List.drop_succ_cons, List.take_succ_cons, List.take_zero, List.take_nil, true_and, and_true, Int.toNat_natCast, List.append_nil, List.nil_append, List.cons_append]
  refine wp_boxA g5 hp fun h6 g6 c6 b6 => ?_
  replace b1 := c6.box b1 (by omega)
  have R6 := (R5.other (h' := h6) g5.fresh (Nat.le_refl s5)).from g5.fresh c6
  try simp (disch := first | assumption | omega | (simp only [Int.ofNat_eq_natCast, neg_one]; done) | (simp only [Int.ofNat_eq_natCast, neg_one]; omega)) only [tysW, w_bindJ, w_logJ, w_ct, w_cf, w_gtt, w_gft, w_gtf, w_gff, w_pt, w_pf, w_lret, w_e0, w_e1, w_e2, w_nil, w_fun, w_nt, w_nf, w_add, w_sub, w_eqt, w_eqf, w_net, w_nef, w_ltt, w_ltf, w_let, w_lef, w_gtt', w_gtf', w_get, w_gef, toNat_of, of_add, cast_add, nth_0, nth_s, Nat.zero_add, Nat.reduceAdd, Nat.reduceMul, Nat.add_zero, List.length_cons, List.length_nil, List.drop_zero, List.drop_succ_cons, List.take_succ_cons, List.take_zero, List.take_nil, true_and, and_true, Int.toNat_natCast, List.append_nil, List.nil_append, List.cons_append]
  refine wp_putF g6 hp b6 (by omega) (by simp) rfl fun h7 g7 b7 e7 => ?_
  simp only [overL] at b7
  replace b1 := (e7 s (by omega)).trans b1
  have R7 := R6.but (by omega) e7
  refine PureS.goL g7 hp (s87 (d := d + 10) g7.fresh) fun v h8 s8 ts8 ws8 g8 c8 hv hw8 ht8 => ?_
  obtain ⟨m, rfl, hm, bm⟩ := hv
  have l8 := c8.le
  replace b1 := c8.box b1 (by omega)
  replace b7 := c8.box b7 (by omega)
  have R8 := R7.from g7.fresh c8
  try simp (disch := first | assumption | omega | (simp only [Int.ofNat_eq_natCast, neg_one]; done) | (simp only [Int.ofNat_eq_natCast, neg_one]; omega)) only [tysW, w_bindJ, w_logJ, w_ct, w_cf, w_gtt, w_gft, w_gtf, w_gff, w_pt, w_pf, w_lret, w_e0, w_e1, w_e2, w_nil, w_fun, w_nt, w_nf, w_add, w_sub, w_eqt, w_eqf, w_net, w_nef, w_ltt, w_ltf, w_let, w_lef, w_gtt', w_gtf', w_get, w_gef, toNat_of, of_add, cast_add, nth_0, nth_s, Nat.zero_add, Nat.reduceAdd, Nat.reduceMul, Nat.add_zero, List.length_cons, List.length_nil, List.drop_zero, List.drop_succ_cons, List.take_succ_cons, List.take_zero, List.take_nil, true_and, and_true, Int.toNat_natCast, List.append_nil, List.nil_append, List.cons_append, ldB b7, clB b7, ldBL b7, clBL b7]
  unfold X37_3
  refine log_wp (W := fun _ => False) (Q := fun v h' s' => v = txt (sayT (kindD b)) ∧ h' = h8 ∧ s' = s8) ?_ (fun n hn => hn.elim) ?_
  · rw [show (oneR 1 (b, false)).1 = kindD b from rfl, wp_say bm]
    exact ⟨_, _, rfl, rfl, rfl, rfl⟩
  rintro v h9 s9 ts9 ws9 ⟨rfl, rfl, rfl⟩ hw9 ht9
  replace hw9 : ∀ n ∈ ws9, s9 ≤ n ∧ n < s9 := fun n hn => (hw9 n hn).1.elim
  replace ht9 : ∀ n ∈ ts9, n < s9 := fun n hn => lt_of_some g8.fresh (ht9 n hn)
  try simp (disch := first | assumption | omega | (simp only [Int.ofNat_eq_natCast, neg_one]; done) | (simp only [Int.ofNat_eq_natCast, neg_one]; omega)) only [tysW, w_bindJ, w_logJ, w_ct, w_cf, w_gtt, w_gft, w_gtf, w_gff, w_pt, w_pf, w_lret, w_e0, w_e1, w_e2, w_nil, w_fun, w_nt, w_nf, w_add, w_sub, w_eqt, w_eqf, w_net, w_nef, w_ltt, w_ltf, w_let, w_lef, w_gtt', w_gtf', w_get, w_gef, toNat_of, of_add, cast_add, nth_0, nth_s, Nat.zero_add, Nat.reduceAdd, Nat.reduceMul, Nat.add_zero, List.length_cons, List.length_nil, List.drop_zero, List.drop_succ_cons, List.take_succ_cons, List.take_zero, List.take_nil, true_and, and_true, Int.toNat_natCast, List.append_nil, List.nil_append, List.cons_append, rng9]
  refine wp_newL (q := fun b => ptr b) g8 hp fun h10 g10 c10 b10 => ?_
  replace b1 := c10.box b1 (by omega)
  replace b7 := c10.box b7 (by omega)
  have R10 := R8.from g8.fresh c10
  rw [wp_guard, if_pos (by repeat' (first | exact dynOk_nil _ _ | refine dyn_skip' ?_ | refine dyn_cons ?_ ?_ | exact allF_nil _ _ | refine allF_cons ?_ ?_ | exact disj_below hw8 (by omega) | exact disjA hw8 (by omega) | exact disjB hw8 (by omega) | exact disjC hw8 (by assumption) | exact disjD (fun m hm => by have := hw8 m hm; omega) | exact disj_below ht8 (by omega) | exact disjA ht8 (by omega) | exact disjB ht8 (by omega) | exact disjC ht8 (by assumption) | exact disjD (fun m hm => by have := ht8 m hm; omega) | exact disj_below hw9 (by omega) | exact disjA hw9 (by omega) | exact disjB hw9 (by omega) | exact disjC hw9 (by assumption) | exact disjD (fun m hm => by have := hw9 m hm; omega) | exact disj_below ht9 (by omega) | exact disjA ht9 (by omega) | exact disjB ht9 (by omega) | exact disjC ht9 (by assumption) | exact disjD (fun m hm => by have := ht9 m hm; omega) | exact disjN _ | exact disj1 (by omega) | exact disj2 (by omega) | exact disj3 (by assumption) | exact disjC hw8 (fun m hm => by have := ht8 m hm; omega) | exact disjC hw8 (fun m hm => by have := hw9 m hm; omega) | exact disjC hw8 (fun m hm => by have := ht9 m hm; omega) | exact disjC ht8 (fun m hm => by have := hw8 m hm; omega) | exact disjC ht8 (fun m hm => by have := hw9 m hm; omega) | exact disjC ht8 (fun m hm => by have := ht9 m hm; omega) | exact disjC hw9 (fun m hm => by have := hw8 m hm; omega) | exact disjC hw9 (fun m hm => by have := ht8 m hm; omega) | exact disjC hw9 (fun m hm => by have := ht9 m hm; omega) | exact disjC ht9 (fun m hm => by have := hw8 m hm; omega) | exact disjC ht9 (fun m hm => by have := ht8 m hm; omega) | exact disjC ht9 (fun m hm => by have := hw9 m hm; omega)))]
  have hk0 : kindD b = (oneR 1 (b, false)).1 := rfl
  rw [← hk0] at b7
  have R10 : RdAt h10 s2 135 (startD b).st s5 := R10
  have loop : ∀ (J : Nat → AM) (hJ : ∀ p1 h1 s1, From s h h1 s1 → s9 + 1 ≤ s1 → h1.get s = some (.cells ⟨[i64 0, i64 0, i64 0, i64 0, .slice none 0 0]⟩ 33 (0, 0)) → h1.get s5 = some (.cells ⟨[vi (kindD b), vi (decS b).sen, vi (decS b).seq, vi (decS b).time, .slice p1 (decS b).dat.length (decS b).dat.length]⟩ 33 (0, 0)) → OwnG EI 3 h1 (s5 + 1) p1 (decS b).dat.length (decS b).dat → RdAt h1 s2 135 (decS b).st s5 → (J s1).wp pw Z h1) (B : (Nat → AM) → Nat → AM) (hB : ∀ H s', B H s' = X37_2 N (D N (d + 11)) K (ptr s9) (ptr s2) (ptr s5) J H s') (n i : Nat) (p1 : Option Addr) (h1 : T) (s1 : Nat) (y : DS), y = ((sayT (kindD b)).take i).foldl stepD (startD b) → (sayT (kindD b)).length - i < n → i ≤ (sayT (kindD b)).length → From s h h1 s1 → s9 + 1 ≤ s1 → h1.get s = some (.cells ⟨[i64 0, i64 0, i64 0, i64 0, .slice none 0 0]⟩ 33 (0, 0)) → h1.get s5 = some (.cells ⟨[vi (kindD b), vi y.sen, vi y.seq, vi y.time, .slice p1 y.dat.length y.dat.length]⟩ 33 (0, 0)) → OwnG EI 3 h1 (s5 + 1) p1 y.dat.length y.dat → RdAt h1 s2 135 y.st s5 → h1.get s9 = some (.stringIter ⟨⟨sayT (kindD b)⟩⟩ i) →
      (loopJ n 0 (fun _ => AM.fail) B s1).wp pw Z h1 := by
    intro J hJ B hB n
    induction n with
    | zero => intro i p1 h1 s1 y hy hn; omega
    | succ n ih =>
      intro i p1 h1 s1 y hy hn hi g1 hs1 b1 bx o1 R1 bi
      have hle := say_le (kindD b)
      have hby := fold_bytes ((sayT (kindD b)).take i) (y := startD b) hb5.1
      rw [← hy] at hby
      have hyl : y.st.1.length ≤ 50000 := by
        have h1 := hby.2
        have h2 : (startD b).st.1.length ≤ b.length := hb5.2
        omega
      rw [loopJ_succ, hB]
      unfold X37_2
      by_cases hlt : i < (sayT (kindD b)).length
      · obtain ⟨c, hc⟩ := get_some (l := sayT (kindD b)) (i := i) hlt
        have hcm := say_mem (List.mem_of_getElem? hc)
        refine wp_next g1 hp bi (by omega) hc (by rcases hcm with rfl | rfl | rfl | rfl <;> decide) fun h2 g2 bi2 e2 => ?_
        replace b1 := (e2 s (by omega)).trans b1
        replace bx := (e2 s5 (by omega)).trans bx
        replace o1 := o1.but fun hp => e2 _ (o1.ne bi hp)
        replace R1 := R1.iter bi e2
        have hnext : stepD y c = ((sayT (kindD b)).take (i + 1)).foldl stepD (startD b) := by rw [fold_next hc, ← hy]
        have ol := o1.lt g2.fresh
        rcases hcm with rfl | rfl | rfl | rfl
        · try simp (disch := first | assumption | omega | (simp only [Int.ofNat_eq_natCast, neg_one]; done) | (simp only [Int.ofNat_eq_natCast, neg_one]; omega)) only [tysW, w_bindJ, w_logJ, w_ct, w_cf, w_gtt, w_gft, w_gtf, w_gff, w_pt, w_pf, w_lret, w_e0, w_e1, w_e2, w_nil, w_fun, w_nt, w_nf, w_add, w_sub, w_eqt, w_eqf, w_net, w_nef, w_ltt, w_ltf, w_let, w_lef, w_gtt', w_gtf', w_get, w_gef, toNat_of, of_add, cast_add, nth_0, nth_s, Nat.zero_add, Nat.reduceAdd, Nat.reduceMul, Nat.add_zero, List.length_cons, List.length_nil, List.drop_zero, List.drop_succ_cons, List.take_succ_cons, List.take_zero, List.take_nil, true_and, and_true, Int.toNat_natCast, List.append_nil, List.nil_append, List.cons_append, eqc32, UInt8.reduceToNat, Nat.reduceBEq]
          refine s113 (d := d + 7) (w := 1) hN g2 hp (by omega) hby.1 hyl (.inl rfl) (by omega) R1 fun h3 s3 g3 l3 R3 e3 => ?_
          replace b1 := (e3 s (by omega) (by omega)).trans b1
          replace bx := (e3 s5 (by omega) (by omega)).trans bx
          replace bi2 := (e3 s9 (by omega) (by omega)).trans bi2
          try simp (disch := first | assumption | omega | (simp only [Int.ofNat_eq_natCast, neg_one]; done) | (simp only [Int.ofNat_eq_natCast, neg_one]; omega)) only [tysW, w_bindJ, w_logJ, w_ct, w_cf, w_gtt, w_gft, w_gtf, w_gff, w_pt, w_pf, w_lret, w_e0, w_e1, w_e2, w_nil, w_fun, w_nt, w_nf, w_add, w_sub, w_eqt, w_eqf, w_net, w_nef, w_ltt, w_ltf, w_let, w_lef, w_gtt', w_gtf', w_get, w_gef, toNat_of, of_add, cast_add, nth_0, nth_s, Nat.zero_add, Nat.reduceAdd, Nat.reduceMul, Nat.add_zero, List.length_cons, List.length_nil, List.drop_zero, List.drop_succ_cons, List.take_succ_cons, List.take_zero, List.take_nil, true_and, and_true, Int.toNat_natCast, List.append_nil, List.nil_append, List.cons_append]
          refine wp_putF g3 hp bx (by omega) (by simp) rfl fun h4 g4 b4 e4 => ?_
          simp only [overL] at b4
          exact ih (i + 1) p1 h4 s3 (stepD y 115) hnext (by omega) (by omega) g4 (by omega) ((e4 s (by omega)).trans b1) b4 (o1.but fun hp => by have := ol hp; rw [e4 _ (by omega), e3 _ (by omega) (by omega)]) (R3.but (by omega) e4) ((e4 s9 (by omega)).trans bi2)
        · try simp (disch := first | assumption | omega | (simp only [Int.ofNat_eq_natCast, neg_one]; done) | (simp only [Int.ofNat_eq_natCast, neg_one]; omega)) only [tysW, w_bindJ, w_logJ, w_ct, w_cf, w_gtt, w_gft, w_gtf, w_gff, w_pt, w_pf, w_lret, w_e0, w_e1, w_e2, w_nil, w_fun, w_nt, w_nf, w_add, w_sub, w_eqt, w_eqf, w_net, w_nef, w_ltt, w_ltf, w_let, w_lef, w_gtt', w_gtf', w_get, w_gef, toNat_of, of_add, cast_add, nth_0, nth_s, Nat.zero_add, Nat.reduceAdd, Nat.reduceMul, Nat.add_zero, List.length_cons, List.length_nil, List.drop_zero, List.drop_succ_cons, List.take_succ_cons, List.take_zero, List.take_nil, true_and, and_true, Int.toNat_natCast, List.append_nil, List.nil_append, List.cons_append, eqc32, UInt8.reduceToNat, Nat.reduceBEq]
          refine s113 (d := d + 7) (w := 4) hN g2 hp (by omega) hby.1 hyl (.inr (.inr (.inl rfl))) (by omega) R1 fun h3 s3 g3 l3 R3 e3 => ?_
          replace b1 := (e3 s (by omega) (by omega)).trans b1
          replace bx := (e3 s5 (by omega) (by omega)).trans bx
          replace bi2 := (e3 s9 (by omega) (by omega)).trans bi2
          try simp (disch := first | assumption | omega | (simp only [Int.ofNat_eq_natCast, neg_one]; done) | (simp only [Int.ofNat_eq_natCast, neg_one]; omega)) only [tysW, w_bindJ, w_logJ, w_ct, w_cf, w_gtt, w_gft, w_gtf, w_gff, w_pt, w_pf, w_lret, w_e0, w_e1, w_e2, w_nil, w_fun, w_nt, w_nf, w_add, w_sub, w_eqt, w_eqf, w_net, w_nef, w_ltt, w_ltf, w_let, w_lef, w_gtt', w_gtf', w_get, w_gef, toNat_of, of_add, cast_add, nth_0, nth_s, Nat.zero_add, Nat.reduceAdd, Nat.reduceMul, Nat.add_zero, List.length_cons, List.length_nil, List.drop_zero, List.drop_succ_cons, List.take_succ_cons, List.take_zero, List.take_nil, true_and, and_true, Int.toNat_natCast, List.append_nil, List.nil_append, List.cons_append]
          refine wp_putF g3 hp bx (by omega) (by simp) rfl fun h4 g4 b4 e4 => ?_
          simp only [overL] at b4
          exact ih (i + 1) p1 h4 s3 (stepD y 113) hnext (by omega) (by omega) g4 (by omega) ((e4 s (by omega)).trans b1) b4 (o1.but fun hp => by have := ol hp; rw [e4 _ (by omega), e3 _ (by omega) (by omega)]) (R3.but (by omega) e4) ((e4 s9 (by omega)).trans bi2)
        · try simp (disch := first | assumption | omega | (simp only [Int.ofNat_eq_natCast, neg_one]; done) | (simp only [Int.ofNat_eq_natCast, neg_one]; omega)) only [tysW, w_bindJ, w_logJ, w_ct, w_cf, w_gtt, w_gft, w_gtf, w_gff, w_pt, w_pf, w_lret, w_e0, w_e1, w_e2, w_nil, w_fun, w_nt, w_nf, w_add, w_sub, w_eqt, w_eqf, w_net, w_nef, w_ltt, w_ltf, w_let, w_lef, w_gtt', w_gtf', w_get, w_gef, toNat_of, of_add, cast_add, nth_0, nth_s, Nat.zero_add, Nat.reduceAdd, Nat.reduceMul, Nat.add_zero, List.length_cons, List.length_nil, List.drop_zero, List.drop_succ_cons, List.take_succ_cons, List.take_zero, List.take_nil, true_and, and_true, Int.toNat_natCast, List.append_nil, List.nil_append, List.cons_append, eqc32, UInt8.reduceToNat, Nat.reduceBEq]
          refine s113 (d := d + 7) (w := 8) hN g2 hp (by omega) hby.1 hyl (.inr (.inr (.inr rfl))) (by omega) R1 fun h3 s3 g3 l3 R3 e3 => ?_
          replace b1 := (e3 s (by omega) (by omega)).trans b1
          replace bx := (e3 s5 (by omega) (by omega)).trans bx
          replace bi2 := (e3 s9 (by omega) (by omega)).trans bi2
          try simp (disch := first | assumption | omega | (simp only [Int.ofNat_eq_natCast, neg_one]; done) | (simp only [Int.ofNat_eq_natCast, neg_one]; omega)) only [tysW, w_bindJ, w_logJ, w_ct, w_cf, w_gtt, w_gft, w_gtf, w_gff, w_pt, w_pf, w_lret, w_e0, w_e1, w_e2, w_nil, w_fun, w_nt, w_nf, w_add, w_sub, w_eqt, w_eqf, w_net, w_nef, w_ltt, w_ltf, w_let, w_lef, w_gtt', w_gtf', w_get, w_gef, toNat_of, of_add, cast_add, nth_0, nth_s, Nat.zero_add, Nat.reduceAdd, Nat.reduceMul, Nat.add_zero, List.length_cons, List.length_nil, List.drop_zero, List.drop_succ_cons, List.take_succ_cons, List.take_zero, List.take_nil, true_and, and_true, Int.toNat_natCast, List.append_nil, List.nil_append, List.cons_append]
          refine wp_putF g3 hp bx (by omega) (by simp) rfl fun h4 g4 b4 e4 => ?_
          simp only [overL] at b4
          exact ih (i + 1) p1 h4 s3 (stepD y 116) hnext (by omega) (by omega) g4 (by omega) ((e4 s (by omega)).trans b1) b4 (o1.but fun hp => by have := ol hp; rw [e4 _ (by omega), e3 _ (by omega) (by omega)]) (R3.but (by omega) e4) ((e4 s9 (by omega)).trans bi2)
        · try simp (disch := first | assumption | omega | (simp only [Int.ofNat_eq_natCast, neg_one]; done) | (simp only [Int.ofNat_eq_natCast, neg_one]; omega)) only [tysW, w_bindJ, w_logJ, w_ct, w_cf, w_gtt, w_gft, w_gtf, w_gff, w_pt, w_pf, w_lret, w_e0, w_e1, w_e2, w_nil, w_fun, w_nt, w_nf, w_add, w_sub, w_eqt, w_eqf, w_net, w_nef, w_ltt, w_ltf, w_let, w_lef, w_gtt', w_gtf', w_get, w_gef, toNat_of, of_add, cast_add, nth_0, nth_s, Nat.zero_add, Nat.reduceAdd, Nat.reduceMul, Nat.add_zero, List.length_cons, List.length_nil, List.drop_zero, List.drop_succ_cons, List.take_succ_cons, List.take_zero, List.take_nil, true_and, and_true, Int.toNat_natCast, List.append_nil, List.nil_append, List.cons_append, eqc32, UInt8.reduceToNat, Nat.reduceBEq]
          refine s114 (d := d + 6) hN g2 hp (by omega) hby.1 hyl (by omega) R1 fun p3 h3 s3 g3 l3 R3 o3 e3 => ?_
          replace b1 := (e3 s (by omega) (by omega)).trans b1
          replace bx := (e3 s5 (by omega) (by omega)).trans bx
          replace bi2 := (e3 s9 (by omega) (by omega)).trans bi2
          have ol3 := o3.lt g3.fresh
          try simp (disch := first | assumption | omega | (simp only [Int.ofNat_eq_natCast, neg_one]; done) | (simp only [Int.ofNat_eq_natCast, neg_one]; omega)) only [tysW, w_bindJ, w_logJ, w_ct, w_cf, w_gtt, w_gft, w_gtf, w_gff, w_pt, w_pf, w_lret, w_e0, w_e1, w_e2, w_nil, w_fun, w_nt, w_nf, w_add, w_sub, w_eqt, w_eqf, w_net, w_nef, w_ltt, w_ltf, w_let, w_lef, w_gtt', w_gtf', w_get, w_gef, toNat_of, of_add, cast_add, nth_0, nth_s, Nat.zero_add, Nat.reduceAdd, Nat.reduceMul, Nat.add_zero, List.length_cons, List.length_nil, List.drop_zero, List.drop_succ_cons, List.take_succ_cons, List.take_zero, List.take_nil, true_and, and_true, Int.toNat_natCast, List.append_nil, List.nil_append, List.cons_append]
          refine wp_putF g3 hp bx (by omega) (by simp) rfl fun h4 g4 b4 e4 => ?_
          simp only [overL] at b4
          exact ih (i + 1) p3 h4 s3 (stepD y 100) hnext (by omega) (by omega) g4 (by omega) ((e4 s (by omega)).trans b1) b4 ((o3.but fun hp => by have := ol3 hp; rw [e4 _ (by omega)]).less (by omega)) (R3.but (by omega) e4) ((e4 s9 (by omega)).trans bi2)
      · obtain rfl : i = (sayT (kindD b)).length := by omega
        rw [wp_last bi]
        try simp (disch := first | assumption | omega | (simp only [Int.ofNat_eq_natCast, neg_one]; done) | (simp only [Int.ofNat_eq_natCast, neg_one]; omega)) only [tysW, w_bindJ, w_logJ, w_ct, w_cf, w_gtt, w_gft, w_gtf, w_gff, w_pt, w_pf, w_lret, w_e0, w_e1, w_e2, w_nil, w_fun, w_nt, w_nf, w_add, w_sub, w_eqt, w_eqf, w_net, w_nef, w_ltt, w_ltf, w_let, w_lef, w_gtt', w_gtf', w_get, w_gef, toNat_of, of_add, cast_add, nth_0, nth_s, Nat.zero_add, Nat.reduceAdd, Nat.reduceMul, Nat.add_zero, List.length_cons, List.length_nil, List.drop_zero, List.drop_succ_cons, List.take_succ_cons, List.take_zero, List.take_nil, true_and, and_true, Int.toNat_natCast, List.append_nil, List.nil_append, List.cons_append]
        rw [List.take_of_length_le (Nat.le_refl _)] at hy
        have hy : y = decS b := hy
        subst hy
        exact hJ p1 h1 s1 g1 hs1 b1 bx o1 R1
  have hle := say_le (kindD b)
  refine loop _ (fun p1 h1 s1 g1 hs1 b1 bx o1 R1 => ?_) _ (fun _ _ => rfl) N 0 none h10 (s9 + 1) (startD b) rfl (by omega) (by omega) g10 (Nat.le_refl _) b1 b7 .nil R10 b10
  obtain ⟨pr, lr, cr, br, slr, -⟩ := R1
  have hlr := slr.row.1
  have bad : badD b = true → ∀ {h2 : T} {s2' : Nat}, From s h h2 s2' → (K (.tuple ⟨[.agg ⟨[i64 0, i64 0, i64 0, i64 0, .slice none 0 0]⟩, i64 5]⟩) s2').wp pw Z h2 := fun hb h2 s2' g2 => hk _ _ _ g2 (by unfold Got; rw [if_pos hb]; rfl)
  cases hst : (decS b).st.2 with
  | true =>
    rw [hst] at br
    try simp (disch := first | assumption | omega | (simp only [Int.ofNat_eq_natCast, neg_one]; done) | (simp only [Int.ofNat_eq_natCast, neg_one]; omega)) only [tysW, w_bindJ, w_logJ, w_ct, w_cf, w_gtt, w_gft, w_gtf, w_gff, w_pt, w_pf, w_lret, w_e0, w_e1, w_e2, w_nil, w_fun, w_nt, w_nf, w_add, w_sub, w_eqt, w_eqf, w_net, w_nef, w_ltt, w_ltf, w_let, w_lef, w_gtt', w_gtf', w_get, w_gef, toNat_of, of_add, cast_add, nth_0, nth_s, Nat.zero_add, Nat.reduceAdd, Nat.reduceMul, Nat.add_zero, List.length_cons, List.length_nil, List.drop_zero, List.drop_succ_cons, List.take_succ_cons, List.take_zero, List.take_nil, true_and, and_true, Int.toNat_natCast, List.append_nil, List.nil_append, List.cons_append, ldB br, clB br, ldBL br, clBL br]
    unfold X37_1
    try simp (disch := first | assumption | omega | (simp only [Int.ofNat_eq_natCast, neg_one]; done) | (simp only [Int.ofNat_eq_natCast, neg_one]; omega)) only [tysW, w_bindJ, w_logJ, w_ct, w_cf, w_gtt, w_gft, w_gtf, w_gff, w_pt, w_pf, w_lret, w_e0, w_e1, w_e2, w_nil, w_fun, w_nt, w_nf, w_add, w_sub, w_eqt, w_eqf, w_net, w_nef, w_ltt, w_ltf, w_let, w_lef, w_gtt', w_gtf', w_get, w_gef, toNat_of, of_add, cast_add, nth_0, nth_s, Nat.zero_add, Nat.reduceAdd, Nat.reduceMul, Nat.add_zero, List.length_cons, List.length_nil, List.drop_zero, List.drop_succ_cons, List.take_succ_cons, List.take_zero, List.take_nil, true_and, and_true, Int.toNat_natCast, List.append_nil, List.nil_append, List.cons_append]
    refine wp_putF g1 hp b1 (by omega) (by simp) rfl fun h2 g2 b2 e2 => ?_
    simp only [overL] at b2
    try simp (disch := first | assumption | omega | (simp only [Int.ofNat_eq_natCast, neg_one]; done) | (simp only [Int.ofNat_eq_natCast, neg_one]; omega)) only [tysW, w_bindJ, w_logJ, w_ct, w_cf, w_gtt, w_gft, w_gtf, w_gff, w_pt, w_pf, w_lret, w_e0, w_e1, w_e2, w_nil, w_fun, w_nt, w_nf, w_add, w_sub, w_eqt, w_eqf, w_net, w_nef, w_ltt, w_ltf, w_let, w_lef, w_gtt', w_gtf', w_get, w_gef, toNat_of, of_add, cast_add, nth_0, nth_s, Nat.zero_add, Nat.reduceAdd, Nat.reduceMul, Nat.add_zero, List.length_cons, List.length_nil, List.drop_zero, List.drop_succ_cons, List.take_succ_cons, List.take_zero, List.take_nil, true_and, and_true, Int.toNat_natCast, List.append_nil, List.nil_append, List.cons_append, ldB b2, clB b2, ldBL b2, clBL b2]
    exact bad (by unfold badD; rw [hst]; rfl) g2
  | false =>
    rw [hst] at br
    by_cases h0 : (0 : Int) < (lr : Int)
    · try simp (disch := first | assumption | omega | (simp only [Int.ofNat_eq_natCast, neg_one]; done) | (simp only [Int.ofNat_eq_natCast, neg_one]; omega)) only [tysW, w_bindJ, w_logJ, w_ct, w_cf, w_gtt, w_gft, w_gtf, w_gff, w_pt, w_pf, w_lret, w_e0, w_e1, w_e2, w_nil, w_fun, w_nt, w_nf, w_add, w_sub, w_eqt, w_eqf, w_net, w_nef, w_ltt, w_ltf, w_let, w_lef, w_gtt', w_gtf', w_get, w_gef, toNat_of, of_add, cast_add, nth_0, nth_s, Nat.zero_add, Nat.reduceAdd, Nat.reduceMul, Nat.add_zero, List.length_cons, List.length_nil, List.drop_zero, List.drop_succ_cons, List.take_succ_cons, List.take_zero, List.take_nil, true_and, and_true, Int.toNat_natCast, List.append_nil, List.nil_append, List.cons_append, ldB br, clB br, ldBL br, clBL br]
      unfold X37_1
      try simp (disch := first | assumption | omega | (simp only [Int.ofNat_eq_natCast, neg_one]; done) | (simp only [Int.ofNat_eq_natCast, neg_one]; omega)) only [tysW, w_bindJ, w_logJ, w_ct, w_cf, w_gtt, w_gft, w_gtf, w_gff, w_pt, w_pf, w_lret, w_e0, w_e1, w_e2, w_nil, w_fun, w_nt, w_nf, w_add, w_sub, w_eqt, w_eqf, w_net, w_nef, w_ltt, w_ltf, w_let, w_lef, w_gtt', w_gtf', w_get, w_gef, toNat_of, of_add, cast_add, nth_0, nth_s, Nat.zero_add, Nat.reduceAdd, Nat.reduceMul, Nat.add_zero, List.length_cons, List.length_nil, List.drop_zero, List.drop_succ_cons, List.take_succ_cons, List.take_zero, List.take_nil, true_and, and_true, Int.toNat_natCast, List.append_nil, List.nil_append, List.cons_append]
      refine wp_putF g1 hp b1 (by omega) (by simp) rfl fun h2 g2 b2 e2 => ?_
      simp only [overL] at b2
      try simp (disch := first | assumption | omega | (simp only [Int.ofNat_eq_natCast, neg_one]; done) | (simp only [Int.ofNat_eq_natCast, neg_one]; omega)) only [tysW, w_bindJ, w_logJ, w_ct, w_cf, w_gtt, w_gft, w_gtf, w_gff, w_pt, w_pf, w_lret, w_e0, w_e1, w_e2, w_nil, w_fun, w_nt, w_nf, w_add, w_sub, w_eqt, w_eqf, w_net, w_nef, w_ltt, w_ltf, w_let, w_lef, w_gtt', w_gtf', w_get, w_gef, toNat_of, of_add, cast_add, nth_0, nth_s, Nat.zero_add, Nat.reduceAdd, Nat.reduceMul, Nat.add_zero, List.length_cons, List.length_nil, List.drop_zero, List.drop_succ_cons, List.take_succ_cons, List.take_zero, List.take_nil, true_and, and_true, Int.toNat_natCast, List.append_nil, List.nil_append, List.cons_append, ldB b2, clB b2, ldBL b2, clBL b2]
      refine bad ?_ g2
      unfold badD
      have : (decS b).st.1 ≠ [] := fun e => by rw [e] at hlr; simp at hlr; omega
      rw [show (decS b).st.1.isEmpty = false by simpa using this]; simp
    · try simp (disch := first | assumption | omega | (simp only [Int.ofNat_eq_natCast, neg_one]; done) | (simp only [Int.ofNat_eq_natCast, neg_one]; omega)) only [tysW, w_bindJ, w_logJ, w_ct, w_cf, w_gtt, w_gft, w_gtf, w_gff, w_pt, w_pf, w_lret, w_e0, w_e1, w_e2, w_nil, w_fun, w_nt, w_nf, w_add, w_sub, w_eqt, w_eqf, w_net, w_nef, w_ltt, w_ltf, w_let, w_lef, w_gtt', w_gtf', w_get, w_gef, toNat_of, of_add, cast_add, nth_0, nth_s, Nat.zero_add, Nat.reduceAdd, Nat.reduceMul, Nat.add_zero, List.length_cons, List.length_nil, List.drop_zero, List.drop_succ_cons, List.take_succ_cons, List.take_zero, List.take_nil, true_and, and_true, Int.toNat_natCast, List.append_nil, List.nil_append, List.cons_append, ldB br, clB br, ldBL br, clBL br]
      unfold X37_1
      try simp (disch := first | assumption | omega | (simp only [Int.ofNat_eq_natCast, neg_one]; done) | (simp only [Int.ofNat_eq_natCast, neg_one]; omega)) only [tysW, w_bindJ, w_logJ, w_ct, w_cf, w_gtt, w_gft, w_gtf, w_gff, w_pt, w_pf, w_lret, w_e0, w_e1, w_e2, w_nil, w_fun, w_nt, w_nf, w_add, w_sub, w_eqt, w_eqf, w_net, w_nef, w_ltt, w_ltf, w_let, w_lef, w_gtt', w_gtf', w_get, w_gef, toNat_of, of_add, cast_add, nth_0, nth_s, Nat.zero_add, Nat.reduceAdd, Nat.reduceMul, Nat.add_zero, List.length_cons, List.length_nil, List.drop_zero, List.drop_succ_cons, List.take_succ_cons, List.take_zero, List.take_nil, true_and, and_true, Int.toNat_natCast, List.append_nil, List.nil_append, List.cons_append, ldB bx, clB bx, ldBL bx, clBL bx]
      refine ValS.go g1 hp (s25 (d := d) hN g1.fresh (svD (kindD b) (decS b) p1)) fun h2 s2' g2 c2 => ?_
      have lt1 := c2.le
      replace b1 := c2.box b1 (by omega)
      replace bx := c2.box bx (by omega)
      have o2 := o1.from g1.fresh c2
      rw [badS_p _ _ p1 none]
      have he : (decS b).st.1 = [] := List.eq_nil_of_length_eq_zero (by omega)
      cases hbs : badS (svD (kindD b) (decS b) none) with
      | true =>
        try simp (disch := first | assumption | omega | (simp only [Int.ofNat_eq_natCast, neg_one]; done) | (simp only [Int.ofNat_eq_natCast, neg_one]; omega)) only [tysW, w_bindJ, w_logJ, w_ct, w_cf, w_gtt, w_gft, w_gtf, w_gff, w_pt, w_pf, w_lret, w_e0, w_e1, w_e2, w_nil, w_fun, w_nt, w_nf, w_add, w_sub, w_eqt, w_eqf, w_net, w_nef, w_ltt, w_ltf, w_let, w_lef, w_gtt', w_gtf', w_get, w_gef, toNat_of, of_add, cast_add, nth_0, nth_s, Nat.zero_add, Nat.reduceAdd, Nat.reduceMul, Nat.add_zero, List.length_cons, List.length_nil, List.drop_zero, List.drop_succ_cons, List.take_succ_cons, List.take_zero, List.take_nil, true_and, and_true, Int.toNat_natCast, List.append_nil, List.nil_append, List.cons_append, if_true]
        refine wp_putF g2 hp b1 (by omega) (by simp) rfl fun h3 g3 b3 e3 => ?_
        simp only [overL] at b3
        try simp (disch := first | assumption | omega | (simp only [Int.ofNat_eq_natCast, neg_one]; done) | (simp only [Int.ofNat_eq_natCast, neg_one]; omega)) only [tysW, w_bindJ, w_logJ, w_ct, w_cf, w_gtt, w_gft, w_gtf, w_gff, w_pt, w_pf, w_lret, w_e0, w_e1, w_e2, w_nil, w_fun, w_nt, w_nf, w_add, w_sub, w_eqt, w_eqf, w_net, w_nef, w_ltt, w_ltf, w_let, w_lef, w_gtt', w_gtf', w_get, w_gef, toNat_of, of_add, cast_add, nth_0, nth_s, Nat.zero_add, Nat.reduceAdd, Nat.reduceMul, Nat.add_zero, List.length_cons, List.length_nil, List.drop_zero, List.drop_succ_cons, List.take_succ_cons, List.take_zero, List.take_nil, true_and, and_true, Int.toNat_natCast, List.append_nil, List.nil_append, List.cons_append, ldB b3, clB b3, ldBL b3, clBL b3]
        exact bad (by unfold badD; rw [hbs]; simp) g3
      | false =>
        try simp (disch := first | assumption | omega | (simp only [Int.ofNat_eq_natCast, neg_one]; done) | (simp only [Int.ofNat_eq_natCast, neg_one]; omega)) only [tysW, w_bindJ, w_logJ, w_ct, w_cf, w_gtt, w_gft, w_gtf, w_gff, w_pt, w_pf, w_lret, w_e0, w_e1, w_e2, w_nil, w_fun, w_nt, w_nf, w_add, w_sub, w_eqt, w_eqf, w_net, w_nef, w_ltt, w_ltf, w_let, w_lef, w_gtt', w_gtf', w_get, w_gef, toNat_of, of_add, cast_add, nth_0, nth_s, Nat.zero_add, Nat.reduceAdd, Nat.reduceMul, Nat.add_zero, List.length_cons, List.length_nil, List.drop_zero, List.drop_succ_cons, List.take_succ_cons, List.take_zero, List.take_nil, true_and, and_true, Int.toNat_natCast, List.append_nil, List.nil_append, List.cons_append, ldB bx, clB bx, ldBL bx, clBL bx, Bool.false_eq_true, if_false]
        refine wp_putF g2 hp b1 (by omega) (by simp) rfl fun h3 g3 b3 e3 => ?_
        simp only [overL] at b3
        try simp (disch := first | assumption | omega | (simp only [Int.ofNat_eq_natCast, neg_one]; done) | (simp only [Int.ofNat_eq_natCast, neg_one]; omega)) only [tysW, w_bindJ, w_logJ, w_ct, w_cf, w_gtt, w_gft, w_gtf, w_gff, w_pt, w_pf, w_lret, w_e0, w_e1, w_e2, w_nil, w_fun, w_nt, w_nf, w_add, w_sub, w_eqt, w_eqf, w_net, w_nef, w_ltt, w_ltf, w_let, w_lef, w_gtt', w_gtf', w_get, w_gef, toNat_of, of_add, cast_add, nth_0, nth_s, Nat.zero_add, Nat.reduceAdd, Nat.reduceMul, Nat.add_zero, List.length_cons, List.length_nil, List.drop_zero, List.drop_succ_cons, List.take_succ_cons, List.take_zero, List.take_nil, true_and, and_true, Int.toNat_natCast, List.append_nil, List.nil_append, List.cons_append, ldB b3, clB b3, ldBL b3, clBL b3]
        refine hk _ _ _ g3 ?_
        unfold Got
        rw [if_neg (by unfold badD; rw [hst, he, hbs]; simp)]
        exact ⟨p1, rfl, (o2.but fun hp => e3 _ (by have := (o2.lt g2.fresh hp).1; omega)).less (by omega)⟩
end
end Go.Ev.R
namespace Go.Ev.R
open Go Go.RowKit
def In64 (n : Int) : Prop := -9223372036854775808 ≤ n ∧ n ≤ 9223372036854775807
theorem valL_be (n : Int) (w : Nat) : valL (be w n) = n % 256 ^ w := by
  rw [be_bts, valL_bts, Int.pow_mul]; rfl
theorem numI_be {w : Nat} (hw : isW w) {n : Int} (hn : fitsW w n = true) (h : In64 n) : numI (be w n) = n := by
  unfold numI
  rw [valL_be]
  have h1 := h.1
  have h2 := h.2
  have hf := (fits_t hw).1 hn
  rcases hw with rfl | rfl | rfl | rfl
  · simp only [Int.reducePow] at hf ⊢; unfold wrap64; omega
  · simp only [Int.reducePow] at hf ⊢; unfold wrap64; omega
  · simp only [Int.reducePow] at hf ⊢; unfold wrap64; omega
  · simp only [Int.reducePow]; unfold wrap64; omega
theorem nums_cons (w m : Nat) (b : List Int) : nums w (m + 1) b = numI (b.take w) :: nums w m (b.drop w) := by
  unfold nums
  rw [List.range_succ_eq_map, List.map_cons, List.map_map, Nat.zero_mul, List.drop_zero]
  congr 1
  refine List.map_congr_left fun i _ => ?_
  simp only [Function.comp, List.drop_drop]
  rw [Nat.succ_mul, Nat.add_comm]
theorem take_app (a r : List Int) {w : Nat} (h : a.length = w) : (a ++ r).take w = a := by rw [← h]; simp
theorem drop_app (a r : List Int) {w : Nat} (h : a.length = w) : (a ++ r).drop w = r := by rw [← h]; simp
theorem oneR_be {w : Nat} (hw : isW w) {n : Int} (hn : fitsW w n = true) (h : In64 n) (r : List Int) : oneR w (be w n ++ r, false) = (n, (r, false)) := by
  have ht : takeT w 1 (be w n ++ r) = some ([n], r) := by
    unfold takeT
    rw [if_pos (by simp [be_len]), nums_cons, take_app _ _ (be_len n w), Nat.mul_one, drop_app _ _ (be_len n w), numI_be hw hn h]
    rfl
  unfold oneR
  rw [ht]
  rfl
theorem takeT_bys : ∀ (l : List Int) (r : List Int), (∀ y ∈ l, In64 y) → takeT 8 l.length (bys 8 l ++ r) = some (l, r) := by
  intro l r hl
  have hn : ∀ (l : List Int), (∀ y ∈ l, In64 y) → nums 8 l.length (bys 8 l ++ r) = l := by
    intro l
    induction l with
    | nil => intro _; rfl
    | cons y l ih =>
      intro hl
      rw [List.length_cons, nums_cons]
      have e : bys 8 (y :: l) ++ r = be 8 y ++ (bys 8 l ++ r) := by unfold bys; rw [List.flatMap_cons, List.append_assoc]
      rw [e, take_app _ _ (be_len y 8), drop_app _ _ (be_len y 8), numI_be (.inr (.inr (.inr rfl))) (by simp [fitsW]) (hl y (by simp)), ih fun z hz => hl z (by simp [hz])]
  unfold takeT
  have hb : (bys 8 l).length = 8 * l.length := by rw [bys_len, Nat.mul_comm]
  rw [if_pos (by rw [List.length_append, hb]; omega), hn l hl, drop_app _ _ hb]
theorem listR_lis {l : List Int} (h24 : l.length ≤ 24) (hl : ∀ y ∈ l, In64 y) (r : List Int) : listR (lis l ++ r, false) = (l, (r, false)) := by
  have e : lis l ++ r = ((l.length : Nat) : Int) :: (bys 8 l ++ r) := by
    unfold lis
    rw [List.append_assoc]
    have : bys 1 [(l.length : Int)] = [(l.length : Int)] := by simp [bys, be, byteN]; omega
    rw [this]; rfl
  have ht : listT (lis l ++ r) = some (l, r) := by
    rw [e, listT_ok (by omega), takeT_bys l r hl]
  unfold listR
  rw [ht]
  rfl
section
variable {x : SV} {dt : List Int} (hb : badS x = false) (hn : dt.length = x.n) (ht : In64 x.time) (hd : ∀ y ∈ dt, In64 y) (r : List Int)
include hb hn ht hd
theorem step_enc {y : DS} {c : UInt8} (hc : c = 115 ∨ c = 113 ∨ c = 116 ∨ c = 100) (hy : y.st = (letB x dt c ++ r, false)) : stepD y c = ⟨if c = 115 then x.sen else y.sen, if c = 113 then x.seq else y.seq, if c = 116 then x.time else y.time, if c = 100 then dt else y.dat, (r, false)⟩ := by
  obtain ⟨q1, q2, q3, q4, -⟩ := good hb
  rcases hc with rfl | rfl | rfl | rfl
  · have e : oneR 1 y.st = (x.sen, (r, false)) := by
      rw [hy]
      exact oneR_be (.inl rfl) (by simp [fitsW]; omega) ⟨by omega, by omega⟩ r
    unfold stepD
    rw [if_pos rfl, e]
    simp
  · have e : oneR 4 y.st = (x.seq, (r, false)) := by
      rw [hy]
      exact oneR_be (.inr (.inr (.inl rfl))) (by simp [fitsW]; omega) ⟨by omega, by omega⟩ r
    unfold stepD
    rw [if_neg (by decide), if_pos rfl, e]
    simp
  · have e : oneR 8 y.st = (x.time, (r, false)) := by
      rw [hy]
      exact oneR_be (.inr (.inr (.inr rfl))) (by simp [fitsW]) ht r
    unfold stepD
    rw [if_neg (by decide), if_neg (by decide), if_pos rfl, e]
    simp
  · have e : listR y.st = (dt, (r, false)) := by
      rw [hy]
      exact listR_lis (by omega) hd r
    unfold stepD
    rw [if_neg (by decide), if_neg (by decide), if_neg (by decide), e]
    simp
end
theorem fold_enc {x : SV} {dt : List Int} (hb : badS x = false) (hn : dt.length = x.n) (ht : In64 x.time) (hd : ∀ y ∈ dt, In64 y) (r : List Int) : ∀ (L : List UInt8) (y : DS), (∀ c ∈ L, c = 115 ∨ c = 113 ∨ c = 116 ∨ c = 100) → y.st = (L.flatMap (letB x dt) ++ r, false) →
    L.foldl stepD y = ⟨if 115 ∈ L then x.sen else y.sen, if 113 ∈ L then x.seq else y.seq, if 116 ∈ L then x.time else y.time, if 100 ∈ L then dt else y.dat, (r, false)⟩
  | [], y, _, hy => by
    obtain ⟨a, b, c, d, e⟩ := y
    simp at hy
    simp [hy]
  | c :: L, y, hc, hy => by
    rw [List.flatMap_cons, List.append_assoc] at hy
    have h1 := step_enc hb hn ht hd _ (hc c (by simp)) hy
    rw [List.foldl_cons, fold_enc hb hn ht hd r L (stepD y c) (fun z hz => hc z (by simp [hz])) (by rw [h1]), h1]
    simp only [List.mem_cons]
    congr 1
    · by_cases h : 115 ∈ L <;> by_cases h2 : c = 115 <;> simp [h, h2, eq_comm]
    · by_cases h : 113 ∈ L <;> by_cases h2 : c = 113 <;> simp [h, h2, eq_comm]
    · by_cases h : 116 ∈ L <;> by_cases h2 : c = 116 <;> simp [h, h2, eq_comm]
    · by_cases h : 100 ∈ L <;> by_cases h2 : c = 100 <;> simp [h, h2, eq_comm]
theorem say_not {k : Int} (hk : 1 ≤ k ∧ k ≤ 7) : (115 ∉ sayT k → k = 6 ∨ k = 7) ∧ (113 ∉ sayT k → k = 1) ∧ (116 ∉ sayT k → k = 1 ∨ k = 7) ∧ (100 ∉ sayT k → ¬ (k = 4 ∨ k = 5)) := by
  rcases kinds hk with rfl | rfl | rfl | rfl | rfl | rfl | rfl <;> simp [sayT]
/-- What is said is got as it was. -/
theorem dec_enc {x : SV} {dt : List Int} (hb : badS x = false) (hn : dt.length = x.n) (ht : In64 x.time) (hd : ∀ y ∈ dt, In64 y) (r : List Int) : kindD (encS x dt ++ r) = x.kind ∧ decS (encS x dt ++ r) = ⟨x.sen, x.seq, x.time, dt, (r, false)⟩ := by
  obtain ⟨q1, q2, q3, q4, q5, q6, q7, q8⟩ := good hb
  have e : encS x dt ++ r = be 1 x.kind ++ ((sayT x.kind).flatMap (letB x dt) ++ r) := by unfold encS; rw [List.append_assoc]
  have h1 := oneR_be (w := 1) (.inl rfl) (n := x.kind) (by simp [fitsW]; omega) ⟨by omega, by omega⟩ ((sayT x.kind).flatMap (letB x dt) ++ r)
  rw [← e] at h1
  have hk : kindD (encS x dt ++ r) = x.kind := by unfold kindD; rw [h1]
  have hs : startD (encS x dt ++ r) = ⟨0, 0, 0, [], ((sayT x.kind).flatMap (letB x dt) ++ r, false)⟩ := by unfold startD; rw [h1]
  refine ⟨hk, ?_⟩
  unfold decS
  rw [hk, hs, fold_enc hb hn ht hd r _ _ (fun c hc => say_mem hc) rfl]
  obtain ⟨n1, n2, n3, n4⟩ := say_not q1
  have m1 : (if 115 ∈ sayT x.kind then x.sen else 0) = x.sen := by
    split
    · rfl
    · rename_i h; rw [q5 (n1 h)]
  have m2 : (if 113 ∈ sayT x.kind then x.seq else 0) = x.seq := by
    split
    · rfl
    · rename_i h; rw [q6 (n2 h)]
  have m3 : (if 116 ∈ sayT x.kind then x.time else 0) = x.time := by
    split
    · rfl
    · rename_i h; rw [q7 (n3 h)]
  have m4 : (if 100 ∈ sayT x.kind then dt else []) = dt := by
    split
    · rfl
    · rename_i h
      have h0 : x.n = 0 := q8.resolve_right (n4 h)
      exact (List.eq_nil_of_length_eq_zero (by omega)).symm
  rw [m1, m2, m3, m4]
theorem bad_enc {x : SV} {dt : List Int} (hb : badS x = false) (hn : dt.length = x.n) (ht : In64 x.time) (hd : ∀ y ∈ dt, In64 y) : badD (encS x dt) = false := by
  obtain ⟨h1, h2⟩ := dec_enc hb hn ht hd []
  rw [List.append_nil] at h1 h2
  unfold badD
  rw [h1, h2]
  have : badS (svD x.kind ⟨x.sen, x.seq, x.time, dt, ([], false)⟩ none) = badS x := by unfold badS svD; rw [hn]
  rw [this, hb]; rfl
/-- The bytes tell the saying. -/
theorem enc_inj {x y : SV} {dt dt' : List Int} (hb : badS x = false) (hn : dt.length = x.n) (ht : In64 x.time) (hd : ∀ z ∈ dt, In64 z) (hb' : badS y = false) (hn' : dt'.length = y.n) (ht' : In64 y.time) (hd' : ∀ z ∈ dt', In64 z) {r : List Int} (h : encS x dt = encS y dt' ++ r) : r = [] ∧ sameS x y dt dt' = true := by
  obtain ⟨h1, h2⟩ := dec_enc hb hn ht hd []
  obtain ⟨h3, h4⟩ := dec_enc hb' hn' ht' hd' r
  rw [List.append_nil] at h1 h2
  rw [h] at h1 h2
  rw [h1] at h3
  rw [h2] at h4
  simp only [DS.mk.injEq, Prod.mk.injEq] at h4
  obtain ⟨a, b, c, e, f, -⟩ := h4
  refine ⟨f.symm, ?_⟩
  unfold sameS
  exact decide_eq_true ⟨h3, a, b, c, e⟩
theorem enc_same {x y : SV} {dt dt' : List Int} (h : sameS x y dt dt' = true) : encS x dt = encS y dt' := by
  obtain ⟨a, b, c, e, f⟩ := of_decide_eq_true h
  unfold encS
  have : letB x dt = letB y dt' := by funext z; unfold letB; rw [b, c, e, f]
  rw [a, this]
end Go.Ev.R
namespace Go.Ev.R
open Go Go.RowKit
theorem D_6 (N d : Nat) (K : KV) (s : Nat) : D N (d + 1) 6 [] K s = K (.bool true) s := by kernel_rfl
theorem eqb_4 (a b : Bool) (k : KV) (s : Nat) : eqX P 4 4 false false (.bool a) (.bool b) k s = k (.bool (a == b)) s := by cases a <;> cases b <;> kernel_rfl
theorem encS_range (x : SV) (dt : List Int) : ∀ y ∈ encS x dt, 0 ≤ y ∧ y < 256 := by
  intro y hy
  rcases List.mem_append.1 hy with h | h
  · exact be_range _ _ y h
  · obtain ⟨c, -, h⟩ := List.mem_flatMap.1 h
    exact letB_range x dt c y h
section
variable {N d : Nat} {h : T} {s : Nat} (hf : ∀ n, s ≤ n → h.get n = none)
include hf
theorem s38 {p q : Option Addr} {n m c c' : Nat} {a b : List Int} (r : Sl EB h p n c a) (r' : Row EB h q m b) (ha : allBytes a) (hb : allBytes b) : ValS (D N (d + 2)) 38 [.slice p n c, .slice q m c'] h s (.bool (decide (m < n) && decide (a.take m = b))) := by
  refine ValS.of hf fun K pw Z g hp hk => ?_
  rw [D_38]; unfold F38; rw [app2_eq]
  have hle := r.le
  by_cases h1 : (m : Int) < (n : Int)
  · try simp (disch := first | assumption | omega | (simp only [Int.ofNat_eq_natCast, neg_one]; done) | (simp only [Int.ofNat_eq_natCast, neg_one]; omega)) only [tysW, w_bindJ, w_logJ, w_ct, w_cf, w_gtt, w_gft, w_gtf, w_gff, w_pt, w_pf, w_lret, w_e0, w_e1, w_e2, w_nil, w_fun, w_nt, w_nf, w_add, w_sub, w_eqt, w_eqf, w_net, w_nef, w_ltt, w_ltf, w_let, w_lef, w_gtt', w_gtf', w_get, w_gef, toNat_of, of_add, cast_add, nth_0, nth_s, Nat.zero_add, Nat.reduceAdd, Nat.reduceMul, Nat.add_zero, List.length_cons, List.length_nil, List.drop_zero, List.drop_succ_cons, List.take_succ_cons, List.take_zero, List.take_nil, true_and, and_true, Int.toNat_natCast, List.append_nil, List.nil_append, List.cons_append]
    refine r.cut (ab_to (i := m) (by omega) .i64) (Nat.zero_le _) (by omega) (by omega) (Nat.le_refl _) fun p' r2 k2 => ?_
    simp only [Nat.sub_zero, List.drop_zero] at r2 ⊢
    refine ValS.go g hp (s19 (d := d) hf r2.row r' (allBytes_take ha _) hb) fun h3 s3 g3 c3 => ?_
    have hk := hk _ _ g3
    rw [decide_eq_true (show m < n by omega), Bool.true_and] at hk
    try simp (disch := first | assumption | omega | (simp only [Int.ofNat_eq_natCast, neg_one]; done) | (simp only [Int.ofNat_eq_natCast, neg_one]; omega)) only [tysW, w_bindJ, w_logJ, w_ct, w_cf, w_gtt, w_gft, w_gtf, w_gff, w_pt, w_pf, w_lret, w_e0, w_e1, w_e2, w_nil, w_fun, w_nt, w_nf, w_add, w_sub, w_eqt, w_eqf, w_net, w_nef, w_ltt, w_ltf, w_let, w_lef, w_gtt', w_gtf', w_get, w_gef, toNat_of, of_add, cast_add, nth_0, nth_s, Nat.zero_add, Nat.reduceAdd, Nat.reduceMul, Nat.add_zero, List.length_cons, List.length_nil, List.drop_zero, List.drop_succ_cons, List.take_succ_cons, List.take_zero, List.take_nil, true_and, and_true, Int.toNat_natCast, List.append_nil, List.nil_append, List.cons_append]
    exact hk
  · try simp (disch := first | assumption | omega | (simp only [Int.ofNat_eq_natCast, neg_one]; done) | (simp only [Int.ofNat_eq_natCast, neg_one]; omega)) only [tysW, w_bindJ, w_logJ, w_ct, w_cf, w_gtt, w_gft, w_gtf, w_gff, w_pt, w_pf, w_lret, w_e0, w_e1, w_e2, w_nil, w_fun, w_nt, w_nf, w_add, w_sub, w_eqt, w_eqf, w_net, w_nef, w_ltt, w_ltf, w_let, w_lef, w_gtt', w_gtf', w_get, w_gef, toNat_of, of_add, cast_add, nth_0, nth_s, Nat.zero_add, Nat.reduceAdd, Nat.reduceMul, Nat.add_zero, List.length_cons, List.length_nil, List.drop_zero, List.drop_succ_cons, List.take_succ_cons, List.take_zero, List.take_nil, true_and, and_true, Int.toNat_natCast, List.append_nil, List.nil_append, List.cons_append]
    have hk := hk _ _ g
    rw [decide_eq_false (show ¬ m < n by omega), Bool.false_and] at hk
    exact hk
end
section
variable {N d : Nat} (hN : N = 100000) {h : T} {s : Nat} (hf : ∀ n, s ≤ n → h.get n = none)
include hN hf
theorem s7 (x y : SV) {dt dt' : List Int} (r : Row EI h x.p x.n dt) (r' : Row EI h y.p y.n dt') (ht : In64 x.time) (hd : ∀ z ∈ dt, In64 z) (ht' : In64 y.time) (hd' : ∀ z ∈ dt', In64 z) : ValS (D N (d + 13)) 7 [.agg ⟨svv x⟩, .agg ⟨svv y⟩] h s (.bool true) := by
  refine ValS.of hf fun K pw Z g hp hk => ?_
  rw [D_7]; unfold F7; rw [app2_eq]
  refine wp_boxA g hp fun h1 g1 c1 b1 => ?_
  simp only [svv] at b1
  refine wp_boxA g1 hp fun h2 g2 c2 b2 => ?_
  simp only [svv] at b2
  replace b1 := c2.box b1 (by omega)
  rw [D_6]
  by_cases h60 : (60 : Int) < (x.n : Int)
  · try simp (disch := first | assumption | omega | (simp only [Int.ofNat_eq_natCast, neg_one]; done) | (simp only [Int.ofNat_eq_natCast, neg_one]; omega)) only [tysW, w_bindJ, w_logJ, w_ct, w_cf, w_gtt, w_gft, w_gtf, w_gff, w_pt, w_pf, w_lret, w_e0, w_e1, w_e2, w_nil, w_fun, w_nt, w_nf, w_add, w_sub, w_eqt, w_eqf, w_net, w_nef, w_ltt, w_ltf, w_let, w_lef, w_gtt', w_gtf', w_get, w_gef, toNat_of, of_add, cast_add, nth_0, nth_s, Nat.zero_add, Nat.reduceAdd, Nat.reduceMul, Nat.add_zero, List.length_cons, List.length_nil, List.drop_zero, List.drop_succ_cons, List.take_succ_cons, List.take_zero, List.take_nil, true_and, and_true, Int.toNat_natCast, List.append_nil, List.nil_append, List.cons_append, ldB b1, clB b1, ldBL b1, clBL b1]
    unfold X7_9
    try simp (disch := first | assumption | omega | (simp only [Int.ofNat_eq_natCast, neg_one]; done) | (simp only [Int.ofNat_eq_natCast, neg_one]; omega)) only [tysW, w_bindJ, w_logJ, w_ct, w_cf, w_gtt, w_gft, w_gtf, w_gff, w_pt, w_pf, w_lret, w_e0, w_e1, w_e2, w_nil, w_fun, w_nt, w_nf, w_add, w_sub, w_eqt, w_eqf, w_net, w_nef, w_ltt, w_ltf, w_let, w_lef, w_gtt', w_gtf', w_get, w_gef, toNat_of, of_add, cast_add, nth_0, nth_s, Nat.zero_add, Nat.reduceAdd, Nat.reduceMul, Nat.add_zero, List.length_cons, List.length_nil, List.drop_zero, List.drop_succ_cons, List.take_succ_cons, List.take_zero, List.take_nil, true_and, and_true, Int.toNat_natCast, List.append_nil, List.nil_append, List.cons_append]
    exact hk _ _ g2
  by_cases h60' : (60 : Int) < (y.n : Int)
  · try simp (disch := first | assumption | omega | (simp only [Int.ofNat_eq_natCast, neg_one]; done) | (simp only [Int.ofNat_eq_natCast, neg_one]; omega)) only [tysW, w_bindJ, w_logJ, w_ct, w_cf, w_gtt, w_gft, w_gtf, w_gff, w_pt, w_pf, w_lret, w_e0, w_e1, w_e2, w_nil, w_fun, w_nt, w_nf, w_add, w_sub, w_eqt, w_eqf, w_net, w_nef, w_ltt, w_ltf, w_let, w_lef, w_gtt', w_gtf', w_get, w_gef, toNat_of, of_add, cast_add, nth_0, nth_s, Nat.zero_add, Nat.reduceAdd, Nat.reduceMul, Nat.add_zero, List.length_cons, List.length_nil, List.drop_zero, List.drop_succ_cons, List.take_succ_cons, List.take_zero, List.take_nil, true_and, and_true, Int.toNat_natCast, List.append_nil, List.nil_append, List.cons_append, ldB b1, clB b1, ldBL b1, clBL b1, ldB b2, clB b2, ldBL b2, clBL b2]
    unfold X7_9
    try simp (disch := first | assumption | omega | (simp only [Int.ofNat_eq_natCast, neg_one]; done) | (simp only [Int.ofNat_eq_natCast, neg_one]; omega)) only [tysW, w_bindJ, w_logJ, w_ct, w_cf, w_gtt, w_gft, w_gtf, w_gff, w_pt, w_pf, w_lret, w_e0, w_e1, w_e2, w_nil, w_fun, w_nt, w_nf, w_add, w_sub, w_eqt, w_eqf, w_net, w_nef, w_ltt, w_ltf, w_let, w_lef, w_gtt', w_gtf', w_get, w_gef, toNat_of, of_add, cast_add, nth_0, nth_s, Nat.zero_add, Nat.reduceAdd, Nat.reduceMul, Nat.add_zero, List.length_cons, List.length_nil, List.drop_zero, List.drop_succ_cons, List.take_succ_cons, List.take_zero, List.take_nil, true_and, and_true, Int.toNat_natCast, List.append_nil, List.nil_append, List.cons_append]
    exact hk _ _ g2
  try simp (disch := first | assumption | omega | (simp only [Int.ofNat_eq_natCast, neg_one]; done) | (simp only [Int.ofNat_eq_natCast, neg_one]; omega)) only [tysW, w_bindJ, w_logJ, w_ct, w_cf, w_gtt, w_gft, w_gtf, w_gff, w_pt, w_pf, w_lret, w_e0, w_e1, w_e2, w_nil, w_fun, w_nt, w_nf, w_add, w_sub, w_eqt, w_eqf, w_net, w_nef, w_ltt, w_ltf, w_let, w_lef, w_gtt', w_gtf', w_get, w_gef, toNat_of, of_add, cast_add, nth_0, nth_s, Nat.zero_add, Nat.reduceAdd, Nat.reduceMul, Nat.add_zero, List.length_cons, List.length_nil, List.drop_zero, List.drop_succ_cons, List.take_succ_cons, List.take_zero, List.take_nil, true_and, and_true, Int.toNat_natCast, List.append_nil, List.nil_append, List.cons_append, ldB b1, clB b1, ldBL b1, clBL b1, ldB b2, clB b2, ldBL b2, clBL b2]
  unfold X7_9
  try simp (disch := first | assumption | omega | (simp only [Int.ofNat_eq_natCast, neg_one]; done) | (simp only [Int.ofNat_eq_natCast, neg_one]; omega)) only [tysW, w_bindJ, w_logJ, w_ct, w_cf, w_gtt, w_gft, w_gtf, w_gff, w_pt, w_pf, w_lret, w_e0, w_e1, w_e2, w_nil, w_fun, w_nt, w_nf, w_add, w_sub, w_eqt, w_eqf, w_net, w_nef, w_ltt, w_ltf, w_let, w_lef, w_gtt', w_gtf', w_get, w_gef, toNat_of, of_add, cast_add, nth_0, nth_s, Nat.zero_add, Nat.reduceAdd, Nat.reduceMul, Nat.add_zero, List.length_cons, List.length_nil, List.drop_zero, List.drop_succ_cons, List.take_succ_cons, List.take_zero, List.take_nil, true_and, and_true, Int.toNat_natCast, List.append_nil, List.nil_append, List.cons_append, ldB b1, clB b1, ldBL b1, clBL b1]
  refine PureS.go g2 hp (s23e (d := d) hN g2.fresh x (g2.row hf r)) fun v h3 s3 g3 c3 hv => ?_
  obtain ⟨pa, la, rfl, oa, hla⟩ := hv
  have l3 := c3.le
  replace b1 := c3.box b1 (by omega)
  replace b2 := c3.box b2 (by omega)
  try simp (disch := first | assumption | omega | (simp only [Int.ofNat_eq_natCast, neg_one]; done) | (simp only [Int.ofNat_eq_natCast, neg_one]; omega)) only [tysW, w_bindJ, w_logJ, w_ct, w_cf, w_gtt, w_gft, w_gtf, w_gff, w_pt, w_pf, w_lret, w_e0, w_e1, w_e2, w_nil, w_fun, w_nt, w_nf, w_add, w_sub, w_eqt, w_eqf, w_net, w_nef, w_ltt, w_ltf, w_let, w_lef, w_gtt', w_gtf', w_get, w_gef, toNat_of, of_add, cast_add, nth_0, nth_s, Nat.zero_add, Nat.reduceAdd, Nat.reduceMul, Nat.add_zero, List.length_cons, List.length_nil, List.drop_zero, List.drop_succ_cons, List.take_succ_cons, List.take_zero, List.take_nil, true_and, and_true, Int.toNat_natCast, List.append_nil, List.nil_append, List.cons_append, ldB b2, clB b2, ldBL b2, clBL b2]
  refine PureS.go g3 hp (s23e (d := d) hN g3.fresh y (g3.row hf r')) fun v h4 s4 g4 c4 hv => ?_
  obtain ⟨pb, lb, rfl, ob, hlb⟩ := hv
  have l4 := c4.le
  replace b1 := c4.box b1 (by omega)
  replace b2 := c4.box b2 (by omega)
  replace oa := oa.from g3.fresh c4
  have tail : (bindJ 1 (fun v23 u => pickX (.bool true) v23 (.bool false) (fun v24 u => bindJ 1 (fun v25 u => pickX v24 v25 (.bool false) (fun v26 u => K v26 u) u) (fun j27 u => guardX (gd v24 true) (ld 33 (ptr (s + 1)) (fun v28 u => D N (d + 12) 25 [v28] (fun v29 u => eqX P 35 35 false false (vi (errS y)) v29 (fun v30 u => j27 v30 u) u) u) u) (j27 undef u)) u) u) (fun j31 u => guardX (gd (.bool true) true) (ld 33 (ptr s) (fun v32 u => D N (d + 12) 25 [v32] (fun v33 u => eqX P 35 35 false false (vi (errS x)) v33 (fun v34 u => j31 v34 u) u) u) u) (j31 undef u)) s4).wp pw Z h4 := by
    try simp (disch := first | assumption | omega | (simp only [Int.ofNat_eq_natCast, neg_one]; done) | (simp only [Int.ofNat_eq_natCast, neg_one]; omega)) only [tysW, w_bindJ, w_logJ, w_ct, w_cf, w_gtt, w_gft, w_gtf, w_gff, w_pt, w_pf, w_lret, w_e0, w_e1, w_e2, w_nil, w_fun, w_nt, w_nf, w_add, w_sub, w_eqt, w_eqf, w_net, w_nef, w_ltt, w_ltf, w_let, w_lef, w_gtt', w_gtf', w_get, w_gef, toNat_of, of_add, cast_add, nth_0, nth_s, Nat.zero_add, Nat.reduceAdd, Nat.reduceMul, Nat.add_zero, List.length_cons, List.length_nil, List.drop_zero, List.drop_succ_cons, List.take_succ_cons, List.take_zero, List.take_nil, true_and, and_true, Int.toNat_natCast, List.append_nil, List.nil_append, List.cons_append, ldB b1, clB b1, ldBL b1, clBL b1]
    refine ValS.go g4 hp (s25 (d := d + 1) hN g4.fresh x) fun h5 s5 g5 c5 => ?_
    replace b2 := c5.box b2 (by omega)
    rw [show (if badS x = true then (2 : Int) else 0) = errS x from rfl]
    obtain ⟨e, he⟩ : ∃ e, e = errS x := ⟨_, rfl⟩
    rw [← he]
    try simp (disch := first | assumption | omega | (simp only [Int.ofNat_eq_natCast, neg_one]; done) | (simp only [Int.ofNat_eq_natCast, neg_one]; omega)) only [tysW, w_bindJ, w_logJ, w_ct, w_cf, w_gtt, w_gft, w_gtf, w_gff, w_pt, w_pf, w_lret, w_e0, w_e1, w_e2, w_nil, w_fun, w_nt, w_nf, w_add, w_sub, w_eqt, w_eqf, w_net, w_nef, w_ltt, w_ltf, w_let, w_lef, w_gtt', w_gtf', w_get, w_gef, toNat_of, of_add, cast_add, nth_0, nth_s, Nat.zero_add, Nat.reduceAdd, Nat.reduceMul, Nat.add_zero, List.length_cons, List.length_nil, List.drop_zero, List.drop_succ_cons, List.take_succ_cons, List.take_zero, List.take_nil, true_and, and_true, Int.toNat_natCast, List.append_nil, List.nil_append, List.cons_append, ldB b2, clB b2, ldBL b2, clBL b2]
    refine ValS.go g5 hp (s25 (d := d + 1) hN g5.fresh y) fun h6 s6 g6 c6 => ?_
    rw [show (if badS y = true then (2 : Int) else 0) = errS y from rfl]
    obtain ⟨f, hf⟩ : ∃ f, f = errS y := ⟨_, rfl⟩
    rw [← hf]
    try simp (disch := first | assumption | omega | (simp only [Int.ofNat_eq_natCast, neg_one]; done) | (simp only [Int.ofNat_eq_natCast, neg_one]; omega)) only [tysW, w_bindJ, w_logJ, w_ct, w_cf, w_gtt, w_gft, w_gtf, w_gff, w_pt, w_pf, w_lret, w_e0, w_e1, w_e2, w_nil, w_fun, w_nt, w_nf, w_add, w_sub, w_eqt, w_eqf, w_net, w_nef, w_ltt, w_ltf, w_let, w_lef, w_gtt', w_gtf', w_get, w_gef, toNat_of, of_add, cast_add, nth_0, nth_s, Nat.zero_add, Nat.reduceAdd, Nat.reduceMul, Nat.add_zero, List.length_cons, List.length_nil, List.drop_zero, List.drop_succ_cons, List.take_succ_cons, List.take_zero, List.take_nil, true_and, and_true, Int.toNat_natCast, List.append_nil, List.nil_append, List.cons_append]
    exact hk _ _ g6
  cases hbx : badS x with
  | true =>
    have ex : ¬ errS x = 0 := by unfold errS; rw [hbx]; simp
    try simp (disch := first | assumption | omega | (simp only [Int.ofNat_eq_natCast, neg_one]; done) | (simp only [Int.ofNat_eq_natCast, neg_one]; omega)) only [tysW, w_bindJ, w_logJ, w_ct, w_cf, w_gtt, w_gft, w_gtf, w_gff, w_pt, w_pf, w_lret, w_e0, w_e1, w_e2, w_nil, w_fun, w_nt, w_nf, w_add, w_sub, w_eqt, w_eqf, w_net, w_nef, w_ltt, w_ltf, w_let, w_lef, w_gtt', w_gtf', w_get, w_gef, toNat_of, of_add, cast_add, nth_0, nth_s, Nat.zero_add, Nat.reduceAdd, Nat.reduceMul, Nat.add_zero, List.length_cons, List.length_nil, List.drop_zero, List.drop_succ_cons, List.take_succ_cons, List.take_zero, List.take_nil, true_and, and_true, Int.toNat_natCast, List.append_nil, List.nil_append, List.cons_append]
    unfold X7_8
    try simp (disch := first | assumption | omega | (simp only [Int.ofNat_eq_natCast, neg_one]; done) | (simp only [Int.ofNat_eq_natCast, neg_one]; omega)) only [tysW, w_bindJ, w_logJ, w_ct, w_cf, w_gtt, w_gft, w_gtf, w_gff, w_pt, w_pf, w_lret, w_e0, w_e1, w_e2, w_nil, w_fun, w_nt, w_nf, w_add, w_sub, w_eqt, w_eqf, w_net, w_nef, w_ltt, w_ltf, w_let, w_lef, w_gtt', w_gtf', w_get, w_gef, toNat_of, of_add, cast_add, nth_0, nth_s, Nat.zero_add, Nat.reduceAdd, Nat.reduceMul, Nat.add_zero, List.length_cons, List.length_nil, List.drop_zero, List.drop_succ_cons, List.take_succ_cons, List.take_zero, List.take_nil, true_and, and_true, Int.toNat_natCast, List.append_nil, List.nil_append, List.cons_append]
    exact tail
  | false =>
    have ex : errS x = 0 := by unfold errS; rw [hbx]; simp
    cases hby : badS y with
    | true =>
      have ey : ¬ errS y = 0 := by unfold errS; rw [hby]; simp
      try simp (disch := first | assumption | omega | (simp only [Int.ofNat_eq_natCast, neg_one]; done) | (simp only [Int.ofNat_eq_natCast, neg_one]; omega)) only [tysW, w_bindJ, w_logJ, w_ct, w_cf, w_gtt, w_gft, w_gtf, w_gff, w_pt, w_pf, w_lret, w_e0, w_e1, w_e2, w_nil, w_fun, w_nt, w_nf, w_add, w_sub, w_eqt, w_eqf, w_net, w_nef, w_ltt, w_ltf, w_let, w_lef, w_gtt', w_gtf', w_get, w_gef, toNat_of, of_add, cast_add, nth_0, nth_s, Nat.zero_add, Nat.reduceAdd, Nat.reduceMul, Nat.add_zero, List.length_cons, List.length_nil, List.drop_zero, List.drop_succ_cons, List.take_succ_cons, List.take_zero, List.take_nil, true_and, and_true, Int.toNat_natCast, List.append_nil, List.nil_append, List.cons_append]
      unfold X7_8
      try simp (disch := first | assumption | omega | (simp only [Int.ofNat_eq_natCast, neg_one]; done) | (simp only [Int.ofNat_eq_natCast, neg_one]; omega)) only [tysW, w_bindJ, w_logJ, w_ct, w_cf, w_gtt, w_gft, w_gtf, w_gff, w_pt, w_pf, w_lret, w_e0, w_e1, w_e2, w_nil, w_fun, w_nt, w_nf, w_add, w_sub, w_eqt, w_eqf, w_net, w_nef, w_ltt, w_ltf, w_let, w_lef, w_gtt', w_gtf', w_get, w_gef, toNat_of, of_add, cast_add, nth_0, nth_s, Nat.zero_add, Nat.reduceAdd, Nat.reduceMul, Nat.add_zero, List.length_cons, List.length_nil, List.drop_zero, List.drop_succ_cons, List.take_succ_cons, List.take_zero, List.take_nil, true_and, and_true, Int.toNat_natCast, List.append_nil, List.nil_append, List.cons_append]
      exact tail
    | false =>
      have ey : errS y = 0 := by unfold errS; rw [hby]; simp
      have hbx' : bytesS x dt = encS x dt := by unfold bytesS; rw [hbx]; rfl
      have hby' : bytesS y dt' = encS y dt' := by unfold bytesS; rw [hby]; rfl
      rw [hbx'] at oa
      rw [hby'] at ob
      obtain ⟨k1, k2⟩ := dec_enc hbx r.1 ht hd []
      rw [List.append_nil] at k1 k2
      try simp (disch := first | assumption | omega | (simp only [Int.ofNat_eq_natCast, neg_one]; done) | (simp only [Int.ofNat_eq_natCast, neg_one]; omega)) only [tysW, w_bindJ, w_logJ, w_ct, w_cf, w_gtt, w_gft, w_gtf, w_gff, w_pt, w_pf, w_lret, w_e0, w_e1, w_e2, w_nil, w_fun, w_nt, w_nf, w_add, w_sub, w_eqt, w_eqf, w_net, w_nef, w_ltt, w_ltf, w_let, w_lef, w_gtt', w_gtf', w_get, w_gef, toNat_of, of_add, cast_add, nth_0, nth_s, Nat.zero_add, Nat.reduceAdd, Nat.reduceMul, Nat.add_zero, List.length_cons, List.length_nil, List.drop_zero, List.drop_succ_cons, List.take_succ_cons, List.take_zero, List.take_nil, true_and, and_true, Int.toNat_natCast, List.append_nil, List.nil_append, List.cons_append]
      unfold X7_8
      try simp (disch := first | assumption | omega | (simp only [Int.ofNat_eq_natCast, neg_one]; done) | (simp only [Int.ofNat_eq_natCast, neg_one]; omega)) only [tysW, w_bindJ, w_logJ, w_ct, w_cf, w_gtt, w_gft, w_gtf, w_gff, w_pt, w_pf, w_lret, w_e0, w_e1, w_e2, w_nil, w_fun, w_nt, w_nf, w_add, w_sub, w_eqt, w_eqf, w_net, w_nef, w_ltt, w_ltf, w_let, w_lef, w_gtt', w_gtf', w_get, w_gef, toNat_of, of_add, cast_add, nth_0, nth_s, Nat.zero_add, Nat.reduceAdd, Nat.reduceMul, Nat.add_zero, List.length_cons, List.length_nil, List.drop_zero, List.drop_succ_cons, List.take_succ_cons, List.take_zero, List.take_nil, true_and, and_true, Int.toNat_natCast, List.append_nil, List.nil_append, List.cons_append]
      refine PureS.go g4 hp (s37 (d := d) hN g4.fresh oa.sl (by omega) (encS_range x dt)) fun v h5 s5 g5 c5 hv => ?_
      unfold Got at hv
      rw [bad_enc hbx r.1 ht hd, k1, k2, if_neg (by simp)] at hv
      replace hv : ∃ px, v = .tuple ⟨[.agg ⟨svv ⟨x.kind, x.sen, x.seq, x.time, px, dt.length, dt.length⟩⟩, vi 0]⟩ ∧ OwnG EI 3 h5 s4 px dt.length dt := hv
      obtain ⟨px, rfl, ox⟩ := hv
      have na := oa.lt g4.fresh
      have nb := ob.lt g4.fresh
      have nx := ox.lt g5.fresh
      have l5 := c5.le
      replace b1 := c5.box b1 (by omega)
      replace b2 := c5.box b2 (by omega)
      replace oa := oa.from g4.fresh c5
      replace ob := ob.from g4.fresh c5
      try simp (disch := first | assumption | omega | (simp only [Int.ofNat_eq_natCast, neg_one]; done) | (simp only [Int.ofNat_eq_natCast, neg_one]; omega)) only [tysW, w_bindJ, w_logJ, w_ct, w_cf, w_gtt, w_gft, w_gtf, w_gff, w_pt, w_pf, w_lret, w_e0, w_e1, w_e2, w_nil, w_fun, w_nt, w_nf, w_add, w_sub, w_eqt, w_eqf, w_net, w_nef, w_ltt, w_ltf, w_let, w_lef, w_gtt', w_gtf', w_get, w_gef, toNat_of, of_add, cast_add, nth_0, nth_s, Nat.zero_add, Nat.reduceAdd, Nat.reduceMul, Nat.add_zero, List.length_cons, List.length_nil, List.drop_zero, List.drop_succ_cons, List.take_succ_cons, List.take_zero, List.take_nil, true_and, and_true, Int.toNat_natCast, List.append_nil, List.nil_append, List.cons_append]
      refine wp_boxA g5 hp fun h6 g6 c6 b6 => ?_
      replace b1 := c6.box b1 (by omega)
      replace b2 := c6.box b2 (by omega)
      replace oa := oa.from g5.fresh c6
      replace ob := ob.from g5.fresh c6
      replace ox := ox.from g5.fresh c6
      try simp (disch := first | assumption | omega | (simp only [Int.ofNat_eq_natCast, neg_one]; done) | (simp only [Int.ofNat_eq_natCast, neg_one]; omega)) only [tysW, w_bindJ, w_logJ, w_ct, w_cf, w_gtt, w_gft, w_gtf, w_gff, w_pt, w_pf, w_lret, w_e0, w_e1, w_e2, w_nil, w_fun, w_nt, w_nf, w_add, w_sub, w_eqt, w_eqf, w_net, w_nef, w_ltt, w_ltf, w_let, w_lef, w_gtt', w_gtf', w_get, w_gef, toNat_of, of_add, cast_add, nth_0, nth_s, Nat.zero_add, Nat.reduceAdd, Nat.reduceMul, Nat.add_zero, List.length_cons, List.length_nil, List.drop_zero, List.drop_succ_cons, List.take_succ_cons, List.take_zero, List.take_nil, true_and, and_true, Int.toNat_natCast, List.append_nil, List.nil_append, List.cons_append, svv]
      refine wp_putF g6 hp b6 (by omega) (by simp) rfl fun h7 g7 b7 e7 => ?_
      simp only [overL] at b7
      replace b1 := (e7 s (by omega)).trans b1
      replace b2 := (e7 (s + 1) (by omega)).trans b2
      replace oa := oa.but fun hp => e7 _ (by have := na hp; omega)
      replace ob := ob.but fun hp => e7 _ (by have := nb hp; omega)
      replace ox := ox.but fun hp => e7 _ (by have := nx hp; omega)
      have ra := encS_range x dt
      have rb := encS_range y dt'
      try unfold X7_7
      try simp (disch := first | assumption | omega | (simp only [Int.ofNat_eq_natCast, neg_one]; done) | (simp only [Int.ofNat_eq_natCast, neg_one]; omega)) only [tysW, w_bindJ, w_logJ, w_ct, w_cf, w_gtt, w_gft, w_gtf, w_gff, w_pt, w_pf, w_lret, w_e0, w_e1, w_e2, w_nil, w_fun, w_nt, w_nf, w_add, w_sub, w_eqt, w_eqf, w_net, w_nef, w_ltt, w_ltf, w_let, w_lef, w_gtt', w_gtf', w_get, w_gef, toNat_of, of_add, cast_add, nth_0, nth_s, Nat.zero_add, Nat.reduceAdd, Nat.reduceMul, Nat.add_zero, List.length_cons, List.length_nil, List.drop_zero, List.drop_succ_cons, List.take_succ_cons, List.take_zero, List.take_nil, true_and, and_true, Int.toNat_natCast, List.append_nil, List.nil_append, List.cons_append, ldB b7, clB b7, ldBL b7, clBL b7, ldB b1, clB b1, ldBL b1, clBL b1]
      refine ValS.goL g7 hp (s28 (d := d + 10) (by omega) g7.fresh ⟨x.kind, x.sen, x.seq, x.time, px, dt.length, dt.length⟩ x ox.sl.row (g7.row hf r) (by show dt.length ≤ 1000; rw [r.1]; omega)) fun h8 s8 ts8 ws8 g8 c8 hw8 ht8 => ?_
      have l8 := c8.le
      replace b1 := c8.box b1 (by omega)
      replace b2 := c8.box b2 (by omega)
      replace oa := oa.from g7.fresh c8
      replace ob := ob.from g7.fresh c8
      rw [show sameS ⟨x.kind, x.sen, x.seq, x.time, px, dt.length, dt.length⟩ x dt dt = true by simp [sameS]]
      try unfold X7_6
      try simp (disch := first | assumption | omega | (simp only [Int.ofNat_eq_natCast, neg_one]; done) | (simp only [Int.ofNat_eq_natCast, neg_one]; omega)) only [tysW, w_bindJ, w_logJ, w_ct, w_cf, w_gtt, w_gft, w_gtf, w_gff, w_pt, w_pf, w_lret, w_e0, w_e1, w_e2, w_nil, w_fun, w_nt, w_nf, w_add, w_sub, w_eqt, w_eqf, w_net, w_nef, w_ltt, w_ltf, w_let, w_lef, w_gtt', w_gtf', w_get, w_gef, toNat_of, of_add, cast_add, nth_0, nth_s, Nat.zero_add, Nat.reduceAdd, Nat.reduceMul, Nat.add_zero, List.length_cons, List.length_nil, List.drop_zero, List.drop_succ_cons, List.take_succ_cons, List.take_zero, List.take_nil, true_and, and_true, Int.toNat_natCast, List.append_nil, List.nil_append, List.cons_append]
      refine ValS.goL g8 hp (s19 (d := d + 11) g8.fresh oa.sl.row ob.sl.row ra rb) fun h9 s9 ts9 ws9 g9 c9 hw9 ht9 => ?_
      have l9 := c9.le
      replace b1 := c9.box b1 (by omega)
      replace b2 := c9.box b2 (by omega)
      replace oa := oa.from g8.fresh c9
      replace ob := ob.from g8.fresh c9
      try unfold X7_5
      try simp (disch := first | assumption | omega | (simp only [Int.ofNat_eq_natCast, neg_one]; done) | (simp only [Int.ofNat_eq_natCast, neg_one]; omega)) only [tysW, w_bindJ, w_logJ, w_ct, w_cf, w_gtt, w_gft, w_gtf, w_gff, w_pt, w_pf, w_lret, w_e0, w_e1, w_e2, w_nil, w_fun, w_nt, w_nf, w_add, w_sub, w_eqt, w_eqf, w_net, w_nef, w_ltt, w_ltf, w_let, w_lef, w_gtt', w_gtf', w_get, w_gef, toNat_of, of_add, cast_add, nth_0, nth_s, Nat.zero_add, Nat.reduceAdd, Nat.reduceMul, Nat.add_zero, List.length_cons, List.length_nil, List.drop_zero, List.drop_succ_cons, List.take_succ_cons, List.take_zero, List.take_nil, true_and, and_true, Int.toNat_natCast, List.append_nil, List.nil_append, List.cons_append, ldB b1, clB b1, ldBL b1, clBL b1, ldB b2, clB b2, ldBL b2, clBL b2]
      try unfold X7_4
      try simp (disch := first | assumption | omega | (simp only [Int.ofNat_eq_natCast, neg_one]; done) | (simp only [Int.ofNat_eq_natCast, neg_one]; omega)) only [tysW, w_bindJ, w_logJ, w_ct, w_cf, w_gtt, w_gft, w_gtf, w_gff, w_pt, w_pf, w_lret, w_e0, w_e1, w_e2, w_nil, w_fun, w_nt, w_nf, w_add, w_sub, w_eqt, w_eqf, w_net, w_nef, w_ltt, w_ltf, w_let, w_lef, w_gtt', w_gtf', w_get, w_gef, toNat_of, of_add, cast_add, nth_0, nth_s, Nat.zero_add, Nat.reduceAdd, Nat.reduceMul, Nat.add_zero, List.length_cons, List.length_nil, List.drop_zero, List.drop_succ_cons, List.take_succ_cons, List.take_zero, List.take_nil, true_and, and_true, Int.toNat_natCast, List.append_nil, List.nil_append, List.cons_append]
      refine ValS.goL g9 hp (s28 (d := d + 10) (by omega) g9.fresh x y (g9.row hf r) (g9.row hf r') (by omega)) fun h10 s10 ts10 ws10 g10 c10 hw10 ht10 => ?_
      have l10 := c10.le
      replace oa := oa.from g9.fresh c10
      replace ob := ob.from g9.fresh c10
      have esame : decide (encS x dt = encS y dt') = sameS x y dt dt' := by
        cases hs : sameS x y dt dt' with
        | true => exact decide_eq_true (enc_same hs)
        | false =>
          refine decide_eq_false fun he => ?_
          have := (enc_inj (r := []) hbx r.1 ht hd hby r'.1 ht' hd' (by rw [List.append_nil]; exact he)).2
          rw [hs] at this; cases this
      rw [esame]
      obtain ⟨sm, hsm⟩ : ∃ sm, sm = sameS x y dt dt' := ⟨_, rfl⟩
      rw [← hsm]
      try simp (disch := first | assumption | omega | (simp only [Int.ofNat_eq_natCast, neg_one]; done) | (simp only [Int.ofNat_eq_natCast, neg_one]; omega)) only [tysW, w_bindJ, w_logJ, w_ct, w_cf, w_gtt, w_gft, w_gtf, w_gff, w_pt, w_pf, w_lret, w_e0, w_e1, w_e2, w_nil, w_fun, w_nt, w_nf, w_add, w_sub, w_eqt, w_eqf, w_net, w_nef, w_ltt, w_ltf, w_let, w_lef, w_gtt', w_gtf', w_get, w_gef, toNat_of, of_add, cast_add, nth_0, nth_s, Nat.zero_add, Nat.reduceAdd, Nat.reduceMul, Nat.add_zero, List.length_cons, List.length_nil, List.drop_zero, List.drop_succ_cons, List.take_succ_cons, List.take_zero, List.take_nil, true_and, and_true, Int.toNat_natCast, List.append_nil, List.nil_append, List.cons_append, eqb_4]
      rw [show (sm == sm) = true by simp]
      try unfold X7_3
      try simp (disch := first | assumption | omega | (simp only [Int.ofNat_eq_natCast, neg_one]; done) | (simp only [Int.ofNat_eq_natCast, neg_one]; omega)) only [tysW, w_bindJ, w_logJ, w_ct, w_cf, w_gtt, w_gft, w_gtf, w_gff, w_pt, w_pf, w_lret, w_e0, w_e1, w_e2, w_nil, w_fun, w_nt, w_nf, w_add, w_sub, w_eqt, w_eqf, w_net, w_nef, w_ltt, w_ltf, w_let, w_lef, w_gtt', w_gtf', w_get, w_gef, toNat_of, of_add, cast_add, nth_0, nth_s, Nat.zero_add, Nat.reduceAdd, Nat.reduceMul, Nat.add_zero, List.length_cons, List.length_nil, List.drop_zero, List.drop_succ_cons, List.take_succ_cons, List.take_zero, List.take_nil, true_and, and_true, Int.toNat_natCast, List.append_nil, List.nil_append, List.cons_append]
      have pre : ∀ {x y : SV} {dt dt' : List Int} {m n : Nat}, badS x = false → dt.length = x.n → In64 x.time → (∀ z ∈ dt, In64 z) → badS y = false → dt'.length = y.n → In64 y.time → (∀ z ∈ dt', In64 z) → (encS x dt).length = n → (encS y dt').length = m → (decide (m < n) && decide ((encS x dt).take m = encS y dt')) = false := by
        intro x y dt dt' m n a1 a2 a3 a4 a5 a6 a7 a8 a9 a10
        cases hd1 : decide (m < n) with
        | false => rfl
        | true =>
          rw [Bool.true_and]
          refine decide_eq_false fun he => ?_
          have h1 := List.take_append_drop m (encS x dt)
          rw [he] at h1
          have h2 := (enc_inj a1 a2 a3 a4 a5 a6 a7 a8 h1.symm).1
          have h3 := congrArg List.length h2
          rw [List.length_drop] at h3
          have := of_decide_eq_true hd1
          simp at h3; omega
      refine ValS.goL g10 hp (s38 (d := d + 10) g10.fresh oa.sl ob.sl.row ra rb) fun h11 s11 ts11 ws11 g11 c11 hw11 ht11 => ?_
      have l11 := c11.le
      replace oa := oa.from g10.fresh c11
      replace ob := ob.from g10.fresh c11
      rw [pre hbx r.1 ht hd hby r'.1 ht' hd' oa.1 ob.1]
      try simp (disch := first | assumption | omega | (simp only [Int.ofNat_eq_natCast, neg_one]; done) | (simp only [Int.ofNat_eq_natCast, neg_one]; omega)) only [tysW, w_bindJ, w_logJ, w_ct, w_cf, w_gtt, w_gft, w_gtf, w_gff, w_pt, w_pf, w_lret, w_e0, w_e1, w_e2, w_nil, w_fun, w_nt, w_nf, w_add, w_sub, w_eqt, w_eqf, w_net, w_nef, w_ltt, w_ltf, w_let, w_lef, w_gtt', w_gtf', w_get, w_gef, toNat_of, of_add, cast_add, nth_0, nth_s, Nat.zero_add, Nat.reduceAdd, Nat.reduceMul, Nat.add_zero, List.length_cons, List.length_nil, List.drop_zero, List.drop_succ_cons, List.take_succ_cons, List.take_zero, List.take_nil, true_and, and_true, Int.toNat_natCast, List.append_nil, List.nil_append, List.cons_append]
      try unfold X7_2
      try simp (disch := first | assumption | omega | (simp only [Int.ofNat_eq_natCast, neg_one]; done) | (simp only [Int.ofNat_eq_natCast, neg_one]; omega)) only [tysW, w_bindJ, w_logJ, w_ct, w_cf, w_gtt, w_gft, w_gtf, w_gff, w_pt, w_pf, w_lret, w_e0, w_e1, w_e2, w_nil, w_fun, w_nt, w_nf, w_add, w_sub, w_eqt, w_eqf, w_net, w_nef, w_ltt, w_ltf, w_let, w_lef, w_gtt', w_gtf', w_get, w_gef, toNat_of, of_add, cast_add, nth_0, nth_s, Nat.zero_add, Nat.reduceAdd, Nat.reduceMul, Nat.add_zero, List.length_cons, List.length_nil, List.drop_zero, List.drop_succ_cons, List.take_succ_cons, List.take_zero, List.take_nil, true_and, and_true, Int.toNat_natCast, List.append_nil, List.nil_append, List.cons_append]
      refine ValS.goL g11 hp (s38 (d := d + 10) g11.fresh ob.sl oa.sl.row rb ra) fun h12 s12 ts12 ws12 g12 c12 hw12 ht12 => ?_
      rw [pre hby r'.1 ht' hd' hbx r.1 ht hd ob.1 oa.1]
      try simp (disch := first | assumption | omega | (simp only [Int.ofNat_eq_natCast, neg_one]; done) | (simp only [Int.ofNat_eq_natCast, neg_one]; omega)) only [tysW, w_bindJ, w_logJ, w_ct, w_cf, w_gtt, w_gft, w_gtf, w_gff, w_pt, w_pf, w_lret, w_e0, w_e1, w_e2, w_nil, w_fun, w_nt, w_nf, w_add, w_sub, w_eqt, w_eqf, w_net, w_nef, w_ltt, w_ltf, w_let, w_lef, w_gtt', w_gtf', w_get, w_gef, toNat_of, of_add, cast_add, nth_0, nth_s, Nat.zero_add, Nat.reduceAdd, Nat.reduceMul, Nat.add_zero, List.length_cons, List.length_nil, List.drop_zero, List.drop_succ_cons, List.take_succ_cons, List.take_zero, List.take_nil, true_and, and_true, Int.toNat_natCast, List.append_nil, List.nil_append, List.cons_append]
      try unfold X7_1
      try simp (disch := first | assumption | omega | (simp only [Int.ofNat_eq_natCast, neg_one]; done) | (simp only [Int.ofNat_eq_natCast, neg_one]; omega)) only [tysW, w_bindJ, w_logJ, w_ct, w_cf, w_gtt, w_gft, w_gtf, w_gff, w_pt, w_pf, w_lret, w_e0, w_e1, w_e2, w_nil, w_fun, w_nt, w_nf, w_add, w_sub, w_eqt, w_eqf, w_net, w_nef, w_ltt, w_ltf, w_let, w_lef, w_gtt', w_gtf', w_get, w_gef, toNat_of, of_add, cast_add, nth_0, nth_s, Nat.zero_add, Nat.reduceAdd, Nat.reduceMul, Nat.add_zero, List.length_cons, List.length_nil, List.drop_zero, List.drop_succ_cons, List.take_succ_cons, List.take_zero, List.take_nil, true_and, and_true, Int.toNat_natCast, List.append_nil, List.nil_append, List.cons_append]
      rw [wp_guard, if_pos (by repeat' (first | exact dynOk_nil _ _ | refine dyn_skip' ?_ | refine dyn_cons ?_ ?_ | exact allF_nil _ _ | refine allF_cons ?_ ?_ | exact disj_below hw8 (by omega) | exact disjA hw8 (by omega) | exact disjB hw8 (by omega) | exact disjC hw8 (by assumption) | exact disjD (fun m hm => by have := hw8 m hm; omega) | exact disj_below ht8 (by omega) | exact disjA ht8 (by omega) | exact disjB ht8 (by omega) | exact disjC ht8 (by assumption) | exact disjD (fun m hm => by have := ht8 m hm; omega) | exact disj_below hw9 (by omega) | exact disjA hw9 (by omega) | exact disjB hw9 (by omega) | exact disjC hw9 (by assumption) | exact disjD (fun m hm => by have := hw9 m hm; omega) | exact disj_below ht9 (by omega) | exact disjA ht9 (by omega) | exact disjB ht9 (by omega) | exact disjC ht9 (by assumption) | exact disjD (fun m hm => by have := ht9 m hm; omega) | exact disj_below hw10 (by omega) | exact disjA hw10 (by omega) | exact disjB hw10 (by omega) | exact disjC hw10 (by assumption) | exact disjD (fun m hm => by have := hw10 m hm; omega) | exact disj_below ht10 (by omega) | exact disjA ht10 (by omega) | exact disjB ht10 (by omega) | exact disjC ht10 (by assumption) | exact disjD (fun m hm => by have := ht10 m hm; omega) | exact disj_below hw11 (by omega) | exact disjA hw11 (by omega) | exact disjB hw11 (by omega) | exact disjC hw11 (by assumption) | exact disjD (fun m hm => by have := hw11 m hm; omega) | exact disj_below ht11 (by omega) | exact disjA ht11 (by omega) | exact disjB ht11 (by omega) | exact disjC ht11 (by assumption) | exact disjD (fun m hm => by have := ht11 m hm; omega) | exact disj_below hw12 (by omega) | exact disjA hw12 (by omega) | exact disjB hw12 (by omega) | exact disjC hw12 (by assumption) | exact disjD (fun m hm => by have := hw12 m hm; omega) | exact disj_below ht12 (by omega) | exact disjA ht12 (by omega) | exact disjB ht12 (by omega) | exact disjC ht12 (by assumption) | exact disjD (fun m hm => by have := ht12 m hm; omega) | exact disjN _ | exact disj1 (by omega) | exact disj2 (by omega) | exact disj3 (by assumption) | exact disjC hw8 (fun m hm => by have := ht8 m hm; omega) | exact disjC hw8 (fun m hm => by have := hw9 m hm; omega) | exact disjC hw8 (fun m hm => by have := ht9 m hm; omega) | exact disjC hw8 (fun m hm => by have := hw10 m hm; omega) | exact disjC hw8 (fun m hm => by have := ht10 m hm; omega) | exact disjC hw8 (fun m hm => by have := hw11 m hm; omega) | exact disjC hw8 (fun m hm => by have := ht11 m hm; omega) | exact disjC hw8 (fun m hm => by have := hw12 m hm; omega) | exact disjC hw8 (fun m hm => by have := ht12 m hm; omega) | exact disjC ht8 (fun m hm => by have := hw8 m hm; omega) | exact disjC ht8 (fun m hm => by have := hw9 m hm; omega) | exact disjC ht8 (fun m hm => by have := ht9 m hm; omega) | exact disjC ht8 (fun m hm => by have := hw10 m hm; omega) | exact disjC ht8 (fun m hm => by have := ht10 m hm; omega) | exact disjC ht8 (fun m hm => by have := hw11 m hm; omega) | exact disjC ht8 (fun m hm => by have := ht11 m hm; omega) | exact disjC ht8 (fun m hm => by have := hw12 m hm; omega) | exact disjC ht8 (fun m hm => by have := ht12 m hm; omega) | exact disjC hw9 (fun m hm => by have := hw8 m hm; omega) | exact disjC hw9 (fun m hm => by have := ht8 m hm; omega) | exact disjC hw9 (fun m hm => by have := ht9 m hm; omega) | exact disjC hw9 (fun m hm => by have := hw10 m hm; omega) | exact disjC hw9 (fun m hm => by have := ht10 m hm; omega) | exact disjC hw9 (fun m hm => by have := hw11 m hm; omega) | exact disjC hw9 (fun m hm => by have := ht11 m hm; omega) | exact disjC hw9 (fun m hm => by have := hw12 m hm; omega) | exact disjC hw9 (fun m hm => by have := ht12 m hm; omega) | exact disjC ht9 (fun m hm => by have := hw8 m hm; omega) | exact disjC ht9 (fun m hm => by have := ht8 m hm; omega) | exact disjC ht9 (fun m hm => by have := hw9 m hm; omega) | exact disjC ht9 (fun m hm => by have := hw10 m hm; omega) | exact disjC ht9 (fun m hm => by have := ht10 m hm; omega) | exact disjC ht9 (fun m hm => by have := hw11 m hm; omega) | exact disjC ht9 (fun m hm => by have := ht11 m hm; omega) | exact disjC ht9 (fun m hm => by have := hw12 m hm; omega) | exact disjC ht9 (fun m hm => by have := ht12 m hm; omega) | exact disjC hw10 (fun m hm => by have := hw8 m hm; omega) | exact disjC hw10 (fun m hm => by have := ht8 m hm; omega) | exact disjC hw10 (fun m hm => by have := hw9 m hm; omega) | exact disjC hw10 (fun m hm => by have := ht9 m hm; omega) | exact disjC hw10 (fun m hm => by have := ht10 m hm; omega) | exact disjC hw10 (fun m hm => by have := hw11 m hm; omega) | exact disjC hw10 (fun m hm => by have := ht11 m hm; omega) | exact disjC hw10 (fun m hm => by have := hw12 m hm; omega) | exact disjC hw10 (fun m hm => by have := ht12 m hm; omega) | exact disjC ht10 (fun m hm => by have := hw8 m hm; omega) | exact disjC ht10 (fun m hm => by have := ht8 m hm; omega) | exact disjC ht10 (fun m hm => by have := hw9 m hm; omega) | exact disjC ht10 (fun m hm => by have := ht9 m hm; omega) | exact disjC ht10 (fun m hm => by have := hw10 m hm; omega) | exact disjC ht10 (fun m hm => by have := hw11 m hm; omega) | exact disjC ht10 (fun m hm => by have := ht11 m hm; omega) | exact disjC ht10 (fun m hm => by have := hw12 m hm; omega) | exact disjC ht10 (fun m hm => by have := ht12 m hm; omega) | exact disjC hw11 (fun m hm => by have := hw8 m hm; omega) | exact disjC hw11 (fun m hm => by have := ht8 m hm; omega) | exact disjC hw11 (fun m hm => by have := hw9 m hm; omega) | exact disjC hw11 (fun m hm => by have := ht9 m hm; omega) | exact disjC hw11 (fun m hm => by have := hw10 m hm; omega) | exact disjC hw11 (fun m hm => by have := ht10 m hm; omega) | exact disjC hw11 (fun m hm => by have := ht11 m hm; omega) | exact disjC hw11 (fun m hm => by have := hw12 m hm; omega) | exact disjC hw11 (fun m hm => by have := ht12 m hm; omega) | exact disjC ht11 (fun m hm => by have := hw8 m hm; omega) | exact disjC ht11 (fun m hm => by have := ht8 m hm; omega) | exact disjC ht11 (fun m hm => by have := hw9 m hm; omega) | exact disjC ht11 (fun m hm => by have := ht9 m hm; omega) | exact disjC ht11 (fun m hm => by have := hw10 m hm; omega) | exact disjC ht11 (fun m hm => by have := ht10 m hm; omega) | exact disjC ht11 (fun m hm => by have := hw11 m hm; omega) | exact disjC ht11 (fun m hm => by have := hw12 m hm; omega) | exact disjC ht11 (fun m hm => by have := ht12 m hm; omega) | exact disjC hw12 (fun m hm => by have := hw8 m hm; omega) | exact disjC hw12 (fun m hm => by have := ht8 m hm; omega) | exact disjC hw12 (fun m hm => by have := hw9 m hm; omega) | exact disjC hw12 (fun m hm => by have := ht9 m hm; omega) | exact disjC hw12 (fun m hm => by have := hw10 m hm; omega) | exact disjC hw12 (fun m hm => by have := ht10 m hm; omega) | exact disjC hw12 (fun m hm => by have := hw11 m hm; omega) | exact disjC hw12 (fun m hm => by have := ht11 m hm; omega) | exact disjC hw12 (fun m hm => by have := ht12 m hm; omega) | exact disjC ht12 (fun m hm => by have := hw8 m hm; omega) | exact disjC ht12 (fun m hm => by have := ht8 m hm; omega) | exact disjC ht12 (fun m hm => by have := hw9 m hm; omega) | exact disjC ht12 (fun m hm => by have := ht9 m hm; omega) | exact disjC ht12 (fun m hm => by have := hw10 m hm; omega) | exact disjC ht12 (fun m hm => by have := ht10 m hm; omega) | exact disjC ht12 (fun m hm => by have := hw11 m hm; omega) | exact disjC ht12 (fun m hm => by have := ht11 m hm; omega) | exact disjC ht12 (fun m hm => by have := hw12 m hm; omega)))]
      exact hk _ _ g12
end
end Go.Ev.R

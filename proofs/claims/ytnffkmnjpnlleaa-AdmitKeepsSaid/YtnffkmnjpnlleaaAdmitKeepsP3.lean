/- The law AdmitKeeps, part 3: what the functions answer, by their terms. No condition. -/
import Derived.Test.YtnffkmnjpnlleaaAdmitKeepsP2
set_option linter.unusedVariables false
set_option linter.unusedSimpArgs false
set_option maxRecDepth 100000
namespace Go.Ev.R
open Go Go.RowKit
theorem find_rise {k : K3} {l : List K3} (h : risingK l = true) : findK k l = [vi (plK k l), .bool (atK k l)] := by unfold findK; rw [if_pos h]
section
variable {N d : Nat} (hN : 100000 ≤ N) {h : T} {s : Nat} (hf : ∀ n, s ≤ n → h.get n = none)
include hN hf
theorem s41 (x : SU) (base clean : Int) {p : Option Addr} {len cap : Nat} {l : List K3} (r : Sl EK h p len cap l) (hl : len ≤ 5000) (k : K3) : PureS (D N (d + 9)) 41 [suval x, shval base p len cap clean, kval k] h s (fun v h' s' =>
    if judgeK x base clean l k = 0 then ∃ p', v = .tuple ⟨[shval (baseP x base l) p' ((restK x l).length + 1) ((restK x l).length + 1) (cleanP x clean l k), vi (plK k (restK x l)), vi 0]⟩ ∧ Own h' s p' ((restK x l).length + 1) (insK k (restK x l)) else v = .tuple ⟨[shval 0 none 0 0 0, vi 0, vi (judgeK x base clean l k)]⟩) := by
  refine PureS.of hf fun K pw Z g hp hk => ?_
  rw [D_41]; unfold F41; rw [app3_eq]
  unfold X41_11
  refine wp_boxA g hp fun h1 g1 c1 b1 => ?_
  refine wp_boxA g1 hp fun h2 g2 c2 b2 => ?_
  refine wp_boxA g2 hp fun h3 g3 c3 b3 => ?_
  try simp (disch := first | assumption | omega | (simp only [Int.ofNat_eq_natCast, neg_one]; done) | (simp only [Int.ofNat_eq_natCast, neg_one]; omega)) only [tysW, w_bindJ, w_logJ, w_ct, w_cf, w_gtt, w_gft, w_gtf, w_gff, w_pt, w_pf, w_lret, w_e0, w_e1, w_e2, w_nil, w_fun, w_nt, w_nf, w_add, w_sub, w_eqt, w_eqf, w_net, w_nef, w_ltt, w_ltf, w_let, w_lef, w_gtt', w_gtf', w_get, w_gef, toNat_of, of_add, cast_add, nth_0, nth_s, Nat.zero_add, Nat.reduceAdd, Nat.reduceMul, Nat.add_zero, List.length_cons, List.length_nil, List.drop_zero, List.drop_succ_cons, List.take_succ_cons, List.take_zero, List.take_nil, true_and, and_true, Int.toNat_natCast, List.append_nil, List.nil_append, List.cons_append]
  refine wp_boxA g3 hp fun h4 g4 c4 b4 => ?_
  replace b1 := ((c2.trans c3).trans c4).box b1 (by omega)
  replace b2 := (c3.trans c4).box b2 (by omega)
  replace b3 := c4.box b3 (by omega)
  simp only [suv, shv, kv] at b1 b2 b3
  have r4 := r.from hf g4
  have hlen := r.row.1
  try simp (disch := first | assumption | omega | (simp only [Int.ofNat_eq_natCast, neg_one]; done) | (simp only [Int.ofNat_eq_natCast, neg_one]; omega)) only [tysW, w_bindJ, w_logJ, w_ct, w_cf, w_gtt, w_gft, w_gtf, w_gff, w_pt, w_pf, w_lret, w_e0, w_e1, w_e2, w_nil, w_fun, w_nt, w_nf, w_add, w_sub, w_eqt, w_eqf, w_net, w_nef, w_ltt, w_ltf, w_let, w_lef, w_gtt', w_gtf', w_get, w_gef, toNat_of, of_add, cast_add, nth_0, nth_s, Nat.zero_add, Nat.reduceAdd, Nat.reduceMul, Nat.add_zero, List.length_cons, List.length_nil, List.drop_zero, List.drop_succ_cons, List.take_succ_cons, List.take_zero, List.take_nil, true_and, and_true, Int.toNat_natCast, List.append_nil, List.nil_append, List.cons_append, ldB b1, clB b1, ldBL b1, clBL b1, ldB b2, clB b2, ldBL b2, clBL b2, ldB b3, clB b3, ldBL b3, clBL b3]
  refine ValS.go g4 hp (s30 (d := d) hN g4.fresh x base clean r4 (by omega) k) fun h5 s5 g5 c5 => ?_
  have l5 := c5.le
  have B1 := c5.box b1 (by omega)
  have B2 := c5.box b2 (by omega)
  have B3 := c5.box b3 (by omega)
  have B4 := c5.box b4 (by omega)
  by_cases e1 : judgeK x base clean l k = 0
  case neg =>
    try simp (disch := first | assumption | omega | (simp only [Int.ofNat_eq_natCast, neg_one]; done) | (simp only [Int.ofNat_eq_natCast, neg_one]; omega)) only [tysW, w_bindJ, w_logJ, w_ct, w_cf, w_gtt, w_gft, w_gtf, w_gff, w_pt, w_pf, w_lret, w_e0, w_e1, w_e2, w_nil, w_fun, w_nt, w_nf, w_add, w_sub, w_eqt, w_eqf, w_net, w_nef, w_ltt, w_ltf, w_let, w_lef, w_gtt', w_gtf', w_get, w_gef, toNat_of, of_add, cast_add, nth_0, nth_s, Nat.zero_add, Nat.reduceAdd, Nat.reduceMul, Nat.add_zero, List.length_cons, List.length_nil, List.drop_zero, List.drop_succ_cons, List.take_succ_cons, List.take_zero, List.take_nil, true_and, and_true, Int.toNat_natCast, List.append_nil, List.nil_append, List.cons_append]
    refine wp_putF g5 hp B4 (by omega) (by simp) rfl fun h6 g6 b6 e6 => ?_
    simp only [overL] at b6
    try simp (disch := first | assumption | omega | (simp only [Int.ofNat_eq_natCast, neg_one]; done) | (simp only [Int.ofNat_eq_natCast, neg_one]; omega)) only [tysW, w_bindJ, w_logJ, w_ct, w_cf, w_gtt, w_gft, w_gtf, w_gff, w_pt, w_pf, w_lret, w_e0, w_e1, w_e2, w_nil, w_fun, w_nt, w_nf, w_add, w_sub, w_eqt, w_eqf, w_net, w_nef, w_ltt, w_ltf, w_let, w_lef, w_gtt', w_gtf', w_get, w_gef, toNat_of, of_add, cast_add, nth_0, nth_s, Nat.zero_add, Nat.reduceAdd, Nat.reduceMul, Nat.add_zero, List.length_cons, List.length_nil, List.drop_zero, List.drop_succ_cons, List.take_succ_cons, List.take_zero, List.take_nil, true_and, and_true, Int.toNat_natCast, List.append_nil, List.nil_append, List.cons_append, ldB b6, clB b6, ldBL b6, clBL b6]
    refine hk _ _ _ g6 ?_
    rw [if_neg e1]; rfl
  obtain ⟨ff, fk, ftw, ffl, ffu⟩ := judge_ok e1
  obtain ⟨f1, f2, f3, f4, f5, f6⟩ := fits_iff.1 ff
  obtain ⟨q1, q2, q3, q4, q5, q6⟩ := chk_keep f1
  rw [hlen] at f3 f5
  try simp (disch := first | assumption | omega | (simp only [Int.ofNat_eq_natCast, neg_one]; done) | (simp only [Int.ofNat_eq_natCast, neg_one]; omega)) only [tysW, w_bindJ, w_logJ, w_ct, w_cf, w_gtt, w_gft, w_gtf, w_gff, w_pt, w_pf, w_lret, w_e0, w_e1, w_e2, w_nil, w_fun, w_nt, w_nf, w_add, w_sub, w_eqt, w_eqf, w_net, w_nef, w_ltt, w_ltf, w_let, w_lef, w_gtt', w_gtf', w_get, w_gef, toNat_of, of_add, cast_add, nth_0, nth_s, Nat.zero_add, Nat.reduceAdd, Nat.reduceMul, Nat.add_zero, List.length_cons, List.length_nil, List.drop_zero, List.drop_succ_cons, List.take_succ_cons, List.take_zero, List.take_nil, true_and, and_true, Int.toNat_natCast, List.append_nil, List.nil_append, List.cons_append, ldB B1, clB B1, ldBL B1, clBL B1, ldB B2, clB B2, ldBL B2, clBL B2]
  refine PureS.goL g5 hp (s115o (d := d + 7) g5.fresh (r.from hf g5) (by omega)) fun v h6 s6 ts6 ws6 g6 c6 hv hw6 ht6 => ?_
  obtain ⟨p', rfl, ow⟩ := hv
  have l6 := c6.le
  have B1 := c6.box B1 (by omega)
  have B2 := c6.box B2 (by omega)
  have B3 := c6.box B3 (by omega)
  have B4 := c6.box B4 (by omega)
  unfold X41_10
  try simp (disch := first | assumption | omega | (simp only [Int.ofNat_eq_natCast, neg_one]; done) | (simp only [Int.ofNat_eq_natCast, neg_one]; omega)) only [tysW, w_bindJ, w_logJ, w_ct, w_cf, w_gtt, w_gft, w_gtf, w_gff, w_pt, w_pf, w_lret, w_e0, w_e1, w_e2, w_nil, w_fun, w_nt, w_nf, w_add, w_sub, w_eqt, w_eqf, w_net, w_nef, w_ltt, w_ltf, w_let, w_lef, w_gtt', w_gtf', w_get, w_gef, toNat_of, of_add, cast_add, nth_0, nth_s, Nat.zero_add, Nat.reduceAdd, Nat.reduceMul, Nat.add_zero, List.length_cons, List.length_nil, List.drop_zero, List.drop_succ_cons, List.take_succ_cons, List.take_zero, List.take_nil, true_and, and_true, Int.toNat_natCast, List.append_nil, List.nil_append, List.cons_append, ldB B2, clB B2, ldBL B2, clBL B2]
  refine wp_boxL g6 hp fun h7 g7 c7 b7 => ?_
  try simp (disch := first | assumption | omega | (simp only [Int.ofNat_eq_natCast, neg_one]; done) | (simp only [Int.ofNat_eq_natCast, neg_one]; omega)) only [tysW, w_bindJ, w_logJ, w_ct, w_cf, w_gtt, w_gft, w_gtf, w_gff, w_pt, w_pf, w_lret, w_e0, w_e1, w_e2, w_nil, w_fun, w_nt, w_nf, w_add, w_sub, w_eqt, w_eqf, w_net, w_nef, w_ltt, w_ltf, w_let, w_lef, w_gtt', w_gtf', w_get, w_gef, toNat_of, of_add, cast_add, nth_0, nth_s, Nat.zero_add, Nat.reduceAdd, Nat.reduceMul, Nat.add_zero, List.length_cons, List.length_nil, List.drop_zero, List.drop_succ_cons, List.take_succ_cons, List.take_zero, List.take_nil, true_and, and_true, Int.toNat_natCast, List.append_nil, List.nil_append, List.cons_append]
  refine wp_putL g7 hp b7 (by omega) (by simp) rfl fun h8 g8 b8 e8 => ?_
  simp only [overL] at b8
  unfold X41_9
  rw [wp_guard, if_pos (by repeat' (first | exact dynOk_nil _ _ | refine dyn_skip' ?_ | refine dyn_cons ?_ ?_ | exact allF_nil _ _ | refine allF_cons ?_ ?_ | exact disj_below hw6 (by omega) | exact disjA hw6 (by omega) | exact disjB hw6 (by omega) | exact disjC hw6 (by assumption) | exact disjD (fun m hm => by have := hw6 m hm; omega) | exact disj_below ht6 (by omega) | exact disjA ht6 (by omega) | exact disjB ht6 (by omega) | exact disjC ht6 (by assumption) | exact disjD (fun m hm => by have := ht6 m hm; omega) | exact disjN _ | exact disj1 (by omega) | exact disj2 (by omega) | exact disj3 (by assumption)))]
  replace B1 := (e8 s (by omega)).trans (c7.box B1 (by omega))
  replace B2 := (e8 (s + 1) (by omega)).trans (c7.box B2 (by omega))
  replace B3 := (e8 (s + 1 + 1) (by omega)).trans (c7.box B3 (by omega))
  replace B4 := (e8 (s + 1 + 1 + 1) (by omega)).trans (c7.box B4 (by omega))
  replace ow : Own h8 s p' len l := (ow.less (by omega)).but (s' := s6) g6.fresh (fun i hi hi' => by rw [e8 i (by omega)]; exact c7.keep i hi')
  try simp (disch := first | assumption | omega | (simp only [Int.ofNat_eq_natCast, neg_one]; done) | (simp only [Int.ofNat_eq_natCast, neg_one]; omega)) only [tysW, w_bindJ, w_logJ, w_ct, w_cf, w_gtt, w_gft, w_gtf, w_gff, w_pt, w_pf, w_lret, w_e0, w_e1, w_e2, w_nil, w_fun, w_nt, w_nf, w_add, w_sub, w_eqt, w_eqf, w_net, w_nef, w_ltt, w_ltf, w_let, w_lef, w_gtt', w_gtf', w_get, w_gef, toNat_of, of_add, cast_add, nth_0, nth_s, Nat.zero_add, Nat.reduceAdd, Nat.reduceMul, Nat.add_zero, List.length_cons, List.length_nil, List.drop_zero, List.drop_succ_cons, List.take_succ_cons, List.take_zero, List.take_nil, true_and, and_true, Int.toNat_natCast, List.append_nil, List.nil_append, List.cons_append, ldB B1, clB B1, ldBL B1, clBL B1, ldB B2, clB B2, ldBL B2, clBL B2]
  refine ValS.go g8 hp (s104 (d := d + 7) g8.fresh x base clean (r.from hf g8).row) fun h9 s9 g9 c9 => ?_
  have l9 := c9.le
  replace B1 := c9.box B1 (by omega)
  replace B2 := c9.box B2 (by omega)
  replace B3 := c9.box B3 (by omega)
  replace B4 := c9.box B4 (by omega)
  replace b8 := c9.box b8 (by omega)
  replace ow := ow.from g8.fresh c9
  -- what is behind
  have rest : ∀ (h1 : T) (s1 : Nat) (p2 : Option Addr) (len2 : Nat) (l2 : List K3) (base2 clean2 : Int), From s h h1 s1 → s6 < s1 → h1.get (s + 1 + 1) = some (.cells ⟨[vi k.a, vi k.b, vi k.c]⟩ 48 (0, 0)) → h1.get (s + 1 + 1 + 1) = some (.cells ⟨[.int .i64 (Int.ofNat 0), .slice none 0 0, .int .i64 (Int.ofNat 0)]⟩ 46 (0, 0)) → h1.get s6 = some (.cells ⟨[vi base2, .slice p2 len2 len2, vi clean2]⟩ 46 (0, 0)) →
      Sl EK h1 p2 len2 len2 l2 → (len2 = 0 → ∀ m o sp, p2 = some ⟨m, o, sp⟩ → ∃ c t f g, h1.get m = some (.cells c t (f, g)) ∧ (sp.isSome || Nat.beq f 0) = true) → l2 = restK x l → base2 = baseP x base l → min clean2 (plK k l2 : Int) = cleanP x clean l k →
      (X41_4 N (D N (d + 8)) K (.pointer (some ⟨s6, 0, none⟩)) (.pointer (some ⟨s + 1 + 1, 0, none⟩)) (.pointer (some ⟨s + 1 + 1 + 1, 0, none⟩)) s1).wp pw Z h1 := by
    intro h1 s1 p2 len2 l2 base2 clean2 g1 hs1 C3 C4 C8 r2 hreal hl2 hb2 hc2
    have hrr : risingK l2 = true := by rw [hl2]; exact (put_fits e1).2.2.2.2.2
    have hlen2 := r2.row.1
    have hle2 : len2 ≤ len := by rw [← hlen2, hl2, ← hlen]; unfold restK; split <;> simp
    have hpl := pl_le k l2
    unfold X41_4
    try simp (disch := first | assumption | omega | (simp only [Int.ofNat_eq_natCast, neg_one]; done) | (simp only [Int.ofNat_eq_natCast, neg_one]; omega)) only [tysW, w_bindJ, w_logJ, w_ct, w_cf, w_gtt, w_gft, w_gtf, w_gff, w_pt, w_pf, w_lret, w_e0, w_e1, w_e2, w_nil, w_fun, w_nt, w_nf, w_add, w_sub, w_eqt, w_eqf, w_net, w_nef, w_ltt, w_ltf, w_let, w_lef, w_gtt', w_gtf', w_get, w_gef, toNat_of, of_add, cast_add, nth_0, nth_s, Nat.zero_add, Nat.reduceAdd, Nat.reduceMul, Nat.add_zero, List.length_cons, List.length_nil, List.drop_zero, List.drop_succ_cons, List.take_succ_cons, List.take_zero, List.take_nil, true_and, and_true, Int.toNat_natCast, List.append_nil, List.nil_append, List.cons_append, ldB C3, clB C3, ldBL C3, clBL C3, ldB C8, clB C8, ldBL C8, clBL C8]
    refine ValS.go g1 hp (s61 (d := d + 2) hN g1.fresh r2.row (by omega) r2.emp k) fun h6 s6' g6' c6' => ?_
    have l6' := c6'.le
    replace C3 := c6'.box C3 (by omega)
    replace C4 := c6'.box C4 (by omega)
    replace C8 := c6'.box C8 (by omega)
    replace r2' := r2.from g1.fresh c6'
    rw [find_rise hrr]
    try simp (disch := first | assumption | omega | (simp only [Int.ofNat_eq_natCast, neg_one]; done) | (simp only [Int.ofNat_eq_natCast, neg_one]; omega)) only [tysW, w_bindJ, w_logJ, w_ct, w_cf, w_gtt, w_gft, w_gtf, w_gff, w_pt, w_pf, w_lret, w_e0, w_e1, w_e2, w_nil, w_fun, w_nt, w_nf, w_add, w_sub, w_eqt, w_eqf, w_net, w_nef, w_ltt, w_ltf, w_let, w_lef, w_gtt', w_gtf', w_get, w_gef, toNat_of, of_add, cast_add, nth_0, nth_s, Nat.zero_add, Nat.reduceAdd, Nat.reduceMul, Nat.add_zero, List.length_cons, List.length_nil, List.drop_zero, List.drop_succ_cons, List.take_succ_cons, List.take_zero, List.take_nil, true_and, and_true, Int.toNat_natCast, List.append_nil, List.nil_append, List.cons_append, ldB C8, clB C8, ldBL C8, clBL C8]
    unfold X41_3
    try simp (disch := first | assumption | omega | (simp only [Int.ofNat_eq_natCast, neg_one]; done) | (simp only [Int.ofNat_eq_natCast, neg_one]; omega)) only [tysW, w_bindJ, w_logJ, w_ct, w_cf, w_gtt, w_gft, w_gtf, w_gff, w_pt, w_pf, w_lret, w_e0, w_e1, w_e2, w_nil, w_fun, w_nt, w_nf, w_add, w_sub, w_eqt, w_eqf, w_net, w_nef, w_ltt, w_ltf, w_let, w_lef, w_gtt', w_gtf', w_get, w_gef, toNat_of, of_add, cast_add, nth_0, nth_s, Nat.zero_add, Nat.reduceAdd, Nat.reduceMul, Nat.add_zero, List.length_cons, List.length_nil, List.drop_zero, List.drop_succ_cons, List.take_succ_cons, List.take_zero, List.take_nil, true_and, and_true, Int.toNat_natCast, List.append_nil, List.nil_append, List.cons_append, ldB C8, clB C8, ldBL C8, clBL C8]
    refine r2'.cut3L (ab_to3 (i := len2) (Nat.le_refl _) (Nat.le_refl _) .i64 .i64) (by omega) (by omega) (by omega) (by omega) fun p3 ts3 r3 hb3 ht3 hsp3 hsame3 => ?_
    have ht3' : ∀ n ∈ ts3, n < s6' := fun n hn => (ht3 n hn).1 ▸ r2'.lt g6'.fresh (ht3 n hn).2
    try simp (disch := first | assumption | omega | (simp only [Int.ofNat_eq_natCast, neg_one]; done) | (simp only [Int.ofNat_eq_natCast, neg_one]; omega)) only [tysW, w_bindJ, w_logJ, w_ct, w_cf, w_gtt, w_gft, w_gtf, w_gff, w_pt, w_pf, w_lret, w_e0, w_e1, w_e2, w_nil, w_fun, w_nt, w_nf, w_add, w_sub, w_eqt, w_eqf, w_net, w_nef, w_ltt, w_ltf, w_let, w_lef, w_gtt', w_gtf', w_get, w_gef, toNat_of, of_add, cast_add, nth_0, nth_s, Nat.zero_add, Nat.reduceAdd, Nat.reduceMul, Nat.add_zero, List.length_cons, List.length_nil, List.drop_zero, List.drop_succ_cons, List.take_succ_cons, List.take_zero, List.take_nil, true_and, and_true, Int.toNat_natCast, List.append_nil, List.nil_append, List.cons_append, ldB C3, clB C3, ldBL C3, clBL C3]
    unfold X41_2
    try simp (disch := first | assumption | omega | (simp only [Int.ofNat_eq_natCast, neg_one]; done) | (simp only [Int.ofNat_eq_natCast, neg_one]; omega)) only [tysW, w_bindJ, w_logJ, w_ct, w_cf, w_gtt, w_gft, w_gtf, w_gff, w_pt, w_pf, w_lret, w_e0, w_e1, w_e2, w_nil, w_fun, w_nt, w_nf, w_add, w_sub, w_eqt, w_eqf, w_net, w_nef, w_ltt, w_ltf, w_let, w_lef, w_gtt', w_gtf', w_get, w_gef, toNat_of, of_add, cast_add, nth_0, nth_s, Nat.zero_add, Nat.reduceAdd, Nat.reduceMul, Nat.add_zero, List.length_cons, List.length_nil, List.drop_zero, List.drop_succ_cons, List.take_succ_cons, List.take_zero, List.take_nil, true_and, and_true, Int.toNat_natCast, List.append_nil, List.nil_append, List.cons_append]
    refine wp_newL (q := fun b => .slice (some ⟨b, 0, none⟩) 1 1) g6' hp fun h7 g7 c7 b7 => ?_
    simp only [Nat.sub_zero, List.drop_zero] at r3
    have r3' := r3.from g6'.fresh c7
    have rx : Row EK h7 (some ⟨s6', 0, none⟩) 1 [k] := .of_cells b7 rfl
    have htk : l2.take len2 = l2 := List.take_of_length_le (by omega)
    rw [htk] at r3'
    try simp (disch := first | assumption | omega | (simp only [Int.ofNat_eq_natCast, neg_one]; done) | (simp only [Int.ofNat_eq_natCast, neg_one]; omega)) only [tysW, w_bindJ, w_logJ, w_ct, w_cf, w_gtt, w_gft, w_gtf, w_gff, w_pt, w_pf, w_lret, w_e0, w_e1, w_e2, w_nil, w_fun, w_nt, w_nf, w_add, w_sub, w_eqt, w_eqf, w_net, w_nef, w_ltt, w_ltf, w_let, w_lef, w_gtt', w_gtf', w_get, w_gef, toNat_of, of_add, cast_add, nth_0, nth_s, Nat.zero_add, Nat.reduceAdd, Nat.reduceMul, Nat.add_zero, List.length_cons, List.length_nil, List.drop_zero, List.drop_succ_cons, List.take_succ_cons, List.take_zero, List.take_nil, true_and, and_true, Int.toNat_natCast, List.append_nil, List.nil_append, List.cons_append, Nat.sub_zero]
    refine PureS.goL g7 hp (s116 (d := d + 7) g7.fresh r3' (by omega) (by omega) ?_ rx) fun v h8 s8 ts8 ws8 g8 c8 hv hw8 ht8 => ?_
    · intro m o sp hpe
      by_cases h0 : len2 = 0
      · rw [hsame3 h0] at hpe
        obtain ⟨c, t, f, gg, q1, q2⟩ := hreal h0 m o sp hpe
        have hm1 := lt_of_some g1.fresh ⟨_, q1⟩
        exact ⟨⟨c, t, f, gg, (c6'.trans c7).box q1 hm1, q2⟩, fun h => absurd h0 h⟩
      · obtain ⟨m', o', hpe'⟩ := hsp3 h0
        rw [hpe'] at hpe
        cases hpe
        rw [hpe'] at r3'
        obtain ⟨c, t, f, gg, q1, q2⟩ := r3'.ok h0
        exact ⟨⟨c, t, f, gg, q1, rfl⟩, fun _ => rfl⟩
    · obtain ⟨n8, rfl, hn8, b9⟩ := hv
      have l8 := c8.le
      replace C4 := (c7.trans c8).box C4 (by omega)
      replace C8 := (c7.trans c8).box C8 (by omega)
      try simp (disch := first | assumption | omega | (simp only [Int.ofNat_eq_natCast, neg_one]; done) | (simp only [Int.ofNat_eq_natCast, neg_one]; omega)) only [tysW, w_bindJ, w_logJ, w_ct, w_cf, w_gtt, w_gft, w_gtf, w_gff, w_pt, w_pf, w_lret, w_e0, w_e1, w_e2, w_nil, w_fun, w_nt, w_nf, w_add, w_sub, w_eqt, w_eqf, w_net, w_nef, w_ltt, w_ltf, w_let, w_lef, w_gtt', w_gtf', w_get, w_gef, toNat_of, of_add, cast_add, nth_0, nth_s, Nat.zero_add, Nat.reduceAdd, Nat.reduceMul, Nat.add_zero, List.length_cons, List.length_nil, List.drop_zero, List.drop_succ_cons, List.take_succ_cons, List.take_zero, List.take_nil, true_and, and_true, Int.toNat_natCast, List.append_nil, List.nil_append, List.cons_append]
      refine wp_putL g8 hp C8 (by omega) (by simp) rfl fun h9 g9 b9' e9 => ?_
      simp only [overL] at b9'
      unfold X41_1
      rw [wp_guard, if_pos (by repeat' (first | exact dynOk_nil _ _ | refine dyn_skip' ?_ | refine dyn_cons ?_ ?_ | exact allF_nil _ _ | refine allF_cons ?_ ?_ | exact disj_below hw8 (by omega) | exact disjA hw8 (by omega) | exact disjB hw8 (by omega) | exact disjC hw8 (by assumption) | exact disjD (fun m hm => by have := hw8 m hm; omega) | exact disj_below ht8 (by omega) | exact disjA ht8 (by omega) | exact disjB ht8 (by omega) | exact disjC ht8 (by assumption) | exact disjD (fun m hm => by have := ht8 m hm; omega) | exact disj_below ht3' (by omega) | exact disjA ht3' (by omega) | exact disjB ht3' (by omega) | exact disjC ht3' (by assumption) | exact disjD (fun m hm => by have := ht3' m hm; omega) | exact disjN _ | exact disj1 (by omega) | exact disj2 (by omega) | exact disj3 (by assumption)))]
      try simp (disch := first | assumption | omega | (simp only [Int.ofNat_eq_natCast, neg_one]; done) | (simp only [Int.ofNat_eq_natCast, neg_one]; omega)) only [tysW, w_bindJ, w_logJ, w_ct, w_cf, w_gtt, w_gft, w_gtf, w_gff, w_pt, w_pf, w_lret, w_e0, w_e1, w_e2, w_nil, w_fun, w_nt, w_nf, w_add, w_sub, w_eqt, w_eqf, w_net, w_nef, w_ltt, w_ltf, w_let, w_lef, w_gtt', w_gtf', w_get, w_gef, toNat_of, of_add, cast_add, nth_0, nth_s, Nat.zero_add, Nat.reduceAdd, Nat.reduceMul, Nat.add_zero, List.length_cons, List.length_nil, List.drop_zero, List.drop_succ_cons, List.take_succ_cons, List.take_zero, List.take_nil, true_and, and_true, Int.toNat_natCast, List.append_nil, List.nil_append, List.cons_append, ldB b9', clB b9', ldBL b9', clBL b9', blt_min]
      refine wp_putF g9 hp b9' (by omega) (by simp) rfl fun h10 g10 b10 e10 => ?_
      simp only [overL] at b10
      replace C4 := (e10 (s + 1 + 1 + 1) (by omega)).trans ((e9 (s + 1 + 1 + 1) (by omega)).trans C4)
      try simp (disch := first | assumption | omega | (simp only [Int.ofNat_eq_natCast, neg_one]; done) | (simp only [Int.ofNat_eq_natCast, neg_one]; omega)) only [tysW, w_bindJ, w_logJ, w_ct, w_cf, w_gtt, w_gft, w_gtf, w_gff, w_pt, w_pf, w_lret, w_e0, w_e1, w_e2, w_nil, w_fun, w_nt, w_nf, w_add, w_sub, w_eqt, w_eqf, w_net, w_nef, w_ltt, w_ltf, w_let, w_lef, w_gtt', w_gtf', w_get, w_gef, toNat_of, of_add, cast_add, nth_0, nth_s, Nat.zero_add, Nat.reduceAdd, Nat.reduceMul, Nat.add_zero, List.length_cons, List.length_nil, List.drop_zero, List.drop_succ_cons, List.take_succ_cons, List.take_zero, List.take_nil, true_and, and_true, Int.toNat_natCast, List.append_nil, List.nil_append, List.cons_append, ldB b10, clB b10, ldBL b10, clBL b10]
      refine wp_putF g10 hp C4 (by omega) (by simp) rfl fun h11 g11 b11 e11 => ?_
      simp only [overL] at b11
      try simp (disch := first | assumption | omega | (simp only [Int.ofNat_eq_natCast, neg_one]; done) | (simp only [Int.ofNat_eq_natCast, neg_one]; omega)) only [tysW, w_bindJ, w_logJ, w_ct, w_cf, w_gtt, w_gft, w_gtf, w_gff, w_pt, w_pf, w_lret, w_e0, w_e1, w_e2, w_nil, w_fun, w_nt, w_nf, w_add, w_sub, w_eqt, w_eqf, w_net, w_nef, w_ltt, w_ltf, w_let, w_lef, w_gtt', w_gtf', w_get, w_gef, toNat_of, of_add, cast_add, nth_0, nth_s, Nat.zero_add, Nat.reduceAdd, Nat.reduceMul, Nat.add_zero, List.length_cons, List.length_nil, List.drop_zero, List.drop_succ_cons, List.take_succ_cons, List.take_zero, List.take_nil, true_and, and_true, Int.toNat_natCast, List.append_nil, List.nil_append, List.cons_append, ldB b11, clB b11, ldBL b11, clBL b11]
      refine hk _ _ _ g11 ?_
      rw [if_pos e1, ← hl2, ← hb2, ← hc2, hlen2]
      exact ⟨_, rfl, by rw [ins_length, hlen2], .inr ⟨n8, 4, rfl, by have := g6'.le; omega, by rw [e11 n8 (by have := g1.le; omega), e10 n8 (by omega), e9 n8 (by omega)]; exact b9, .inr ⟨rfl, by omega⟩⟩⟩
  cases e2 : fullK x l with
  | false =>
    try simp (disch := first | assumption | omega | (simp only [Int.ofNat_eq_natCast, neg_one]; done) | (simp only [Int.ofNat_eq_natCast, neg_one]; omega)) only [tysW, w_bindJ, w_logJ, w_ct, w_cf, w_gtt, w_gft, w_gtf, w_gff, w_pt, w_pf, w_lret, w_e0, w_e1, w_e2, w_nil, w_fun, w_nt, w_nf, w_add, w_sub, w_eqt, w_eqf, w_net, w_nef, w_ltt, w_ltf, w_let, w_lef, w_gtt', w_gtf', w_get, w_gef, toNat_of, of_add, cast_add, nth_0, nth_s, Nat.zero_add, Nat.reduceAdd, Nat.reduceMul, Nat.add_zero, List.length_cons, List.length_nil, List.drop_zero, List.drop_succ_cons, List.take_succ_cons, List.take_zero, List.take_nil, true_and, and_true, Int.toNat_natCast, List.append_nil, List.nil_append, List.cons_append]
    refine rest h9 s9 p' len l base clean g9 (by omega) B3 B4 b8 ow.sl (fun h0 m o sp hpe => ?_) (by unfold restK; rw [if_neg (by simp [e2])]) (by unfold baseP; rw [if_neg (by simp [e2])]) (by unfold cleanP restK; rw [if_neg (by simp [e2]), if_neg (by simp [e2])])
    obtain ⟨_, ⟨q1, _⟩ | ⟨n, f, q1, q2, q3, q4⟩⟩ := ow
    · rw [q1] at hpe; cases hpe
    · rw [q1] at hpe; cases hpe
      rcases q4 with rfl | ⟨_, q5⟩
      · exact ⟨_, _, _, _, q3, rfl⟩
      · exact absurd h0 q5
  | true =>
    have hfl : (l.length : Int) = x.keep := by simpa [fullK] using e2
    obtain ⟨y, hy⟩ := get_some (l := l) (i := 0) (by omega)
    have row9 := ow.sl.row
    try simp (disch := first | assumption | omega | (simp only [Int.ofNat_eq_natCast, neg_one]; done) | (simp only [Int.ofNat_eq_natCast, neg_one]; omega)) only [tysW, w_bindJ, w_logJ, w_ct, w_cf, w_gtt, w_gft, w_gtf, w_gff, w_pt, w_pf, w_lret, w_e0, w_e1, w_e2, w_nil, w_fun, w_nt, w_nf, w_add, w_sub, w_eqt, w_eqf, w_net, w_nef, w_ltt, w_ltf, w_let, w_lef, w_gtt', w_gtf', w_get, w_gef, toNat_of, of_add, cast_add, nth_0, nth_s, Nat.zero_add, Nat.reduceAdd, Nat.reduceMul, Nat.add_zero, List.length_cons, List.length_nil, List.drop_zero, List.drop_succ_cons, List.take_succ_cons, List.take_zero, List.take_nil, true_and, and_true, Int.toNat_natCast, List.append_nil, List.nil_append, List.cons_append, ldB b8, clB b8, ldBL b8, clBL b8, X41_8, X41_7, xa30 row9 (by omega), rowA0L row9 hy]
    have hcl1 : 1 ≤ clean := by
      have := (ffu e2).2
      omega
    refine ow.sl.cut3L (ab_all3 (a := 1) (i := len) (m := len) (by omega) (Nat.le_refl _) (Nat.le_refl _) .i64 .i64 .i64) (by omega) (Nat.le_refl _) (Nat.le_refl _) (Nat.le_refl _) fun p3 ts3 r3 hb3 ht3 hsp3 _ => ?_
    have ht3' : ∀ n ∈ ts3, n < s9 := fun n hn => (ht3 n hn).1 ▸ ow.sl.lt g9.fresh (ht3 n hn).2
    have hpb : blk p' < s9 := ow.sl.lt g9.fresh (by omega)
    have hpb2 : s6 ≠ blk p' := by
      obtain ⟨_, ⟨q1, q1'⟩ | ⟨n, f, q1, q2, q3, q4⟩⟩ := ow
      · omega
      · intro e
        rw [q1] at e
        have e : s6 = n := e
        rw [← e, b8] at q3
        have := congrArg (fun o => match o with | some (Obj.cells _ t _) => t | _ => 0) q3
        simp at this
    have hne3 : ∀ m ∈ ts3, m ≠ s6 := fun m hm => by rw [(ht3 m hm).1]; exact Ne.symm hpb2
    unfold X41_6
    try simp (disch := first | assumption | omega | (simp only [Int.ofNat_eq_natCast, neg_one]; done) | (simp only [Int.ofNat_eq_natCast, neg_one]; omega)) only [tysW, w_bindJ, w_logJ, w_ct, w_cf, w_gtt, w_gft, w_gtf, w_gff, w_pt, w_pf, w_lret, w_e0, w_e1, w_e2, w_nil, w_fun, w_nt, w_nf, w_add, w_sub, w_eqt, w_eqf, w_net, w_nef, w_ltt, w_ltf, w_let, w_lef, w_gtt', w_gtf', w_get, w_gef, toNat_of, of_add, cast_add, nth_0, nth_s, Nat.zero_add, Nat.reduceAdd, Nat.reduceMul, Nat.add_zero, List.length_cons, List.length_nil, List.drop_zero, List.drop_succ_cons, List.take_succ_cons, List.take_zero, List.take_nil, true_and, and_true, Int.toNat_natCast, List.append_nil, List.nil_append, List.cons_append, ldB b8, clB b8, ldBL b8, clBL b8]
    refine wp_putL g9 hp b8 (by omega) (by simp) rfl fun h10 g10 b10 e10 => ?_
    simp only [overL] at b10
    try simp (disch := first | assumption | omega | (simp only [Int.ofNat_eq_natCast, neg_one]; done) | (simp only [Int.ofNat_eq_natCast, neg_one]; omega)) only [tysW, w_bindJ, w_logJ, w_ct, w_cf, w_gtt, w_gft, w_gtf, w_gff, w_pt, w_pf, w_lret, w_e0, w_e1, w_e2, w_nil, w_fun, w_nt, w_nf, w_add, w_sub, w_eqt, w_eqf, w_net, w_nef, w_ltt, w_ltf, w_let, w_lef, w_gtt', w_gtf', w_get, w_gef, toNat_of, of_add, cast_add, nth_0, nth_s, Nat.zero_add, Nat.reduceAdd, Nat.reduceMul, Nat.add_zero, List.length_cons, List.length_nil, List.drop_zero, List.drop_succ_cons, List.take_succ_cons, List.take_zero, List.take_nil, true_and, and_true, Int.toNat_natCast, List.append_nil, List.nil_append, List.cons_append]
    refine wp_putL g10 hp b10 (by omega) (by simp) rfl fun h11 g11 b11 e11 => ?_
    simp only [overL] at b11
    unfold X41_5
    try simp (disch := first | assumption | omega | (simp only [Int.ofNat_eq_natCast, neg_one]; done) | (simp only [Int.ofNat_eq_natCast, neg_one]; omega)) only [tysW, w_bindJ, w_logJ, w_ct, w_cf, w_gtt, w_gft, w_gtf, w_gff, w_pt, w_pf, w_lret, w_e0, w_e1, w_e2, w_nil, w_fun, w_nt, w_nf, w_add, w_sub, w_eqt, w_eqf, w_net, w_nef, w_ltt, w_ltf, w_let, w_lef, w_gtt', w_gtf', w_get, w_gef, toNat_of, of_add, cast_add, nth_0, nth_s, Nat.zero_add, Nat.reduceAdd, Nat.reduceMul, Nat.add_zero, List.length_cons, List.length_nil, List.drop_zero, List.drop_succ_cons, List.take_succ_cons, List.take_zero, List.take_nil, true_and, and_true, Int.toNat_natCast, List.append_nil, List.nil_append, List.cons_append]
    refine wp_putL g11 hp b11 (by omega) (by simp) rfl fun h12 g12 b12 e12 => ?_
    simp only [overL] at b12
    rw [wp_guard, if_pos (by repeat' (first | exact dynOk_nil _ _ | refine dyn_skip' ?_ | refine dyn_cons ?_ ?_ | exact allF_nil _ _ | refine allF_cons ?_ ?_ | exact disj_below ht3' (by omega) | exact disjA ht3' (by omega) | exact disjB ht3' (by omega) | exact disjC ht3' (by assumption) | exact disjD (fun m hm => by have := ht3' m hm; omega) | exact disjN _ | exact disj1 (by omega) | exact disj2 (by omega) | exact disj3 (by assumption)))]
    have keep : ∀ n, n ≠ s6 → h12.get n = h9.get n := fun n hn => by rw [e12 n hn, e11 n hn, e10 n hn]
    have hdr : ((l.drop 1).take (len - 1)) = l.drop 1 := List.take_of_length_le (by simp; omega)
    rw [hdr] at r3
    obtain ⟨m3, o3, hp3⟩ := hsp3 (by omega)
    have hm3 : m3 = blk p' := by have := (hb3 (by omega)).1; rw [hp3] at this; exact this
    have hobj : ∃ c t f gg, h9.get m3 = some (.cells c t (f, gg)) ∧ (f = 0 ∨ f = EK.z + 1) := by
      have := ow.sl.ok (by omega)
      rw [← hm3] at this; exact this
    have r12 : Sl EK h12 p3 (len - 1) (len - 1) (l.drop 1) := by
      have hrow : Row EK h12 p3 (len - 1) (l.drop 1) := ⟨r3.row.1, r3.row.2.of_eq fun _ => keep _ (by rw [hp3]; show m3 ≠ s6; rw [hm3]; exact Ne.symm hpb2)⟩
      refine ⟨hrow, Nat.le_refl _, fun e => (by rw [hp3] at e; cases e), fun _ => ?_⟩
      obtain ⟨c, t, f, gg, q1, q2⟩ := hobj
      exact ⟨c, t, f, gg, by rw [hp3]; show h12.get m3 = _; rw [keep m3 (by rw [hm3]; exact Ne.symm hpb2)]; exact q1, q2⟩
    rw [show (clean - Int.ofNat 1) = clean - 1 from rfl] at b12
    refine rest h12 s9 p3 (len - 1) (l.drop 1) y.a (clean - 1) g12 (by omega) ((keep _ (by omega)).trans B3) ((keep _ (by omega)).trans B4) b12 r12 (fun _ m o sp hpe => ?_) (by unfold restK; rw [if_pos e2]) (by unfold baseP; rw [if_pos e2, hy]) (by unfold cleanP restK; rw [if_pos e2, if_pos e2])
    rw [hp3] at hpe
    cases hpe
    obtain ⟨c, t, f, gg, q1, q2⟩ := hobj
    exact ⟨c, t, f, gg, by rw [keep m3 (by rw [hm3]; exact Ne.symm hpb2)]; exact q1, rfl⟩
end
end Go.Ev.R

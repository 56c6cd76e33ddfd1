/- The law AdmitTells, part 3: what the functions answer, by their terms. No condition. -/
import Derived.Test.YtnffkmnjpnlleaaAdmitTellsP2
set_option linter.unusedVariables false
set_option linter.unusedSimpArgs false
set_option maxRecDepth 100000
namespace Go.Ev.R
open Go Go.RowKit
theorem find_rise {k : K3} {l : List K3} (h : risingK l = true) : findK k l = [vi (plK k l), .bool (atK k l)] := by unfold findK; rw [if_pos h]
section
variable {N d : Nat} (hN : 100000 ≤ N) {h : T} {s : Nat} (hf : ∀ n, s ≤ n → h.get n = none)
include hN hf
theorem s41 (x : SU) (base clean : Int) {p : Option Addr} {len cap : Nat} {l : List K3} (r : Sl EK h p len cap l) (hl : len ≤ 5000) (k : K3) : PureS (D N (d + 9)) 41 [suval x, shval base p len cap clean, kval k] h s (fun v h' s' =>
    if judgeK x base clean l k = 0 then ∃ p', v = .tuple ⟨[shval (baseP x base l) p' ((restK x l).length + 1) ((restK x l).length + 1) (cleanP x clean l k), vi (plK k (restK x l)), vi 0]⟩ ∧ Own h' s p' ((restK x l).length + 1) (insK k (restK x l)) else v = .tuple ⟨[shval 0 none 0 0 0, vi 0, vi (judgeK x base clean l k)]⟩) := by
  refine PureS.of hf fun K pw Z g hp hk => ?_
  rw [D_41]; unfold F41; rw [app3_eq]
  unfold X41_11
  refine wp_boxA g hp fun h1 g1 c1 b1 => ?_
  refine wp_boxA g1 hp fun h2 g2 c2 b2 => ?_
  refine wp_boxA g2 hp fun h3 g3 c3 b3 => ?_
  try simp (disch := first | assumption | omega | (simp only [Int.ofNat_eq_natCast, neg_one]; done) | (simp only [Int.ofNat_eq_natCast, neg_one]; omega)) only [tysW, w_bindJ, w_logJ, w_ct, w_cf, w_gtt, w_gft, w_gtf, w_gff, w_pt, w_pf, w_lret, w_e0, w_e1, w_e2, w_nil, w_fun, w_nt, w_nf, w_add, w_sub, w_eqt, w_eqf, w_net, w_nef, w_ltt, w_ltf, w_let, w_lef, w_gtt', w_gtf', w_get, w_gef, toNat_of, of_add, cast_add, nth_0, nth_s, Nat.zero_add, Nat.reduceAdd, Nat.reduceMul, Nat.add_zero, List.length_cons, List.length_nil, List.drop_zero, List.drop_succ_cons, List.take_succ_cons, List.take_zero, List.take_nil, true_and, and_true, Int.toNat_natCast, List.append_nil, List.nil_append, List.cons_append]
  refine wp_boxA g3 hp fun h4 g4 c4 b4 => ?_
  replace b1 := ((c2.trans c3).trans c4).box b1 (by omega)
  replace b2 := (c3.trans c4).box b2 (by omega)
  replace b3 := c4.box b3 (by omega)
  simp only [suv, shv, kv] at b1 b2 b3
  have r4 := r.from hf g4
  have hlen := r.row.1
  try simp (disch := first | assumption | omega | (simp only [Int.ofNat_eq_natCast, neg_one]; done) | (simp only [Int.ofNat_eq_natCast, neg_one]; omega)) only [tysW, w_bindJ, w_logJ, w_ct, w_cf, w_gtt, w_gft, w_gtf, w_gff, w_pt, w_pf, w_lret, w_e0, w_e1, w_e2, w_nil, w_fun, w_nt, w_nf, w_add, w_sub, w_eqt, w_eqf, w_net, w_nef, w_ltt, w_ltf, w_let, w_lef, w_gtt', w_gtf', w_get, w_gef, toNat_of, of_add, cast_add, nth_0, nth_s, Nat.zero_add, Nat.reduceAdd, Nat.reduceMul, Nat.add_zero, List.length_cons, List.length_nil, List.drop_zero, List.drop_succ_cons, List.take_succ_cons, List.take_zero, List.take_nil, true_and, and_true, Int.toNat_natCast, List.append_nil, List.nil_append, List.cons_append, ldB b1, clB b1, ldBL b1, clBL b1, ldB b2, clB b2, ldBL b2, clBL b2, ldB b3, clB b3, ldBL b3, clBL b3]
  refine ValS.go g4 hp (s30 (d := d) hN g4.fresh x base clean r4 (by omega) k) fun h5 s5 g5 c5 => ?_
  have l5 := c5.le
  have B1 := c5.box b1 (by omega)
  have B2 := c5.box b2 (by omega)
  have B3 := c5.box b3 (by omega)
  have B4 := c5.box b4 (by omega)
  by_cases e1 : judgeK x base clean l k = 0
  case neg =>
    try simp (disch := first | assumption | omega | (simp only [Int.ofNat_eq_natCast, neg_one]; done) | (simp only [Int.ofNat_eq_natCast, neg_one]; omega)) only [tysW, w_bindJ, w_logJ, w_ct, w_cf, w_gtt, w_gft, w_gtf, w_gff, w_pt, w_pf, w_lret, w_e0, w_e1, w_e2, w_nil, w_fun, w_nt, w_nf, w_add, w_sub, w_eqt, w_eqf, w_net, w_nef, w_ltt, w_ltf, w_let, w_lef, w_gtt', w_gtf', w_get, w_gef, toNat_of, of_add, cast_add, nth_0, nth_s, Nat.zero_add, Nat.reduceAdd, Nat.reduceMul, Nat.add_zero, List.length_cons, List.length_nil, List.drop_zero, List.drop_succ_cons, List.take_succ_cons, List.take_zero, List.take_nil, true_and, and_true, Int.toNat_natCast, List.append_nil, List.nil_append, List.cons_append]
    refine wp_putF g5 hp B4 (by omega) (by simp) rfl fun h6 g6 b6 e6 => ?_
    simp only [overL] at b6
    try simp (disch := first | assumption | omega | (simp only [Int.ofNat_eq_natCast, neg_one]; done) | (simp only [Int.ofNat_eq_natCast, neg_one]; omega)) only [tysW, w_bindJ, w_logJ, w_ct, w_cf, w_gtt, w_gft, w_gtf, w_gff, w_pt, w_pf, w_lret, w_e0, w_e1, w_e2, w_nil, w_fun, w_nt, w_nf, w_add, w_sub, w_eqt, w_eqf, w_net, w_nef, w_ltt, w_ltf, w_let, w_lef, w_gtt', w_gtf', w_get, w_gef, toNat_of, of_add, cast_add, nth_0, nth_s, Nat.zero_add, Nat.reduceAdd, Nat.reduceMul, Nat.add_zero, List.length_cons, List.length_nil, List.drop_zero, List.drop_succ_cons, List.take_succ_cons, List.take_zero, List.take_nil, true_and, and_true, Int.toNat_natCast, List.append_nil, List.nil_append, List.cons_append, ldB b6, clB b6, ldBL b6, clBL b6]
    refine hk _ _ _ g6 ?_
    rw [if_neg e1]; rfl
  obtain ⟨ff, fk, ftw, ffl, ffu⟩ := judge_ok e1
  obtain ⟨f1, f2, f3, f4, f5, f6⟩ := fits_iff.1 ff
  obtain ⟨q1, q2, q3, q4, q5, q6⟩ := chk_keep f1
  rw [hlen] at f3 f5
  try simp (disch := first | assumption | omega | (simp only [Int.ofNat_eq_natCast, neg_one]; done) | (simp only [Int.ofNat_eq_natCast, neg_one]; omega)) only [tysW, w_bindJ, w_logJ, w_ct, w_cf, w_gtt, w_gft, w_gtf, w_gff, w_pt, w_pf, w_lret, w_e0, w_e1, w_e2, w_nil, w_fun, w_nt, w_nf, w_add, w_sub, w_eqt, w_eqf, w_net, w_nef, w_ltt, w_ltf, w_let, w_lef, w_gtt', w_gtf', w_get, w_gef, toNat_of, of_add, cast_add, nth_0, nth_s, Nat.zero_add, Nat.reduceAdd, Nat.reduceMul, Nat.add_zero, List.length_cons, List.length_nil, List.drop_zero, List.drop_succ_cons, List.take_succ_cons, List.take_zero, List.take_nil, true_and, and_true, Int.toNat_natCast, List.append_nil, List.nil_append, List.cons_append, ldB B1, clB B1, ldBL B1, clBL B1, ldB B2, clB B2, ldBL B2, clBL B2]
  refine PureS.goL g5 hp (s115o (d := d + 7) g5.fresh (r.from hf g5) (by omega)) fun v h6 s6 ts6 ws6 g6 c6 hv hw6 ht6 => ?_
  obtain ⟨p', rfl, ow⟩ := hv
  have l6 := c6.le
  have B1 := c6.box B1 (by omega)
  have B2 := c6.box B2 (by omega)
  have B3 := c6.box B3 (by omega)
  have B4 := c6.box B4 (by omega)
  unfold X41_10
  try simp (disch := first | assumption | omega | (simp only [Int.ofNat_eq_natCast, neg_one]; done) | (simp only [Int.ofNat_eq_natCast, neg_one]; omega)) only [tysW, w_bindJ, w_logJ, w_ct, w_cf, w_gtt, w_gft, w_gtf, w_gff, w_pt, w_pf, w_lret, w_e0, w_e1, w_e2, w_nil, w_fun, w_nt, w_nf, w_add, w_sub, w_eqt, w_eqf, w_net, w_nef, w_ltt, w_ltf, w_let, w_lef, w_gtt', w_gtf', w_get, w_gef, toNat_of, of_add, cast_add, nth_0, nth_s, Nat.zero_add, Nat.reduceAdd, Nat.reduceMul, Nat.add_zero, List.length_cons, List.length_nil, List.drop_zero, List.drop_succ_cons, List.take_succ_cons, List.take_zero, List.take_nil, true_and, and_true, Int.toNat_natCast, List.append_nil, List.nil_append, List.cons_append, ldB B2, clB B2, ldBL B2, clBL B2]
  refine wp_boxL g6 hp fun h7 g7 c7 b7 => ?_
  try simp (disch := first | assumption | omega | (simp only [Int.ofNat_eq_natCast, neg_one]; done) | (simp only [Int.ofNat_eq_natCast, neg_one]; omega)) only [tysW, w_bindJ, w_logJ, w_ct, w_cf, w_gtt, w_gft, w_gtf, w_gff, w_pt, w_pf, w_lret, w_e0, w_e1, w_e2, w_nil, w_fun, w_nt, w_nf, w_add, w_sub, w_eqt, w_eqf, w_net, w_nef, w_ltt, w_ltf, w_let, w_lef, w_gtt', w_gtf', w_get, w_gef, toNat_of, of_add, cast_add, nth_0, nth_s, Nat.zero_add, Nat.reduceAdd, Nat.reduceMul, Nat.add_zero, List.length_cons, List.length_nil, List.drop_zero, List.drop_succ_cons, List.take_succ_cons, List.take_zero, List.take_nil, true_and, and_true, Int.toNat_natCast, List.append_nil, List.nil_append, List.cons_append]
  refine wp_putL g7 hp b7 (by omega) (by simp) rfl fun h8 g8 b8 e8 => ?_
  simp only [overL] at b8
  unfold X41_9
  rw [wp_guard, if_pos (by repeat' (first | exact dynOk_nil _ _ | refine dyn_skip' ?_ | refine dyn_cons ?_ ?_ | exact allF_nil _ _ | refine allF_cons ?_ ?_ | exact disj_below hw6 (by omega) | exact disjA hw6 (by omega) | exact disjB hw6 (by omega) | exact disjC hw6 (by assumption) | exact disjD (fun m hm => by have := hw6 m hm; omega) | exact disj_below ht6 (by omega) | exact disjA ht6 (by omega) | exact disjB ht6 (by omega) | exact disjC ht6 (by assumption) | exact disjD (fun m hm => by have := ht6 m hm; omega) | exact disjN _ | exact disj1 (by omega) | exact disj2 (by omega) | exact disj3 (by assumption) | exact disjC hw6 (fun m hm => by have := ht6 m hm; omega) | exact disjC ht6 (fun m hm => by have := hw6 m hm; omega)))]
  replace B1 := (e8 s (by omega)).trans (c7.box B1 (by omega))
  replace B2 := (e8 (s + 1) (by omega)).trans (c7.box B2 (by omega))
  replace B3 := (e8 (s + 1 + 1) (by omega)).trans (c7.box B3 (by omega))
  replace B4 := (e8 (s + 1 + 1 + 1) (by omega)).trans (c7.box B4 (by omega))
  replace ow : Own h8 s p' len l := (ow.less (by omega)).but (s' := s6) g6.fresh (fun i hi hi' => by rw [e8 i (by omega)]; exact c7.keep i hi')
  try simp (disch := first | assumption | omega | (simp only [Int.ofNat_eq_natCast, neg_one]; done) | (simp only [Int.ofNat_eq_natCast, neg_one]; omega)) only [tysW, w_bindJ, w_logJ, w_ct, w_cf, w_gtt, w_gft, w_gtf, w_gff, w_pt, w_pf, w_lret, w_e0, w_e1, w_e2, w_nil, w_fun, w_nt, w_nf, w_add, w_sub, w_eqt, w_eqf, w_net, w_nef, w_ltt, w_ltf, w_let, w_lef, w_gtt', w_gtf', w_get, w_gef, toNat_of, of_add, cast_add, nth_0, nth_s, Nat.zero_add, Nat.reduceAdd, Nat.reduceMul, Nat.add_zero, List.length_cons, List.length_nil, List.drop_zero, List.drop_succ_cons, List.take_succ_cons, List.take_zero, List.take_nil, true_and, and_true, Int.toNat_natCast, List.append_nil, List.nil_append, List.cons_append, ldB B1, clB B1, ldBL B1, clBL B1, ldB B2, clB B2, ldBL B2, clBL B2]
  refine ValS.go g8 hp (s104 (d := d + 7) g8.fresh x base clean (r.from hf g8).row) fun h9 s9 g9 c9 => ?_
  have l9 := c9.le
  replace B1 := c9.box B1 (by omega)
  replace B2 := c9.box B2 (by omega)
  replace B3 := c9.box B3 (by omega)
  replace B4 := c9.box B4 (by omega)
  replace b8 := c9.box b8 (by omega)
  replace ow := ow.from g8.fresh c9
  -- what is behind
  have rest : ∀ (h1 : T) (s1 : Nat) (p2 : Option Addr) (len2 : Nat) (l2 : List K3) (base2 clean2 : Int), From s h h1 s1 → s6 < s1 → h1.get (s + 1 + 1) = some (.cells ⟨[vi k.a, vi k.b, vi k.c]⟩ 48 (0, 0)) → h1.get (s + 1 + 1 + 1) = some (.cells ⟨[.int .i64 (Int.ofNat 0), .slice none 0 0, .int .i64 (Int.ofNat 0)]⟩ 46 (0, 0)) → h1.get s6 = some (.cells ⟨[vi base2, .slice p2 len2 len2, vi clean2]⟩ 46 (0, 0)) →
      Sl EK h1 p2 len2 len2 l2 → (len2 = 0 → ∀ m o sp, p2 = some ⟨m, o, sp⟩ → ∃ c t f g, h1.get m = some (.cells c t (f, g)) ∧ (sp.isSome || Nat.beq f 0) = true) → l2 = restK x l → base2 = baseP x base l → min clean2 (plK k l2 : Int) = cleanP x clean l k →
      (X41_4 N (D N (d + 8)) K (.pointer (some ⟨s6, 0, none⟩)) (.pointer (some ⟨s + 1 + 1, 0, none⟩)) (.pointer (some ⟨s + 1 + 1 + 1, 0, none⟩)) s1).wp pw Z h1 := by
    intro h1 s1 p2 len2 l2 base2 clean2 g1 hs1 C3 C4 C8 r2 hreal hl2 hb2 hc2
    have hrr : risingK l2 = true := by rw [hl2]; exact (put_fits e1).2.2.2.2.2
    have hlen2 := r2.row.1
    have hle2 : len2 ≤ len := by rw [← hlen2, hl2, ← hlen]; unfold restK; split <;> simp
    have hpl := pl_le k l2
    unfold X41_4
    try simp (disch := first | assumption | omega | (simp only [Int.ofNat_eq_natCast, neg_one]; done) | (simp only [Int.ofNat_eq_natCast, neg_one]; omega)) only [tysW, w_bindJ, w_logJ, w_ct, w_cf, w_gtt, w_gft, w_gtf, w_gff, w_pt, w_pf, w_lret, w_e0, w_e1, w_e2, w_nil, w_fun, w_nt, w_nf, w_add, w_sub, w_eqt, w_eqf, w_net, w_nef, w_ltt, w_ltf, w_let, w_lef, w_gtt', w_gtf', w_get, w_gef, toNat_of, of_add, cast_add, nth_0, nth_s, Nat.zero_add, Nat.reduceAdd, Nat.reduceMul, Nat.add_zero, List.length_cons, List.length_nil, List.drop_zero, List.drop_succ_cons, List.take_succ_cons, List.take_zero, List.take_nil, true_and, and_true, Int.toNat_natCast, List.append_nil, List.nil_append, List.cons_append, ldB C3, clB C3, ldBL C3, clBL C3, ldB C8, clB C8, ldBL C8, clBL C8]
    refine ValS.go g1 hp (s61 (d := d + 2) hN g1.fresh r2.row (by omega) r2.emp k) fun h6 s6' g6' c6' => ?_
    have l6' := c6'.le
    replace C3 := c6'.box C3 (by omega)
    replace C4 := c6'.box C4 (by omega)
    replace C8 := c6'.box C8 (by omega)
    replace r2' := r2.from g1.fresh c6'
    rw [find_rise hrr]
    try simp (disch := first | assumption | omega | (simp only [Int.ofNat_eq_natCast, neg_one]; done) | (simp only [Int.ofNat_eq_natCast, neg_one]; omega)) only [tysW, w_bindJ, w_logJ, w_ct, w_cf, w_gtt, w_gft, w_gtf, w_gff, w_pt, w_pf, w_lret, w_e0, w_e1, w_e2, w_nil, w_fun, w_nt, w_nf, w_add, w_sub, w_eqt, w_eqf, w_net, w_nef, w_ltt, w_ltf, w_let, w_lef, w_gtt', w_gtf', w_get, w_gef, toNat_of, of_add, cast_add, nth_0, nth_s, Nat.zero_add, Nat.reduceAdd, Nat.reduceMul, Nat.add_zero, List.length_cons, List.length_nil, List.drop_zero, List.drop_succ_cons, List.take_succ_cons, List.take_zero, List.take_nil, true_and, and_true, Int.toNat_natCast, List.append_nil, List.nil_append, List.cons_append, ldB C8, clB C8, ldBL C8, clBL C8]
    unfold X41_3
    try simp (disch := first | assumption | omega | (simp only [Int.ofNat_eq_natCast, neg_one]; done) | (simp only [Int.ofNat_eq_natCast, neg_one]; omega)) only [tysW, w_bindJ, w_logJ, w_ct, w_cf, w_gtt, w_gft, w_gtf, w_gff, w_pt, w_pf, w_lret, w_e0, w_e1, w_e2, w_nil, w_fun, w_nt, w_nf, w_add, w_sub, w_eqt, w_eqf, w_net, w_nef, w_ltt, w_ltf, w_let, w_lef, w_gtt', w_gtf', w_get, w_gef, toNat_of, of_add, cast_add, nth_0, nth_s, Nat.zero_add, Nat.reduceAdd, Nat.reduceMul, Nat.add_zero, List.length_cons, List.length_nil, List.drop_zero, List.drop_succ_cons, List.take_succ_cons, List.take_zero, List.take_nil, true_and, and_true, Int.toNat_natCast, List.append_nil, List.nil_append, List.cons_append, ldB C8, clB C8, ldBL C8, clBL C8]
    refine r2'.cut3L (ab_to3 (i := len2) (Nat.le_refl _) (Nat.le_refl _) .i64 .i64) (by omega) (by omega) (by omega) (by omega) fun p3 ts3 r3 hb3 ht3 hsp3 hsame3 => ?_
    have ht3' : ∀ n ∈ ts3, n < s6' := fun n hn => (ht3 n hn).1 ▸ r2'.lt g6'.fresh (ht3 n hn).2
    try simp (disch := first | assumption | omega | (simp only [Int.ofNat_eq_natCast, neg_one]; done) | (simp only [Int.ofNat_eq_natCast, neg_one]; omega)) only [tysW, w_bindJ, w_logJ, w_ct, w_cf, w_gtt, w_gft, w_gtf, w_gff, w_pt, w_pf, w_lret, w_e0, w_e1, w_e2, w_nil, w_fun, w_nt, w_nf, w_add, w_sub, w_eqt, w_eqf, w_net, w_nef, w_ltt, w_ltf, w_let, w_lef, w_gtt', w_gtf', w_get, w_gef, toNat_of, of_add, cast_add, nth_0, nth_s, Nat.zero_add, Nat.reduceAdd, Nat.reduceMul, Nat.add_zero, List.length_cons, List.length_nil, List.drop_zero, List.drop_succ_cons, List.take_succ_cons, List.take_zero, List.take_nil, true_and, and_true, Int.toNat_natCast, List.append_nil, List.nil_append, List.cons_append, ldB C3, clB C3, ldBL C3, clBL C3]
    unfold X41_2
    try simp (disch := first | assumption | omega | (simp only [Int.ofNat_eq_natCast, neg_one]; done) | (simp only [Int.ofNat_eq_natCast, neg_one]; omega)) only [tysW, w_bindJ, w_logJ, w_ct, w_cf, w_gtt, w_gft, w_gtf, w_gff, w_pt, w_pf, w_lret, w_e0, w_e1, w_e2, w_nil, w_fun, w_nt, w_nf, w_add, w_sub, w_eqt, w_eqf, w_net, w_nef, w_ltt, w_ltf, w_let, w_lef, w_gtt', w_gtf', w_get, w_gef, toNat_of, of_add, cast_add, nth_0, nth_s, Nat.zero_add, Nat.reduceAdd, Nat.reduceMul, Nat.add_zero, List.length_cons, List.length_nil, List.drop_zero, List.drop_succ_cons, List.take_succ_cons, List.take_zero, List.take_nil, true_and, and_true, Int.toNat_natCast, List.append_nil, List.nil_append, List.cons_append]
    refine wp_newL (q := fun b => .slice (some ⟨b, 0, none⟩) 1 1) g6' hp fun h7 g7 c7 b7 => ?_
    simp only [Nat.sub_zero, List.drop_zero] at r3
    have r3' := r3.from g6'.fresh c7
    have rx : Row EK h7 (some ⟨s6', 0, none⟩) 1 [k] := .of_cells b7 rfl
    have htk : l2.take len2 = l2 := List.take_of_length_le (by omega)
    rw [htk] at r3'
    try simp (disch := first | assumption | omega | (simp only [Int.ofNat_eq_natCast, neg_one]; done) | (simp only [Int.ofNat_eq_natCast, neg_one]; omega)) only [tysW, w_bindJ, w_logJ, w_ct, w_cf, w_gtt, w_gft, w_gtf, w_gff, w_pt, w_pf, w_lret, w_e0, w_e1, w_e2, w_nil, w_fun, w_nt, w_nf, w_add, w_sub, w_eqt, w_eqf, w_net, w_nef, w_ltt, w_ltf, w_let, w_lef, w_gtt', w_gtf', w_get, w_gef, toNat_of, of_add, cast_add, nth_0, nth_s, Nat.zero_add, Nat.reduceAdd, Nat.reduceMul, Nat.add_zero, List.length_cons, List.length_nil, List.drop_zero, List.drop_succ_cons, List.take_succ_cons, List.take_zero, List.take_nil, true_and, and_true, Int.toNat_natCast, List.append_nil, List.nil_append, List.cons_append, Nat.sub_zero]
    refine PureS.goL g7 hp (s116 (d := d + 7) g7.fresh r3' (by omega) (by omega) ?_ rx) fun v h8 s8 ts8 ws8 g8 c8 hv hw8 ht8 => ?_
    · intro m o sp hpe
      by_cases h0 : len2 = 0
      · rw [hsame3 h0] at hpe
        obtain ⟨c, t, f, gg, q1, q2⟩ := hreal h0 m o sp hpe
        have hm1 := lt_of_some g1.fresh ⟨_, q1⟩
        exact ⟨⟨c, t, f, gg, (c6'.trans c7).box q1 hm1, q2⟩, fun h => absurd h0 h⟩
      · obtain ⟨m', o', hpe'⟩ := hsp3 h0
        rw [hpe'] at hpe
        cases hpe
        rw [hpe'] at r3'
        obtain ⟨c, t, f, gg, q1, q2⟩ := r3'.ok h0
        exact ⟨⟨c, t, f, gg, q1, rfl⟩, fun _ => rfl⟩
    · obtain ⟨n8, rfl, hn8, b9⟩ := hv
      have l8 := c8.le
      replace C4 := (c7.trans c8).box C4 (by omega)
      replace C8 := (c7.trans c8).box C8 (by omega)
      try simp (disch := first | assumption | omega | (simp only [Int.ofNat_eq_natCast, neg_one]; done) | (simp only [Int.ofNat_eq_natCast, neg_one]; omega)) only [tysW, w_bindJ, w_logJ, w_ct, w_cf, w_gtt, w_gft, w_gtf, w_gff, w_pt, w_pf, w_lret, w_e0, w_e1, w_e2, w_nil, w_fun, w_nt, w_nf, w_add, w_sub, w_eqt, w_eqf, w_net, w_nef, w_ltt, w_ltf, w_let, w_lef, w_gtt', w_gtf', w_get, w_gef, toNat_of, of_add, cast_add, nth_0, nth_s, Nat.zero_add, Nat.reduceAdd, Nat.reduceMul, Nat.add_zero, List.length_cons, List.length_nil, List.drop_zero, List.drop_succ_cons, List.take_succ_cons, List.take_zero, List.take_nil, true_and, and_true, Int.toNat_natCast, List.append_nil, List.nil_append, List.cons_append]
      refine wp_putL g8 hp C8 (by omega) (by simp) rfl fun h9 g9 b9' e9 => ?_
      simp only [overL] at b9'
      unfold X41_1
      rw [wp_guard, if_pos (by repeat' (first | exact dynOk_nil _ _ | refine dyn_skip' ?_ | refine dyn_cons ?_ ?_ | exact allF_nil _ _ | refine allF_cons ?_ ?_ | exact disj_below hw8 (by omega) | exact disjA hw8 (by omega) | exact disjB hw8 (by omega) | exact disjC hw8 (by assumption) | exact disjD (fun m hm => by have := hw8 m hm; omega) | exact disj_below ht8 (by omega) | exact disjA ht8 (by omega) | exact disjB ht8 (by omega) | exact disjC ht8 (by assumption) | exact disjD (fun m hm => by have := ht8 m hm; omega) | exact disj_below ht3' (by omega) | exact disjA ht3' (by omega) | exact disjB ht3' (by omega) | exact disjC ht3' (by assumption) | exact disjD (fun m hm => by have := ht3' m hm; omega) | exact disjN _ | exact disj1 (by omega) | exact disj2 (by omega) | exact disj3 (by assumption) | exact disjC hw8 (fun m hm => by have := ht8 m hm; omega) | exact disjC hw8 (fun m hm => by have := ht3' m hm; omega) | exact disjC ht8 (fun m hm => by have := hw8 m hm; omega) | exact disjC ht8 (fun m hm => by have := ht3' m hm; omega) | exact disjC ht3' (fun m hm => by have := hw8 m hm; omega) | exact disjC ht3' (fun m hm => by have := ht8 m hm; omega)))]
      try simp (disch := first | assumption | omega | (simp only [Int.ofNat_eq_natCast, neg_one]; done) | (simp only [Int.ofNat_eq_natCast, neg_one]; omega)) only [tysW, w_bindJ, w_logJ, w_ct, w_cf, w_gtt, w_gft, w_gtf, w_gff, w_pt, w_pf, w_lret, w_e0, w_e1, w_e2, w_nil, w_fun, w_nt, w_nf, w_add, w_sub, w_eqt, w_eqf, w_net, w_nef, w_ltt, w_ltf, w_let, w_lef, w_gtt', w_gtf', w_get, w_gef, toNat_of, of_add, cast_add, nth_0, nth_s, Nat.zero_add, Nat.reduceAdd, Nat.reduceMul, Nat.add_zero, List.length_cons, List.length_nil, List.drop_zero, List.drop_succ_cons, List.take_succ_cons, List.take_zero, List.take_nil, true_and, and_true, Int.toNat_natCast, List.append_nil, List.nil_append, List.cons_append, ldB b9', clB b9', ldBL b9', clBL b9', blt_min]
      refine wp_putF g9 hp b9' (by omega) (by simp) rfl fun h10 g10 b10 e10 => ?_
      simp only [overL] at b10
      replace C4 := (e10 (s + 1 + 1 + 1) (by omega)).trans ((e9 (s + 1 + 1 + 1) (by omega)).trans C4)
      try simp (disch := first | assumption | omega | (simp only [Int.ofNat_eq_natCast, neg_one]; done) | (simp only [Int.ofNat_eq_natCast, neg_one]; omega)) only [tysW, w_bindJ, w_logJ, w_ct, w_cf, w_gtt, w_gft, w_gtf, w_gff, w_pt, w_pf, w_lret, w_e0, w_e1, w_e2, w_nil, w_fun, w_nt, w_nf, w_add, w_sub, w_eqt, w_eqf, w_net, w_nef, w_ltt, w_ltf, w_let, w_lef, w_gtt', w_gtf', w_get, w_gef, toNat_of, of_add, cast_add, nth_0, nth_s, Nat.zero_add, Nat.reduceAdd, Nat.reduceMul, Nat.add_zero, List.length_cons, List.length_nil, List.drop_zero, List.drop_succ_cons, List.take_succ_cons, List.take_zero, List.take_nil, true_and, and_true, Int.toNat_natCast, List.append_nil, List.nil_append, List.cons_append, ldB b10, clB b10, ldBL b10, clBL b10]
      refine wp_putF g10 hp C4 (by omega) (by simp) rfl fun h11 g11 b11 e11 => ?_
      simp only [overL] at b11
      try simp (disch := first | assumption | omega | (simp only [Int.ofNat_eq_natCast, neg_one]; done) | (simp only [Int.ofNat_eq_natCast, neg_one]; omega)) only [tysW, w_bindJ, w_logJ, w_ct, w_cf, w_gtt, w_gft, w_gtf, w_gff, w_pt, w_pf, w_lret, w_e0, w_e1, w_e2, w_nil, w_fun, w_nt, w_nf, w_add, w_sub, w_eqt, w_eqf, w_net, w_nef, w_ltt, w_ltf, w_let, w_lef, w_gtt', w_gtf', w_get, w_gef, toNat_of, of_add, cast_add, nth_0, nth_s, Nat.zero_add, Nat.reduceAdd, Nat.reduceMul, Nat.add_zero, List.length_cons, List.length_nil, List.drop_zero, List.drop_succ_cons, List.take_succ_cons, List.take_zero, List.take_nil, true_and, and_true, Int.toNat_natCast, List.append_nil, List.nil_append, List.cons_append, ldB b11, clB b11, ldBL b11, clBL b11]
      refine hk _ _ _ g11 ?_
      rw [if_pos e1, ← hl2, ← hb2, ← hc2, hlen2]
      exact ⟨_, rfl, by rw [ins_length, hlen2], .inr ⟨n8, 4, rfl, by have := g6'.le; omega, by rw [e11 n8 (by have := g1.le; omega), e10 n8 (by omega), e9 n8 (by omega)]; exact b9, .inr ⟨rfl, by omega⟩⟩⟩
  cases e2 : fullK x l with
  | false =>
    try simp (disch := first | assumption | omega | (simp only [Int.ofNat_eq_natCast, neg_one]; done) | (simp only [Int.ofNat_eq_natCast, neg_one]; omega)) only [tysW, w_bindJ, w_logJ, w_ct, w_cf, w_gtt, w_gft, w_gtf, w_gff, w_pt, w_pf, w_lret, w_e0, w_e1, w_e2, w_nil, w_fun, w_nt, w_nf, w_add, w_sub, w_eqt, w_eqf, w_net, w_nef, w_ltt, w_ltf, w_let, w_lef, w_gtt', w_gtf', w_get, w_gef, toNat_of, of_add, cast_add, nth_0, nth_s, Nat.zero_add, Nat.reduceAdd, Nat.reduceMul, Nat.add_zero, List.length_cons, List.length_nil, List.drop_zero, List.drop_succ_cons, List.take_succ_cons, List.take_zero, List.take_nil, true_and, and_true, Int.toNat_natCast, List.append_nil, List.nil_append, List.cons_append]
    refine rest h9 s9 p' len l base clean g9 (by omega) B3 B4 b8 ow.sl (fun h0 m o sp hpe => ?_) (by unfold restK; rw [if_neg (by simp [e2])]) (by unfold baseP; rw [if_neg (by simp [e2])]) (by unfold cleanP restK; rw [if_neg (by simp [e2]), if_neg (by simp [e2])])
    obtain ⟨_, ⟨q1, _⟩ | ⟨n, f, q1, q2, q3, q4⟩⟩ := ow
    · rw [q1] at hpe; cases hpe
    · rw [q1] at hpe; cases hpe
      rcases q4 with rfl | ⟨_, q5⟩
      · exact ⟨_, _, _, _, q3, rfl⟩
      · exact absurd h0 q5
  | true =>
    have hfl : (l.length : Int) = x.keep := by simpa [fullK] using e2
    obtain ⟨y, hy⟩ := get_some (l := l) (i := 0) (by omega)
    have row9 := ow.sl.row
    try simp (disch := first | assumption | omega | (simp only [Int.ofNat_eq_natCast, neg_one]; done) | (simp only [Int.ofNat_eq_natCast, neg_one]; omega)) only [tysW, w_bindJ, w_logJ, w_ct, w_cf, w_gtt, w_gft, w_gtf, w_gff, w_pt, w_pf, w_lret, w_e0, w_e1, w_e2, w_nil, w_fun, w_nt, w_nf, w_add, w_sub, w_eqt, w_eqf, w_net, w_nef, w_ltt, w_ltf, w_let, w_lef, w_gtt', w_gtf', w_get, w_gef, toNat_of, of_add, cast_add, nth_0, nth_s, Nat.zero_add, Nat.reduceAdd, Nat.reduceMul, Nat.add_zero, List.length_cons, List.length_nil, List.drop_zero, List.drop_succ_cons, List.take_succ_cons, List.take_zero, List.take_nil, true_and, and_true, Int.toNat_natCast, List.append_nil, List.nil_append, List.cons_append, ldB b8, clB b8, ldBL b8, clBL b8, X41_8, X41_7, xa30 row9 (by omega), rowA0L row9 hy]
    have hcl1 : 1 ≤ clean := by
      have := (ffu e2).2
      omega
    refine ow.sl.cut3L (ab_all3 (a := 1) (i := len) (m := len) (by omega) (Nat.le_refl _) (Nat.le_refl _) .i64 .i64 .i64) (by omega) (Nat.le_refl _) (Nat.le_refl _) (Nat.le_refl _) fun p3 ts3 r3 hb3 ht3 hsp3 _ => ?_
    have ht3' : ∀ n ∈ ts3, n < s9 := fun n hn => (ht3 n hn).1 ▸ ow.sl.lt g9.fresh (ht3 n hn).2
    have hpb : blk p' < s9 := ow.sl.lt g9.fresh (by omega)
    have hpb2 : s6 ≠ blk p' := by
      obtain ⟨_, ⟨q1, q1'⟩ | ⟨n, f, q1, q2, q3, q4⟩⟩ := ow
      · omega
      · intro e
        rw [q1] at e
        have e : s6 = n := e
        rw [← e, b8] at q3
        have := congrArg (fun o => match o with | some (Obj.cells _ t _) => t | _ => 0) q3
        simp at this
    have hne3 : ∀ m ∈ ts3, m ≠ s6 := fun m hm => by rw [(ht3 m hm).1]; exact Ne.symm hpb2
    unfold X41_6
    try simp (disch := first | assumption | omega | (simp only [Int.ofNat_eq_natCast, neg_one]; done) | (simp only [Int.ofNat_eq_natCast, neg_one]; omega)) only [tysW, w_bindJ, w_logJ, w_ct, w_cf, w_gtt, w_gft, w_gtf, w_gff, w_pt, w_pf, w_lret, w_e0, w_e1, w_e2, w_nil, w_fun, w_nt, w_nf, w_add, w_sub, w_eqt, w_eqf, w_net, w_nef, w_ltt, w_ltf, w_let, w_lef, w_gtt', w_gtf', w_get, w_gef, toNat_of, of_add, cast_add, nth_0, nth_s, Nat.zero_add, Nat.reduceAdd, Nat.reduceMul, Nat.add_zero, List.length_cons, List.length_nil, List.drop_zero, List.drop_succ_cons, List.take_succ_cons, List.take_zero, List.take_nil, true_and, and_true, Int.toNat_natCast, List.append_nil, List.nil_append, List.cons_append, ldB b8, clB b8, ldBL b8, clBL b8]
    refine wp_putL g9 hp b8 (by omega) (by simp) rfl fun h10 g10 b10 e10 => ?_
    simp only [overL] at b10
    try simp (disch := first | assumption | omega | (simp only [Int.ofNat_eq_natCast, neg_one]; done) | (simp only [Int.ofNat_eq_natCast, neg_one]; omega)) only [tysW, w_bindJ, w_logJ, w_ct, w_cf, w_gtt, w_gft, w_gtf, w_gff, w_pt, w_pf, w_lret, w_e0, w_e1, w_e2, w_nil, w_fun, w_nt, w_nf, w_add, w_sub, w_eqt, w_eqf, w_net, w_nef, w_ltt, w_ltf, w_let, w_lef, w_gtt', w_gtf', w_get, w_gef, toNat_of, of_add, cast_add, nth_0, nth_s, Nat.zero_add, Nat.reduceAdd, Nat.reduceMul, Nat.add_zero, List.length_cons, List.length_nil, List.drop_zero, List.drop_succ_cons, List.take_succ_cons, List.take_zero, List.take_nil, true_and, and_true, Int.toNat_natCast, List.append_nil, List.nil_append, List.cons_append]
    refine wp_putL g10 hp b10 (by omega) (by simp) rfl fun h11 g11 b11 e11 => ?_
    simp only [overL] at b11
    unfold X41_5
    try simp (disch := first | assumption | omega | (simp only [Int.ofNat_eq_natCast, neg_one]; done) | (simp only [Int.ofNat_eq_natCast, neg_one]; omega)) only [tysW, w_bindJ, w_logJ, w_ct, w_cf, w_gtt, w_gft, w_gtf, w_gff, w_pt, w_pf, w_lret, w_e0, w_e1, w_e2, w_nil, w_fun, w_nt, w_nf, w_add, w_sub, w_eqt, w_eqf, w_net, w_nef, w_ltt, w_ltf, w_let, w_lef, w_gtt', w_gtf', w_get, w_gef, toNat_of, of_add, cast_add, nth_0, nth_s, Nat.zero_add, Nat.reduceAdd, Nat.reduceMul, Nat.add_zero, List.length_cons, List.length_nil, List.drop_zero, List.drop_succ_cons, List.take_succ_cons, List.take_zero, List.take_nil, true_and, and_true, Int.toNat_natCast, List.append_nil, List.nil_append, List.cons_append]
    refine wp_putL g11 hp b11 (by omega) (by simp) rfl fun h12 g12 b12 e12 => ?_
    simp only [overL] at b12
    rw [wp_guard, if_pos (by repeat' (first | exact dynOk_nil _ _ | refine dyn_skip' ?_ | refine dyn_cons ?_ ?_ | exact allF_nil _ _ | refine allF_cons ?_ ?_ | exact disj_below ht3' (by omega) | exact disjA ht3' (by omega) | exact disjB ht3' (by omega) | exact disjC ht3' (by assumption) | exact disjD (fun m hm => by have := ht3' m hm; omega) | exact disjN _ | exact disj1 (by omega) | exact disj2 (by omega) | exact disj3 (by assumption)))]
    have keep : ∀ n, n ≠ s6 → h12.get n = h9.get n := fun n hn => by rw [e12 n hn, e11 n hn, e10 n hn]
    have hdr : ((l.drop 1).take (len - 1)) = l.drop 1 := List.take_of_length_le (by simp; omega)
    rw [hdr] at r3
    obtain ⟨m3, o3, hp3⟩ := hsp3 (by omega)
    have hm3 : m3 = blk p' := by have := (hb3 (by omega)).1; rw [hp3] at this; exact this
    have hobj : ∃ c t f gg, h9.get m3 = some (.cells c t (f, gg)) ∧ (f = 0 ∨ f = EK.z + 1) := by
      have := ow.sl.ok (by omega)
      rw [← hm3] at this; exact this
    have r12 : Sl EK h12 p3 (len - 1) (len - 1) (l.drop 1) := by
      have hrow : Row EK h12 p3 (len - 1) (l.drop 1) := ⟨r3.row.1, r3.row.2.of_eq fun _ => keep _ (by rw [hp3]; show m3 ≠ s6; rw [hm3]; exact Ne.symm hpb2)⟩
      refine ⟨hrow, Nat.le_refl _, fun e => (by rw [hp3] at e; cases e), fun _ => ?_⟩
      obtain ⟨c, t, f, gg, q1, q2⟩ := hobj
      exact ⟨c, t, f, gg, by rw [hp3]; show h12.get m3 = _; rw [keep m3 (by rw [hm3]; exact Ne.symm hpb2)]; exact q1, q2⟩
    rw [show (clean - Int.ofNat 1) = clean - 1 from rfl] at b12
    refine rest h12 s9 p3 (len - 1) (l.drop 1) y.a (clean - 1) g12 (by omega) ((keep _ (by omega)).trans B3) ((keep _ (by omega)).trans B4) b12 r12 (fun _ m o sp hpe => ?_) (by unfold restK; rw [if_pos e2]) (by unfold baseP; rw [if_pos e2, hy]) (by unfold cleanP restK; rw [if_pos e2, if_pos e2])
    rw [hp3] at hpe
    cases hpe
    obtain ⟨c, t, f, gg, q1, q2⟩ := hobj
    exact ⟨c, t, f, gg, by rw [keep m3 (by rw [hm3]; exact Ne.symm hpb2)]; exact q1, rfl⟩
end
end Go.Ev.R
namespace Go.Ev.R
open Go Go.RowKit
section
variable {N d : Nat} (hN : 100000 ≤ N) {h : T} {s : Nat} (hf : ∀ n, s ≤ n → h.get n = none)
include hf
theorem s118 (n lo hi : Int) : ValS (D N (d + 1)) 118 [vi n, vi lo, vi hi] h s (.bool (wI n lo hi)) := by
  refine ValS.of hf fun K pw Z g hp hk => ?_
  rw [D_118]; unfold F118; rw [app3_eq]
  simp (disch := omega) only [tys, bindJ_eq, logJ_eq, wp_cond, wp_guard, gd_true, gd_false, pick_eq, add_eq, sub_eq, eq_eq, ne_eq, lt_eq, le_eq, gt_eq, ge_eq, shr_eq, shl_eq, quo_eq, rem_eq, not_eq, wp_log_ret, ext0, ext1, ext2, nil_eq, get_ne, get_eq, nth_0, nth_s, cells_agg, cells_int, cells_bool, cells_slice, cells_ptr, ro_zero, one_int, one_bool, one_slice, one_ptr, arr_size, overL, Nat.zero_add, Nat.reduceAdd, Nat.add_zero, List.length_cons, List.length_nil, List.all_cons, List.all_nil, Nat.reduceLeDiff, Nat.ble_eq, Bool.and_true, Bool.not_false, Bool.and_self, decide_true, List.drop_zero, List.drop_succ_cons, List.take_succ_cons, List.take_zero, List.take_nil, true_and, and_true, Int.ofNat_eq_natCast, neg_one, Int.toNat_natCast, Int.natCast_zero, Int.natCast_one, Int.cast_ofNat_Int, List.append_nil, List.nil_append, funX_eq, if_true, if_false, Bool.false_eq_true, Bool.not_true, Bool.not_false]
  unfold wI at hk
  by_cases h1 : lo ≤ n
  · simp (disch := omega) only [tys, bindJ_eq, logJ_eq, wp_cond, wp_guard, gd_true, gd_false, pick_eq, add_eq, sub_eq, eq_eq, ne_eq, lt_eq, le_eq, gt_eq, ge_eq, shr_eq, shl_eq, quo_eq, rem_eq, not_eq, wp_log_ret, ext0, ext1, ext2, nil_eq, get_ne, get_eq, nth_0, nth_s, cells_agg, cells_int, cells_bool, cells_slice, cells_ptr, ro_zero, one_int, one_bool, one_slice, one_ptr, arr_size, overL, Nat.zero_add, Nat.reduceAdd, Nat.add_zero, List.length_cons, List.length_nil, List.all_cons, List.all_nil, Nat.reduceLeDiff, Nat.ble_eq, Bool.and_true, Bool.not_false, Bool.and_self, decide_true, List.drop_zero, List.drop_succ_cons, List.take_succ_cons, List.take_zero, List.take_nil, true_and, and_true, Int.ofNat_eq_natCast, neg_one, Int.toNat_natCast, Int.natCast_zero, Int.natCast_one, Int.cast_ofNat_Int, List.append_nil, List.nil_append, funX_eq, if_true, if_false, Bool.false_eq_true, Bool.not_true, Bool.not_false, h1]
    simp only [h1, decide_true, Bool.true_and] at hk
    exact hk _ _ g
  · simp (disch := omega) only [tys, bindJ_eq, logJ_eq, wp_cond, wp_guard, gd_true, gd_false, pick_eq, add_eq, sub_eq, eq_eq, ne_eq, lt_eq, le_eq, gt_eq, ge_eq, shr_eq, shl_eq, quo_eq, rem_eq, not_eq, wp_log_ret, ext0, ext1, ext2, nil_eq, get_ne, get_eq, nth_0, nth_s, cells_agg, cells_int, cells_bool, cells_slice, cells_ptr, ro_zero, one_int, one_bool, one_slice, one_ptr, arr_size, overL, Nat.zero_add, Nat.reduceAdd, Nat.add_zero, List.length_cons, List.length_nil, List.all_cons, List.all_nil, Nat.reduceLeDiff, Nat.ble_eq, Bool.and_true, Bool.not_false, Bool.and_self, decide_true, List.drop_zero, List.drop_succ_cons, List.take_succ_cons, List.take_zero, List.take_nil, true_and, and_true, Int.ofNat_eq_natCast, neg_one, Int.toNat_natCast, Int.natCast_zero, Int.natCast_one, Int.cast_ofNat_Int, List.append_nil, List.nil_append, funX_eq, if_true, if_false, Bool.false_eq_true, Bool.not_true, Bool.not_false, h1, decide_false]
    simp only [h1, decide_false, Bool.false_and] at hk
    exact hk _ _ g
theorem s47 (x : SU) : ValS (D N (d + 2)) 47 [suval x] h s (vi (errI (chkS x))) := by
  refine ValS.of hf fun K pw Z g hp hk => ?_
  rw [D_47]; unfold F47; rw [app1_eq]
  refine wp_boxA g hp fun h1 g1 _ b1 => ?_
  replace hk := fun h' s' (g' : From (s + 1) h1 h' s') => hk h' s' (g1.trans g'); replace hp := fun n (hn : s + 1 ≤ n) => hp n (by omega); have g0 := From.refl g1.fresh
  unfold suv at b1
  simp (disch := omega) only [tys, bindJ_eq, logJ_eq, wp_cond, wp_guard, gd_true, gd_false, pick_eq, add_eq, sub_eq, eq_eq, ne_eq, lt_eq, le_eq, gt_eq, ge_eq, shr_eq, shl_eq, quo_eq, rem_eq, not_eq, wp_log_ret, ext0, ext1, ext2, nil_eq, get_ne, get_eq, nth_0, nth_s, cells_agg, cells_int, cells_bool, cells_slice, cells_ptr, ro_zero, one_int, one_bool, one_slice, one_ptr, arr_size, overL, Nat.zero_add, Nat.reduceAdd, Nat.add_zero, List.length_cons, List.length_nil, List.all_cons, List.all_nil, Nat.reduceLeDiff, Nat.ble_eq, Bool.and_true, Bool.not_false, Bool.and_self, decide_true, List.drop_zero, List.drop_succ_cons, List.take_succ_cons, List.take_zero, List.take_nil, true_and, and_true, Int.ofNat_eq_natCast, neg_one, Int.toNat_natCast, Int.natCast_zero, Int.natCast_one, Int.cast_ofNat_Int, List.append_nil, List.nil_append, ldB b1, clB b1, ldBL b1, clBL b1, funX_eq, if_true, if_false, Bool.false_eq_true, Bool.not_true, Bool.not_false]
  refine ValS.go g0 hp (s118 g0.fresh _ _ _) fun k1 s1 u1 _ => ?_
  cases e1 : wI x.keep 1 200 with
  | false =>
    simp (disch := omega) only [tys, bindJ_eq, logJ_eq, wp_cond, wp_guard, gd_true, gd_false, pick_eq, add_eq, sub_eq, eq_eq, ne_eq, lt_eq, le_eq, gt_eq, ge_eq, shr_eq, shl_eq, quo_eq, rem_eq, not_eq, wp_log_ret, ext0, ext1, ext2, nil_eq, get_ne, get_eq, nth_0, nth_s, cells_agg, cells_int, cells_bool, cells_slice, cells_ptr, ro_zero, one_int, one_bool, one_slice, one_ptr, arr_size, overL, Nat.zero_add, Nat.reduceAdd, Nat.add_zero, List.length_cons, List.length_nil, List.all_cons, List.all_nil, Nat.reduceLeDiff, Nat.ble_eq, Bool.and_true, Bool.not_false, Bool.and_self, decide_true, List.drop_zero, List.drop_succ_cons, List.take_succ_cons, List.take_zero, List.take_nil, true_and, and_true, Int.ofNat_eq_natCast, neg_one, Int.toNat_natCast, Int.natCast_zero, Int.natCast_one, Int.cast_ofNat_Int, List.append_nil, List.nil_append, ldB (u1.box b1 (by omega)), clB (u1.box b1 (by omega)), ldBL (u1.box b1 (by omega)), clBL (u1.box b1 (by omega)), funX_eq, if_true, if_false, Bool.false_eq_true, Bool.not_true, Bool.not_false, X47_1]
    have := hk _ _ u1
    simp only [errI, chkS, e1, Bool.true_and, Bool.false_and, Bool.and_self, Bool.false_eq_true, if_false] at this
    exact this
  | true =>
  simp (disch := omega) only [tys, bindJ_eq, logJ_eq, wp_cond, wp_guard, gd_true, gd_false, pick_eq, add_eq, sub_eq, eq_eq, ne_eq, lt_eq, le_eq, gt_eq, ge_eq, shr_eq, shl_eq, quo_eq, rem_eq, not_eq, wp_log_ret, ext0, ext1, ext2, nil_eq, get_ne, get_eq, nth_0, nth_s, cells_agg, cells_int, cells_bool, cells_slice, cells_ptr, ro_zero, one_int, one_bool, one_slice, one_ptr, arr_size, overL, Nat.zero_add, Nat.reduceAdd, Nat.add_zero, List.length_cons, List.length_nil, List.all_cons, List.all_nil, Nat.reduceLeDiff, Nat.ble_eq, Bool.and_true, Bool.not_false, Bool.and_self, decide_true, List.drop_zero, List.drop_succ_cons, List.take_succ_cons, List.take_zero, List.take_nil, true_and, and_true, Int.ofNat_eq_natCast, neg_one, Int.toNat_natCast, Int.natCast_zero, Int.natCast_one, Int.cast_ofNat_Int, List.append_nil, List.nil_append, ldB (u1.box b1 (by omega)), clB (u1.box b1 (by omega)), ldBL (u1.box b1 (by omega)), clBL (u1.box b1 (by omega)), funX_eq, if_true, if_false, Bool.false_eq_true, Bool.not_true, Bool.not_false, X47_1]
  refine ValS.go u1 hp (s118 u1.fresh _ _ _) fun k2 s2 u2 _ => ?_
  cases e2 : wI x.horizon 0 1099511627776 with
  | false =>
    simp (disch := omega) only [tys, bindJ_eq, logJ_eq, wp_cond, wp_guard, gd_true, gd_false, pick_eq, add_eq, sub_eq, eq_eq, ne_eq, lt_eq, le_eq, gt_eq, ge_eq, shr_eq, shl_eq, quo_eq, rem_eq, not_eq, wp_log_ret, ext0, ext1, ext2, nil_eq, get_ne, get_eq, nth_0, nth_s, cells_agg, cells_int, cells_bool, cells_slice, cells_ptr, ro_zero, one_int, one_bool, one_slice, one_ptr, arr_size, overL, Nat.zero_add, Nat.reduceAdd, Nat.add_zero, List.length_cons, List.length_nil, List.all_cons, List.all_nil, Nat.reduceLeDiff, Nat.ble_eq, Bool.and_true, Bool.not_false, Bool.and_self, decide_true, List.drop_zero, List.drop_succ_cons, List.take_succ_cons, List.take_zero, List.take_nil, true_and, and_true, Int.ofNat_eq_natCast, neg_one, Int.toNat_natCast, Int.natCast_zero, Int.natCast_one, Int.cast_ofNat_Int, List.append_nil, List.nil_append, ldB (u2.box b1 (by omega)), clB (u2.box b1 (by omega)), ldBL (u2.box b1 (by omega)), clBL (u2.box b1 (by omega)), funX_eq, if_true, if_false, Bool.false_eq_true, Bool.not_true, Bool.not_false, X47_1]
    have := hk _ _ u2
    simp only [errI, chkS, e1, e2, Bool.true_and, Bool.false_and, Bool.and_self, Bool.false_eq_true, if_false] at this
    exact this
  | true =>
  simp (disch := omega) only [tys, bindJ_eq, logJ_eq, wp_cond, wp_guard, gd_true, gd_false, pick_eq, add_eq, sub_eq, eq_eq, ne_eq, lt_eq, le_eq, gt_eq, ge_eq, shr_eq, shl_eq, quo_eq, rem_eq, not_eq, wp_log_ret, ext0, ext1, ext2, nil_eq, get_ne, get_eq, nth_0, nth_s, cells_agg, cells_int, cells_bool, cells_slice, cells_ptr, ro_zero, one_int, one_bool, one_slice, one_ptr, arr_size, overL, Nat.zero_add, Nat.reduceAdd, Nat.add_zero, List.length_cons, List.length_nil, List.all_cons, List.all_nil, Nat.reduceLeDiff, Nat.ble_eq, Bool.and_true, Bool.not_false, Bool.and_self, decide_true, List.drop_zero, List.drop_succ_cons, List.take_succ_cons, List.take_zero, List.take_nil, true_and, and_true, Int.ofNat_eq_natCast, neg_one, Int.toNat_natCast, Int.natCast_zero, Int.natCast_one, Int.cast_ofNat_Int, List.append_nil, List.nil_append, ldB (u2.box b1 (by omega)), clB (u2.box b1 (by omega)), ldBL (u2.box b1 (by omega)), clBL (u2.box b1 (by omega)), funX_eq, if_true, if_false, Bool.false_eq_true, Bool.not_true, Bool.not_false, X47_1]
  refine ValS.go u2 hp (s118 u2.fresh _ _ _) fun k3 s3 u3 _ => ?_
  cases e3 : wI x.ahead 0 1073741824 with
  | false =>
    simp (disch := omega) only [tys, bindJ_eq, logJ_eq, wp_cond, wp_guard, gd_true, gd_false, pick_eq, add_eq, sub_eq, eq_eq, ne_eq, lt_eq, le_eq, gt_eq, ge_eq, shr_eq, shl_eq, quo_eq, rem_eq, not_eq, wp_log_ret, ext0, ext1, ext2, nil_eq, get_ne, get_eq, nth_0, nth_s, cells_agg, cells_int, cells_bool, cells_slice, cells_ptr, ro_zero, one_int, one_bool, one_slice, one_ptr, arr_size, overL, Nat.zero_add, Nat.reduceAdd, Nat.add_zero, List.length_cons, List.length_nil, List.all_cons, List.all_nil, Nat.reduceLeDiff, Nat.ble_eq, Bool.and_true, Bool.not_false, Bool.and_self, decide_true, List.drop_zero, List.drop_succ_cons, List.take_succ_cons, List.take_zero, List.take_nil, true_and, and_true, Int.ofNat_eq_natCast, neg_one, Int.toNat_natCast, Int.natCast_zero, Int.natCast_one, Int.cast_ofNat_Int, List.append_nil, List.nil_append, ldB (u3.box b1 (by omega)), clB (u3.box b1 (by omega)), ldBL (u3.box b1 (by omega)), clBL (u3.box b1 (by omega)), funX_eq, if_true, if_false, Bool.false_eq_true, Bool.not_true, Bool.not_false, X47_1]
    have := hk _ _ u3
    simp only [errI, chkS, e1, e2, e3, Bool.true_and, Bool.false_and, Bool.and_self, Bool.false_eq_true, if_false] at this
    exact this
  | true =>
  simp (disch := omega) only [tys, bindJ_eq, logJ_eq, wp_cond, wp_guard, gd_true, gd_false, pick_eq, add_eq, sub_eq, eq_eq, ne_eq, lt_eq, le_eq, gt_eq, ge_eq, shr_eq, shl_eq, quo_eq, rem_eq, not_eq, wp_log_ret, ext0, ext1, ext2, nil_eq, get_ne, get_eq, nth_0, nth_s, cells_agg, cells_int, cells_bool, cells_slice, cells_ptr, ro_zero, one_int, one_bool, one_slice, one_ptr, arr_size, overL, Nat.zero_add, Nat.reduceAdd, Nat.add_zero, List.length_cons, List.length_nil, List.all_cons, List.all_nil, Nat.reduceLeDiff, Nat.ble_eq, Bool.and_true, Bool.not_false, Bool.and_self, decide_true, List.drop_zero, List.drop_succ_cons, List.take_succ_cons, List.take_zero, List.take_nil, true_and, and_true, Int.ofNat_eq_natCast, neg_one, Int.toNat_natCast, Int.natCast_zero, Int.natCast_one, Int.cast_ofNat_Int, List.append_nil, List.nil_append, ldB (u3.box b1 (by omega)), clB (u3.box b1 (by omega)), ldBL (u3.box b1 (by omega)), clBL (u3.box b1 (by omega)), funX_eq, if_true, if_false, Bool.false_eq_true, Bool.not_true, Bool.not_false, X47_1]
  refine ValS.go u3 hp (s118 u3.fresh _ _ _) fun k4 s4 u4 _ => ?_
  cases e4 : wI x.budget 1 200 with
  | false =>
    simp (disch := omega) only [tys, bindJ_eq, logJ_eq, wp_cond, wp_guard, gd_true, gd_false, pick_eq, add_eq, sub_eq, eq_eq, ne_eq, lt_eq, le_eq, gt_eq, ge_eq, shr_eq, shl_eq, quo_eq, rem_eq, not_eq, wp_log_ret, ext0, ext1, ext2, nil_eq, get_ne, get_eq, nth_0, nth_s, cells_agg, cells_int, cells_bool, cells_slice, cells_ptr, ro_zero, one_int, one_bool, one_slice, one_ptr, arr_size, overL, Nat.zero_add, Nat.reduceAdd, Nat.add_zero, List.length_cons, List.length_nil, List.all_cons, List.all_nil, Nat.reduceLeDiff, Nat.ble_eq, Bool.and_true, Bool.not_false, Bool.and_self, decide_true, List.drop_zero, List.drop_succ_cons, List.take_succ_cons, List.take_zero, List.take_nil, true_and, and_true, Int.ofNat_eq_natCast, neg_one, Int.toNat_natCast, Int.natCast_zero, Int.natCast_one, Int.cast_ofNat_Int, List.append_nil, List.nil_append, ldB (u4.box b1 (by omega)), clB (u4.box b1 (by omega)), ldBL (u4.box b1 (by omega)), clBL (u4.box b1 (by omega)), funX_eq, if_true, if_false, Bool.false_eq_true, Bool.not_true, Bool.not_false, X47_1]
    have := hk _ _ u4
    simp only [errI, chkS, e1, e2, e3, e4, Bool.true_and, Bool.false_and, Bool.and_self, Bool.false_eq_true, if_false] at this
    exact this
  | true =>
  simp (disch := omega) only [tys, bindJ_eq, logJ_eq, wp_cond, wp_guard, gd_true, gd_false, pick_eq, add_eq, sub_eq, eq_eq, ne_eq, lt_eq, le_eq, gt_eq, ge_eq, shr_eq, shl_eq, quo_eq, rem_eq, not_eq, wp_log_ret, ext0, ext1, ext2, nil_eq, get_ne, get_eq, nth_0, nth_s, cells_agg, cells_int, cells_bool, cells_slice, cells_ptr, ro_zero, one_int, one_bool, one_slice, one_ptr, arr_size, overL, Nat.zero_add, Nat.reduceAdd, Nat.add_zero, List.length_cons, List.length_nil, List.all_cons, List.all_nil, Nat.reduceLeDiff, Nat.ble_eq, Bool.and_true, Bool.not_false, Bool.and_self, decide_true, List.drop_zero, List.drop_succ_cons, List.take_succ_cons, List.take_zero, List.take_nil, true_and, and_true, Int.ofNat_eq_natCast, neg_one, Int.toNat_natCast, Int.natCast_zero, Int.natCast_one, Int.cast_ofNat_Int, List.append_nil, List.nil_append, ldB (u4.box b1 (by omega)), clB (u4.box b1 (by omega)), ldBL (u4.box b1 (by omega)), clBL (u4.box b1 (by omega)), funX_eq, if_true, if_false, Bool.false_eq_true, Bool.not_true, Bool.not_false, X47_1]
  refine ValS.go u4 hp (s118 u4.fresh _ _ _) fun k5 s5 u5 _ => ?_
  cases e5 : wI x.window 1 32 with
  | false =>
    simp (disch := omega) only [tys, bindJ_eq, logJ_eq, wp_cond, wp_guard, gd_true, gd_false, pick_eq, add_eq, sub_eq, eq_eq, ne_eq, lt_eq, le_eq, gt_eq, ge_eq, shr_eq, shl_eq, quo_eq, rem_eq, not_eq, wp_log_ret, ext0, ext1, ext2, nil_eq, get_ne, get_eq, nth_0, nth_s, cells_agg, cells_int, cells_bool, cells_slice, cells_ptr, ro_zero, one_int, one_bool, one_slice, one_ptr, arr_size, overL, Nat.zero_add, Nat.reduceAdd, Nat.add_zero, List.length_cons, List.length_nil, List.all_cons, List.all_nil, Nat.reduceLeDiff, Nat.ble_eq, Bool.and_true, Bool.not_false, Bool.and_self, decide_true, List.drop_zero, List.drop_succ_cons, List.take_succ_cons, List.take_zero, List.take_nil, true_and, and_true, Int.ofNat_eq_natCast, neg_one, Int.toNat_natCast, Int.natCast_zero, Int.natCast_one, Int.cast_ofNat_Int, List.append_nil, List.nil_append, ldB (u5.box b1 (by omega)), clB (u5.box b1 (by omega)), ldBL (u5.box b1 (by omega)), clBL (u5.box b1 (by omega)), funX_eq, if_true, if_false, Bool.false_eq_true, Bool.not_true, Bool.not_false, X47_1]
    have := hk _ _ u5
    simp only [errI, chkS, e1, e2, e3, e4, e5, Bool.true_and, Bool.false_and, Bool.and_self, Bool.false_eq_true, if_false] at this
    exact this
  | true =>
    simp (disch := omega) only [tys, bindJ_eq, logJ_eq, wp_cond, wp_guard, gd_true, gd_false, pick_eq, add_eq, sub_eq, eq_eq, ne_eq, lt_eq, le_eq, gt_eq, ge_eq, shr_eq, shl_eq, quo_eq, rem_eq, not_eq, wp_log_ret, ext0, ext1, ext2, nil_eq, get_ne, get_eq, nth_0, nth_s, cells_agg, cells_int, cells_bool, cells_slice, cells_ptr, ro_zero, one_int, one_bool, one_slice, one_ptr, arr_size, overL, Nat.zero_add, Nat.reduceAdd, Nat.add_zero, List.length_cons, List.length_nil, List.all_cons, List.all_nil, Nat.reduceLeDiff, Nat.ble_eq, Bool.and_true, Bool.not_false, Bool.and_self, decide_true, List.drop_zero, List.drop_succ_cons, List.take_succ_cons, List.take_zero, List.take_nil, true_and, and_true, Int.ofNat_eq_natCast, neg_one, Int.toNat_natCast, Int.natCast_zero, Int.natCast_one, Int.cast_ofNat_Int, List.append_nil, List.nil_append, ldB (u5.box b1 (by omega)), clB (u5.box b1 (by omega)), ldBL (u5.box b1 (by omega)), clBL (u5.box b1 (by omega)), funX_eq, if_true, if_false, Bool.false_eq_true, Bool.not_true, Bool.not_false, X47_1]
    have := hk _ _ u5
    simp only [errI, chkS, e1, e2, e3, e4, e5, Bool.and_self, if_true] at this
    exact this
theorem s50 (base clean : Int) {p : Option Addr} {len cap : Nat} {l : List K3} (r : Row EK h p len l) (hl : len ≤ 10000) : ValS (D N (d + 1)) 50 [shval base p len cap clean] h s (vi (newK base l)) := by
  refine ValS.of hf fun K pw Z g hp hk => ?_
  rw [D_50]; unfold F50; rw [app1_eq]
  refine wp_boxA g hp fun h1 g1 c1 b1 => ?_
  simp only [shv] at b1
  have r1 := g1.row hf r
  have := hk _ _ g1
  unfold newK at this
  by_cases h0 : len = 0
  · subst h0
    obtain rfl := List.eq_nil_of_length_eq_zero r.1
    simp (disch := omega) only [tys, bindJ_eq, logJ_eq, wp_cond, wp_guard, gd_true, gd_false, pick_eq, add_eq, sub_eq, eq_eq, ne_eq, lt_eq, le_eq, gt_eq, ge_eq, shr_eq, shl_eq, quo_eq, rem_eq, not_eq, wp_log_ret, ext0, ext1, ext2, nil_eq, get_ne, get_eq, nth_0, nth_s, cells_agg, cells_int, cells_bool, cells_slice, cells_ptr, ro_zero, one_int, one_bool, one_slice, one_ptr, arr_size, overL, Nat.zero_add, Nat.reduceAdd, Nat.add_zero, List.length_cons, List.length_nil, List.all_cons, List.all_nil, Nat.reduceLeDiff, Nat.ble_eq, Bool.and_true, Bool.not_false, Bool.and_self, decide_true, List.drop_zero, List.drop_succ_cons, List.take_succ_cons, List.take_zero, List.take_nil, true_and, and_true, Int.ofNat_eq_natCast, neg_one, Int.toNat_natCast, Int.natCast_zero, Int.natCast_one, Int.cast_ofNat_Int, List.append_nil, List.nil_append, ldB b1, clB b1, ldBL b1, clBL b1, funX_eq, if_true, if_false, Bool.false_eq_true, Bool.not_true, Bool.not_false]
    exact this
  · obtain ⟨x, hx⟩ := get_some (l := l) (i := len - 1) (by rw [r.1]; omega)
    rw [r.1, hx] at this
    simp (disch := omega) only [tys, bindJ_eq, logJ_eq, wp_cond, wp_guard, gd_true, gd_false, pick_eq, add_eq, sub_eq, eq_eq, ne_eq, lt_eq, le_eq, gt_eq, ge_eq, shr_eq, shl_eq, quo_eq, rem_eq, not_eq, wp_log_ret, ext0, ext1, ext2, nil_eq, get_ne, get_eq, nth_0, nth_s, cells_agg, cells_int, cells_bool, cells_slice, cells_ptr, ro_zero, one_int, one_bool, one_slice, one_ptr, arr_size, overL, Nat.zero_add, Nat.reduceAdd, Nat.add_zero, List.length_cons, List.length_nil, List.all_cons, List.all_nil, Nat.reduceLeDiff, Nat.ble_eq, Bool.and_true, Bool.not_false, Bool.and_self, decide_true, List.drop_zero, List.drop_succ_cons, List.take_succ_cons, List.take_zero, List.take_nil, true_and, and_true, Int.ofNat_eq_natCast, neg_one, Int.toNat_natCast, Int.natCast_zero, Int.natCast_one, Int.cast_ofNat_Int, List.append_nil, List.nil_append, ldB b1, clB b1, ldBL b1, clBL b1, funX_eq, if_true, if_false, Bool.false_eq_true, Bool.not_true, Bool.not_false, show ¬ (len : Int) = 0 by omega, decide_false, wrap_id (a := (len : Int) - 1) (by omega) (by omega)]
    have e : (len : Int) - 1 = ((len - 1 : Nat) : Int) := by omega
    rw [e]
    simp (disch := omega) only [tys, bindJ_eq, logJ_eq, wp_cond, wp_guard, gd_true, gd_false, pick_eq, add_eq, sub_eq, eq_eq, ne_eq, lt_eq, le_eq, gt_eq, ge_eq, shr_eq, shl_eq, quo_eq, rem_eq, not_eq, wp_log_ret, ext0, ext1, ext2, nil_eq, get_ne, get_eq, nth_0, nth_s, cells_agg, cells_int, cells_bool, cells_slice, cells_ptr, ro_zero, one_int, one_bool, one_slice, one_ptr, arr_size, overL, Nat.zero_add, Nat.reduceAdd, Nat.add_zero, List.length_cons, List.length_nil, List.all_cons, List.all_nil, Nat.reduceLeDiff, Nat.ble_eq, Bool.and_true, Bool.not_false, Bool.and_self, decide_true, List.drop_zero, List.drop_succ_cons, List.take_succ_cons, List.take_zero, List.take_nil, true_and, and_true, Int.ofNat_eq_natCast, neg_one, Int.toNat_natCast, Int.natCast_zero, Int.natCast_one, Int.cast_ofNat_Int, List.append_nil, List.nil_append, funX_eq, if_true, if_false, Bool.false_eq_true, Bool.not_true, Bool.not_false, xa3 r1 (j := ((len - 1 : Nat) : Int)) (by omega) (by omega)]
    rw [rowA r1 hx]
    exact this
include hN
theorem s120 {p : Option Addr} {len cap : Nat} {l : List K3} (r : Row EK h p len l) (hl : len ≤ 10000) (k : K3) : ValS (D N (d + 2)) 120 [.slice p len cap, kval k] h s (.bool (twinAny l k)) := by
  refine ValS.of hf fun K pw Z g hp hk => ?_
  rw [D_120]; unfold F120; rw [app2_eq]
  refine wp_boxA g hp fun h1 g1 c1 b1 => ?_
  replace hk := fun h' s' (g' : From (s + 1) h1 h' s') => hk h' s' (g1.trans g'); replace hp := fun n (hn : s + 1 ≤ n) => hp n (by omega); have g0 := From.refl g1.fresh
  have r0 := g1.row hf r
  have b1' := b1
  simp only [kv] at b1'
  try simp (disch := first | assumption | omega | (simp only [Int.ofNat_eq_natCast, neg_one]; done) | (simp only [Int.ofNat_eq_natCast, neg_one]; omega)) only [tysW, w_bindJ, w_logJ, w_ct, w_cf, w_gtt, w_gft, w_gtf, w_gff, w_pt, w_pf, w_lret, w_e0, w_e1, w_e2, w_nil, w_fun, w_nt, w_nf, w_add, w_sub, w_eqt, w_eqf, w_net, w_nef, w_ltt, w_ltf, w_let, w_lef, w_gtt', w_gtf', w_get, w_gef, toNat_of, of_add, cast_add, nth_0, nth_s, Nat.zero_add, Nat.reduceAdd, Nat.reduceMul, Nat.add_zero, List.length_cons, List.length_nil, List.drop_zero, List.drop_succ_cons, List.take_succ_cons, List.take_zero, List.take_nil, true_and, and_true, Int.toNat_natCast, List.append_nil, List.nil_append, List.cons_append]
  have loop : ∀ (B : (Value → Value → Nat → AM) → Value → Value → Nat → AM) (hB : ∀ H u i s', B H u i s' = X120_1 N (D N (d + 1)) K (.slice p len cap) (.pointer (some ⟨s, 0, none⟩)) (fun s => K (.bool false) s) H u i s') (m i : Nat) (u : Value) (h2 : T) (s2 : Nat), len - i < m → i ≤ len → twinAny (l.take i) k = false → From (s + 1) h1 h2 s2 →
      (loopJ m 2 (fun _ _ _ => AM.fail) B u (vi i) s2).wp pw Z h2 := by
    intro B hB m
    induction m with
    | zero => intro i u h2 s2 hm; omega
    | succ m ih =>
      intro i u h2 s2 hm hil ht g2
      have r1 := g2.row g1.fresh r0
      rw [loopJ_succ, hB]
      unfold X120_1
      by_cases hlt : i < len
      · obtain ⟨x, hx⟩ := get_some (l := l) (i := i) (by rw [r.1]; omega)
        try simp (disch := first | assumption | omega | (simp only [Int.ofNat_eq_natCast, neg_one]; done) | (simp only [Int.ofNat_eq_natCast, neg_one]; omega)) only [tysW, w_bindJ, w_logJ, w_ct, w_cf, w_gtt, w_gft, w_gtf, w_gff, w_pt, w_pf, w_lret, w_e0, w_e1, w_e2, w_nil, w_fun, w_nt, w_nf, w_add, w_sub, w_eqt, w_eqf, w_net, w_nef, w_ltt, w_ltf, w_let, w_lef, w_gtt', w_gtf', w_get, w_gef, toNat_of, of_add, cast_add, nth_0, nth_s, Nat.zero_add, Nat.reduceAdd, Nat.reduceMul, Nat.add_zero, List.length_cons, List.length_nil, List.drop_zero, List.drop_succ_cons, List.take_succ_cons, List.take_zero, List.take_nil, true_and, and_true, Int.toNat_natCast, List.append_nil, List.nil_append, List.cons_append, ldB (g2.box b1' (by omega)), clB (g2.box b1' (by omega)), ldBL (g2.box b1' (by omega)), clBL (g2.box b1' (by omega)), xa3 r1 (j := (i : Int)) (by omega) (by omega), row3L r1 hx]
        refine ValS.goL g2 hp (s161 (d := d) g2.fresh x k) fun h3 s3 ts3 ws3 g3 _ hw3 ht3 => ?_
        cases e : twinK x k with
        | true =>
          have := hk _ _ g3
          rw [twinAny_at hx e] at this
          try simp (disch := first | assumption | omega | (simp only [Int.ofNat_eq_natCast, neg_one]; done) | (simp only [Int.ofNat_eq_natCast, neg_one]; omega)) only [tysW, w_bindJ, w_logJ, w_ct, w_cf, w_gtt, w_gft, w_gtf, w_gff, w_pt, w_pf, w_lret, w_e0, w_e1, w_e2, w_nil, w_fun, w_nt, w_nf, w_add, w_sub, w_eqt, w_eqf, w_net, w_nef, w_ltt, w_ltf, w_let, w_lef, w_gtt', w_gtf', w_get, w_gef, toNat_of, of_add, cast_add, nth_0, nth_s, Nat.zero_add, Nat.reduceAdd, Nat.reduceMul, Nat.add_zero, List.length_cons, List.length_nil, List.drop_zero, List.drop_succ_cons, List.take_succ_cons, List.take_zero, List.take_nil, true_and, and_true, Int.toNat_natCast, List.append_nil, List.nil_append, List.cons_append]
          exact this
        | false =>
          try simp (disch := first | assumption | omega | (simp only [Int.ofNat_eq_natCast, neg_one]; done) | (simp only [Int.ofNat_eq_natCast, neg_one]; omega)) only [tysW, w_bindJ, w_logJ, w_ct, w_cf, w_gtt, w_gft, w_gtf, w_gff, w_pt, w_pf, w_lret, w_e0, w_e1, w_e2, w_nil, w_fun, w_nt, w_nf, w_add, w_sub, w_eqt, w_eqf, w_net, w_nef, w_ltt, w_ltf, w_let, w_lef, w_gtt', w_gtf', w_get, w_gef, toNat_of, of_add, cast_add, nth_0, nth_s, Nat.zero_add, Nat.reduceAdd, Nat.reduceMul, Nat.add_zero, List.length_cons, List.length_nil, List.drop_zero, List.drop_succ_cons, List.take_succ_cons, List.take_zero, List.take_nil, true_and, and_true, Int.toNat_natCast, List.append_nil, List.nil_append, List.cons_append]
          exact ih (i + 1) u h3 s3 (by omega) (by omega) (twinAny_take hx ht e) g3
      · obtain rfl : i = len := by omega
        try simp (disch := first | assumption | omega | (simp only [Int.ofNat_eq_natCast, neg_one]; done) | (simp only [Int.ofNat_eq_natCast, neg_one]; omega)) only [tysW, w_bindJ, w_logJ, w_ct, w_cf, w_gtt, w_gft, w_gtf, w_gff, w_pt, w_pf, w_lret, w_e0, w_e1, w_e2, w_nil, w_fun, w_nt, w_nf, w_add, w_sub, w_eqt, w_eqf, w_net, w_nef, w_ltt, w_ltf, w_let, w_lef, w_gtt', w_gtf', w_get, w_gef, toNat_of, of_add, cast_add, nth_0, nth_s, Nat.zero_add, Nat.reduceAdd, Nat.reduceMul, Nat.add_zero, List.length_cons, List.length_nil, List.drop_zero, List.drop_succ_cons, List.take_succ_cons, List.take_zero, List.take_nil, true_and, and_true, Int.toNat_natCast, List.append_nil, List.nil_append, List.cons_append]
        rw [List.take_of_length_le (by rw [r.1]; exact Nat.le_refl _)] at ht
        have := hk _ _ g2
        rw [ht] at this
        exact this
  exact loop _ (fun _ _ _ _ => rfl) N 0 _ h1 (s + 1) (by omega) (by omega) rfl g0
theorem s48 (x : SU) (base clean : Int) {p : Option Addr} {len cap : Nat} {l : List K3} (r : Sl EK h p len cap l) (hl : len ≤ 10000) : ValS (D N (d + 6)) 48 [suval x, shval base p len cap clean] h s (vi (errI (fitsK x base clean l))) := by
  refine ValS.of hf fun K pw Z g hp hk => ?_
  rw [D_48]; unfold F48; rw [app2_eq]
  refine wp_boxA g hp fun h1 g1 c1 b1 => ?_
  refine wp_boxA g1 hp fun h2 g2 c2 b2 => ?_
  replace hk := fun h' s' (g' : From (s + 1 + 1) h2 h' s') => hk h' s' (g2.trans g'); replace hp := fun n (hn : s + 1 + 1 ≤ n) => hp n (by omega); have g0 := From.refl g2.fresh
  replace b1 := c2.box b1 (by omega)
  have r0 := r.from hf g2
  simp only [suv, shv] at b1 b2
  have hlen := r.row.1
  have bad : ∀ h' s', From (s + 1 + 1) h2 h' s' → fitsK x base clean l = false → (K (i64 2) s').wp pw Z h' := fun h' s' g' e => by
    have := hk _ _ g'
    simp only [errI, e, Bool.false_eq_true, if_false] at this
    exact this
  have fin : ∀ h' s', From (s + 1 + 1) h2 h' s' → fitsK x base clean l = true → (K (i64 0) s').wp pw Z h' := fun h' s' g' e => by
    have := hk _ _ g'
    simp only [errI, e, if_true] at this
    exact this
  try simp (disch := first | assumption | omega | (simp only [Int.ofNat_eq_natCast, neg_one]; done) | (simp only [Int.ofNat_eq_natCast, neg_one]; omega)) only [tysW, w_bindJ, w_logJ, w_ct, w_cf, w_gtt, w_gft, w_gtf, w_gff, w_pt, w_pf, w_lret, w_e0, w_e1, w_e2, w_nil, w_fun, w_nt, w_nf, w_add, w_sub, w_eqt, w_eqf, w_net, w_nef, w_ltt, w_ltf, w_let, w_lef, w_gtt', w_gtf', w_get, w_gef, toNat_of, of_add, cast_add, nth_0, nth_s, Nat.zero_add, Nat.reduceAdd, Nat.reduceMul, Nat.add_zero, List.length_cons, List.length_nil, List.drop_zero, List.drop_succ_cons, List.take_succ_cons, List.take_zero, List.take_nil, true_and, and_true, Int.toNat_natCast, List.append_nil, List.nil_append, List.cons_append, ldB b1, clB b1, ldBL b1, clBL b1, ldB b2, clB b2, ldBL b2, clBL b2]
  refine ValS.go g0 hp (s47 (d := d + 3) g0.fresh x) fun k1 s1 u1 _ => ?_
  cases e1 : chkS x with
  | false =>
    try simp (disch := first | assumption | omega | (simp only [Int.ofNat_eq_natCast, neg_one]; done) | (simp only [Int.ofNat_eq_natCast, neg_one]; omega)) only [tysW, w_bindJ, w_logJ, w_ct, w_cf, w_gtt, w_gft, w_gtf, w_gff, w_pt, w_pf, w_lret, w_e0, w_e1, w_e2, w_nil, w_fun, w_nt, w_nf, w_add, w_sub, w_eqt, w_eqf, w_net, w_nef, w_ltt, w_ltf, w_let, w_lef, w_gtt', w_gtf', w_get, w_gef, toNat_of, of_add, cast_add, nth_0, nth_s, Nat.zero_add, Nat.reduceAdd, Nat.reduceMul, Nat.add_zero, List.length_cons, List.length_nil, List.drop_zero, List.drop_succ_cons, List.take_succ_cons, List.take_zero, List.take_nil, true_and, and_true, Int.toNat_natCast, List.append_nil, List.nil_append, List.cons_append, show errI false = 2 from rfl, X48_7, X48_6]
    exact bad _ _ u1 (by simp only [fitsK, e1, Bool.false_and])
  | true =>
  try simp (disch := first | assumption | omega | (simp only [Int.ofNat_eq_natCast, neg_one]; done) | (simp only [Int.ofNat_eq_natCast, neg_one]; omega)) only [tysW, w_bindJ, w_logJ, w_ct, w_cf, w_gtt, w_gft, w_gtf, w_gff, w_pt, w_pf, w_lret, w_e0, w_e1, w_e2, w_nil, w_fun, w_nt, w_nf, w_add, w_sub, w_eqt, w_eqf, w_net, w_nef, w_ltt, w_ltf, w_let, w_lef, w_gtt', w_gtf', w_get, w_gef, toNat_of, of_add, cast_add, nth_0, nth_s, Nat.zero_add, Nat.reduceAdd, Nat.reduceMul, Nat.add_zero, List.length_cons, List.length_nil, List.drop_zero, List.drop_succ_cons, List.take_succ_cons, List.take_zero, List.take_nil, true_and, and_true, Int.toNat_natCast, List.append_nil, List.nil_append, List.cons_append, ldB (u1.box b1 (by omega)), clB (u1.box b1 (by omega)), ldBL (u1.box b1 (by omega)), clBL (u1.box b1 (by omega)), ldB (u1.box b2 (by omega)), clB (u1.box b2 (by omega)), ldBL (u1.box b2 (by omega)), clBL (u1.box b2 (by omega)), show errI true = 0 from rfl]
  refine ValS.go u1 hp (s118 (d := d + 4) u1.fresh _ _ _) fun k2 s2 u2 _ => ?_
  cases e2 : wI base 0 1099511627776 with
  | false =>
    try simp (disch := first | assumption | omega | (simp only [Int.ofNat_eq_natCast, neg_one]; done) | (simp only [Int.ofNat_eq_natCast, neg_one]; omega)) only [tysW, w_bindJ, w_logJ, w_ct, w_cf, w_gtt, w_gft, w_gtf, w_gff, w_pt, w_pf, w_lret, w_e0, w_e1, w_e2, w_nil, w_fun, w_nt, w_nf, w_add, w_sub, w_eqt, w_eqf, w_net, w_nef, w_ltt, w_ltf, w_let, w_lef, w_gtt', w_gtf', w_get, w_gef, toNat_of, of_add, cast_add, nth_0, nth_s, Nat.zero_add, Nat.reduceAdd, Nat.reduceMul, Nat.add_zero, List.length_cons, List.length_nil, List.drop_zero, List.drop_succ_cons, List.take_succ_cons, List.take_zero, List.take_nil, true_and, and_true, Int.toNat_natCast, List.append_nil, List.nil_append, List.cons_append, X48_7, X48_6]
    exact bad _ _ u2 (by simp only [fitsK, maxT, e1, e2, Bool.false_and, Bool.and_false])
  | true =>
  try simp (disch := first | assumption | omega | (simp only [Int.ofNat_eq_natCast, neg_one]; done) | (simp only [Int.ofNat_eq_natCast, neg_one]; omega)) only [tysW, w_bindJ, w_logJ, w_ct, w_cf, w_gtt, w_gft, w_gtf, w_gff, w_pt, w_pf, w_lret, w_e0, w_e1, w_e2, w_nil, w_fun, w_nt, w_nf, w_add, w_sub, w_eqt, w_eqf, w_net, w_nef, w_ltt, w_ltf, w_let, w_lef, w_gtt', w_gtf', w_get, w_gef, toNat_of, of_add, cast_add, nth_0, nth_s, Nat.zero_add, Nat.reduceAdd, Nat.reduceMul, Nat.add_zero, List.length_cons, List.length_nil, List.drop_zero, List.drop_succ_cons, List.take_succ_cons, List.take_zero, List.take_nil, true_and, and_true, Int.toNat_natCast, List.append_nil, List.nil_append, List.cons_append, ldB (u2.box b1 (by omega)), clB (u2.box b1 (by omega)), ldBL (u2.box b1 (by omega)), clBL (u2.box b1 (by omega)), ldB (u2.box b2 (by omega)), clB (u2.box b2 (by omega)), ldBL (u2.box b2 (by omega)), clBL (u2.box b2 (by omega)), X48_7]
  by_cases e3 : (len : Int) ≤ x.keep
  case neg =>
    try simp (disch := first | assumption | omega | (simp only [Int.ofNat_eq_natCast, neg_one]; done) | (simp only [Int.ofNat_eq_natCast, neg_one]; omega)) only [tysW, w_bindJ, w_logJ, w_ct, w_cf, w_gtt, w_gft, w_gtf, w_gff, w_pt, w_pf, w_lret, w_e0, w_e1, w_e2, w_nil, w_fun, w_nt, w_nf, w_add, w_sub, w_eqt, w_eqf, w_net, w_nef, w_ltt, w_ltf, w_let, w_lef, w_gtt', w_gtf', w_get, w_gef, toNat_of, of_add, cast_add, nth_0, nth_s, Nat.zero_add, Nat.reduceAdd, Nat.reduceMul, Nat.add_zero, List.length_cons, List.length_nil, List.drop_zero, List.drop_succ_cons, List.take_succ_cons, List.take_zero, List.take_nil, true_and, and_true, Int.toNat_natCast, List.append_nil, List.nil_append, List.cons_append, ldB (u2.box b1 (by omega)), clB (u2.box b1 (by omega)), ldBL (u2.box b1 (by omega)), clBL (u2.box b1 (by omega)), ldB (u2.box b2 (by omega)), clB (u2.box b2 (by omega)), ldBL (u2.box b2 (by omega)), clBL (u2.box b2 (by omega)), X48_6]
    exact bad _ _ u2 (by simp only [fitsK, hlen, e1, e2, e3, decide_false, Bool.false_and, Bool.and_false])
  try simp (disch := first | assumption | omega | (simp only [Int.ofNat_eq_natCast, neg_one]; done) | (simp only [Int.ofNat_eq_natCast, neg_one]; omega)) only [tysW, w_bindJ, w_logJ, w_ct, w_cf, w_gtt, w_gft, w_gtf, w_gff, w_pt, w_pf, w_lret, w_e0, w_e1, w_e2, w_nil, w_fun, w_nt, w_nf, w_add, w_sub, w_eqt, w_eqf, w_net, w_nef, w_ltt, w_ltf, w_let, w_lef, w_gtt', w_gtf', w_get, w_gef, toNat_of, of_add, cast_add, nth_0, nth_s, Nat.zero_add, Nat.reduceAdd, Nat.reduceMul, Nat.add_zero, List.length_cons, List.length_nil, List.drop_zero, List.drop_succ_cons, List.take_succ_cons, List.take_zero, List.take_nil, true_and, and_true, Int.toNat_natCast, List.append_nil, List.nil_append, List.cons_append, ldB (u2.box b1 (by omega)), clB (u2.box b1 (by omega)), ldBL (u2.box b1 (by omega)), clBL (u2.box b1 (by omega)), ldB (u2.box b2 (by omega)), clB (u2.box b2 (by omega)), ldBL (u2.box b2 (by omega)), clBL (u2.box b2 (by omega))]
  refine ValS.go u2 hp (s118 (d := d + 4) u2.fresh _ _ _) fun k3 s3 u3 _ => ?_
  cases e5 : wI clean 0 (len : Int) with
  | false =>
    try simp (disch := first | assumption | omega | (simp only [Int.ofNat_eq_natCast, neg_one]; done) | (simp only [Int.ofNat_eq_natCast, neg_one]; omega)) only [tysW, w_bindJ, w_logJ, w_ct, w_cf, w_gtt, w_gft, w_gtf, w_gff, w_pt, w_pf, w_lret, w_e0, w_e1, w_e2, w_nil, w_fun, w_nt, w_nf, w_add, w_sub, w_eqt, w_eqf, w_net, w_nef, w_ltt, w_ltf, w_let, w_lef, w_gtt', w_gtf', w_get, w_gef, toNat_of, of_add, cast_add, nth_0, nth_s, Nat.zero_add, Nat.reduceAdd, Nat.reduceMul, Nat.add_zero, List.length_cons, List.length_nil, List.drop_zero, List.drop_succ_cons, List.take_succ_cons, List.take_zero, List.take_nil, true_and, and_true, Int.toNat_natCast, List.append_nil, List.nil_append, List.cons_append, X48_6]
    exact bad _ _ u3 (by simp only [fitsK, hlen, e5, Bool.false_and, Bool.and_false])
  | true =>
  try simp (disch := first | assumption | omega | (simp only [Int.ofNat_eq_natCast, neg_one]; done) | (simp only [Int.ofNat_eq_natCast, neg_one]; omega)) only [tysW, w_bindJ, w_logJ, w_ct, w_cf, w_gtt, w_gft, w_gtf, w_gff, w_pt, w_pf, w_lret, w_e0, w_e1, w_e2, w_nil, w_fun, w_nt, w_nf, w_add, w_sub, w_eqt, w_eqf, w_net, w_nef, w_ltt, w_ltf, w_let, w_lef, w_gtt', w_gtf', w_get, w_gef, toNat_of, of_add, cast_add, nth_0, nth_s, Nat.zero_add, Nat.reduceAdd, Nat.reduceMul, Nat.add_zero, List.length_cons, List.length_nil, List.drop_zero, List.drop_succ_cons, List.take_succ_cons, List.take_zero, List.take_nil, true_and, and_true, Int.toNat_natCast, List.append_nil, List.nil_append, List.cons_append, ldB (u3.box b1 (by omega)), clB (u3.box b1 (by omega)), ldBL (u3.box b1 (by omega)), clBL (u3.box b1 (by omega)), ldB (u3.box b2 (by omega)), clB (u3.box b2 (by omega)), ldBL (u3.box b2 (by omega)), clBL (u3.box b2 (by omega)), X48_6]
  refine ValS.go u3 hp (s119 (d := d + 3) hN u3.fresh (r0.from g0.fresh u3).row hl) fun k4 s4 u4 _ => ?_
  cases e4 : risingK l with
  | false =>
    try simp (disch := first | assumption | omega | (simp only [Int.ofNat_eq_natCast, neg_one]; done) | (simp only [Int.ofNat_eq_natCast, neg_one]; omega)) only [tysW, w_bindJ, w_logJ, w_ct, w_cf, w_gtt, w_gft, w_gtf, w_gff, w_pt, w_pf, w_lret, w_e0, w_e1, w_e2, w_nil, w_fun, w_nt, w_nf, w_add, w_sub, w_eqt, w_eqf, w_net, w_nef, w_ltt, w_ltf, w_let, w_lef, w_gtt', w_gtf', w_get, w_gef, toNat_of, of_add, cast_add, nth_0, nth_s, Nat.zero_add, Nat.reduceAdd, Nat.reduceMul, Nat.add_zero, List.length_cons, List.length_nil, List.drop_zero, List.drop_succ_cons, List.take_succ_cons, List.take_zero, List.take_nil, true_and, and_true, Int.toNat_natCast, List.append_nil, List.nil_append, List.cons_append]
    exact bad _ _ u4 (by simp only [fitsK, e4, Bool.false_and, Bool.and_false])
  | true =>
  try simp (disch := first | assumption | omega | (simp only [Int.ofNat_eq_natCast, neg_one]; done) | (simp only [Int.ofNat_eq_natCast, neg_one]; omega)) only [tysW, w_bindJ, w_logJ, w_ct, w_cf, w_gtt, w_gft, w_gtf, w_gff, w_pt, w_pf, w_lret, w_e0, w_e1, w_e2, w_nil, w_fun, w_nt, w_nf, w_add, w_sub, w_eqt, w_eqf, w_net, w_nef, w_ltt, w_ltf, w_let, w_lef, w_gtt', w_gtf', w_get, w_gef, toNat_of, of_add, cast_add, nth_0, nth_s, Nat.zero_add, Nat.reduceAdd, Nat.reduceMul, Nat.add_zero, List.length_cons, List.length_nil, List.drop_zero, List.drop_succ_cons, List.take_succ_cons, List.take_zero, List.take_nil, true_and, and_true, Int.toNat_natCast, List.append_nil, List.nil_append, List.cons_append, ldB (u4.box b1 (by omega)), clB (u4.box b1 (by omega)), ldBL (u4.box b1 (by omega)), clBL (u4.box b1 (by omega)), ldB (u4.box b2 (by omega)), clB (u4.box b2 (by omega)), ldBL (u4.box b2 (by omega)), clBL (u4.box b2 (by omega))]
  have e0 : fitsK x base clean l = decide (goodFrom base l 0) := by
    simp only [fitsK, maxT, hlen, e1, e2, e3, e4, e5, decide_true, Bool.true_and]
  have loop : ∀ (B : (Value → Value → Nat → AM) → Value → Value → Nat → AM) (hB : ∀ H u i s', B H u i s' = X48_5 N (D N (d + 5)) K (.pointer (some ⟨s + 1, 0, none⟩)) (fun s => K (i64 0) s) H u i s') (m i : Nat) (u : Value) (h1 : T) (s1 : Nat), len - i < m → i ≤ len → (goodFrom base l 0 ↔ goodFrom base l i) → From (s + 1 + 1) h2 h1 s1 →
      (loopJ m 2 (fun _ _ _ => AM.fail) B u (vi i) s1).wp pw Z h1 := by
    intro B hB m
    induction m with
    | zero => intro i u h1 s1 hm; omega
    | succ m ih =>
      intro i u h1 s1 hm hil hgi g1
      have r1 := r0.from g0.fresh g1
      have b2' := g1.box b2 (by omega)
      rw [loopJ_succ, hB]
      unfold X48_5
      by_cases hlt : i < len
      · obtain ⟨y, hy⟩ := get_some (l := l) (i := i) (by omega)
        try simp (disch := first | assumption | omega | (simp only [Int.ofNat_eq_natCast, neg_one]; done) | (simp only [Int.ofNat_eq_natCast, neg_one]; omega)) only [tysW, w_bindJ, w_logJ, w_ct, w_cf, w_gtt, w_gft, w_gtf, w_gff, w_pt, w_pf, w_lret, w_e0, w_e1, w_e2, w_nil, w_fun, w_nt, w_nf, w_add, w_sub, w_eqt, w_eqf, w_net, w_nef, w_ltt, w_ltf, w_let, w_lef, w_gtt', w_gtf', w_get, w_gef, toNat_of, of_add, cast_add, nth_0, nth_s, Nat.zero_add, Nat.reduceAdd, Nat.reduceMul, Nat.add_zero, List.length_cons, List.length_nil, List.drop_zero, List.drop_succ_cons, List.take_succ_cons, List.take_zero, List.take_nil, true_and, and_true, Int.toNat_natCast, List.append_nil, List.nil_append, List.cons_append, ldB b2', clB b2', ldBL b2', clBL b2', xa3 r1.row (j := (i : Int)) (by omega) (by omega), rowAL r1.row hy]
        refine ValS.goL g1 hp (s118 (d := d + 4) g1.fresh _ _ _) fun h5 s5 ts5 ws5 g5 c5 hw5 ht5 => ?_
        have b5 := c5.box b2' (by have := g1.le; omega)
        have r5 := r0.from g0.fresh g5
        unfold X48_4
        cases e6 : wI y.a base 1099511627776 with
        | false =>
          try simp (disch := first | assumption | omega | (simp only [Int.ofNat_eq_natCast, neg_one]; done) | (simp only [Int.ofNat_eq_natCast, neg_one]; omega)) only [tysW, w_bindJ, w_logJ, w_ct, w_cf, w_gtt, w_gft, w_gtf, w_gff, w_pt, w_pf, w_lret, w_e0, w_e1, w_e2, w_nil, w_fun, w_nt, w_nf, w_add, w_sub, w_eqt, w_eqf, w_net, w_nef, w_ltt, w_ltf, w_let, w_lef, w_gtt', w_gtf', w_get, w_gef, toNat_of, of_add, cast_add, nth_0, nth_s, Nat.zero_add, Nat.reduceAdd, Nat.reduceMul, Nat.add_zero, List.length_cons, List.length_nil, List.drop_zero, List.drop_succ_cons, List.take_succ_cons, List.take_zero, List.take_nil, true_and, and_true, Int.toNat_natCast, List.append_nil, List.nil_append, List.cons_append, ldB b5, clB b5, ldBL b5, clBL b5]
          unfold X48_3 X48_2 X48_1
          try simp (disch := first | assumption | omega | (simp only [Int.ofNat_eq_natCast, neg_one]; done) | (simp only [Int.ofNat_eq_natCast, neg_one]; omega)) only [tysW, w_bindJ, w_logJ, w_ct, w_cf, w_gtt, w_gft, w_gtf, w_gff, w_pt, w_pf, w_lret, w_e0, w_e1, w_e2, w_nil, w_fun, w_nt, w_nf, w_add, w_sub, w_eqt, w_eqf, w_net, w_nef, w_ltt, w_ltf, w_let, w_lef, w_gtt', w_gtf', w_get, w_gef, toNat_of, of_add, cast_add, nth_0, nth_s, Nat.zero_add, Nat.reduceAdd, Nat.reduceMul, Nat.add_zero, List.length_cons, List.length_nil, List.drop_zero, List.drop_succ_cons, List.take_succ_cons, List.take_zero, List.take_nil, true_and, and_true, Int.toNat_natCast, List.append_nil, List.nil_append, List.cons_append, ldB b5, clB b5, ldBL b5, clBL b5]
          rw [wp_guard, if_pos (by repeat' (first | exact dynOk_nil _ _ | refine dyn_skip' ?_ | refine dyn_cons ?_ ?_ | exact allF_nil _ _ | refine allF_cons ?_ ?_))]
          try simp (disch := first | assumption | omega | (simp only [Int.ofNat_eq_natCast, neg_one]; done) | (simp only [Int.ofNat_eq_natCast, neg_one]; omega)) only [tysW, w_bindJ, w_logJ, w_ct, w_cf, w_gtt, w_gft, w_gtf, w_gff, w_pt, w_pf, w_lret, w_e0, w_e1, w_e2, w_nil, w_fun, w_nt, w_nf, w_add, w_sub, w_eqt, w_eqf, w_net, w_nef, w_ltt, w_ltf, w_let, w_lef, w_gtt', w_gtf', w_get, w_gef, toNat_of, of_add, cast_add, nth_0, nth_s, Nat.zero_add, Nat.reduceAdd, Nat.reduceMul, Nat.add_zero, List.length_cons, List.length_nil, List.drop_zero, List.drop_succ_cons, List.take_succ_cons, List.take_zero, List.take_nil, true_and, and_true, Int.toNat_natCast, List.append_nil, List.nil_append, List.cons_append]
          exact bad _ _ g5 (by rw [e0, decide_eq_false_iff_not, hgi, good_step hy]; simp [maxT, e6])
        | true =>
        try simp (disch := first | assumption | omega | (simp only [Int.ofNat_eq_natCast, neg_one]; done) | (simp only [Int.ofNat_eq_natCast, neg_one]; omega)) only [tysW, w_bindJ, w_logJ, w_ct, w_cf, w_gtt, w_gft, w_gtf, w_gff, w_pt, w_pf, w_lret, w_e0, w_e1, w_e2, w_nil, w_fun, w_nt, w_nf, w_add, w_sub, w_eqt, w_eqf, w_net, w_nef, w_ltt, w_ltf, w_let, w_lef, w_gtt', w_gtf', w_get, w_gef, toNat_of, of_add, cast_add, nth_0, nth_s, Nat.zero_add, Nat.reduceAdd, Nat.reduceMul, Nat.add_zero, List.length_cons, List.length_nil, List.drop_zero, List.drop_succ_cons, List.take_succ_cons, List.take_zero, List.take_nil, true_and, and_true, Int.toNat_natCast, List.append_nil, List.nil_append, List.cons_append, ldB b5, clB b5, ldBL b5, clBL b5]
        unfold X48_3
        try simp (disch := first | assumption | omega | (simp only [Int.ofNat_eq_natCast, neg_one]; done) | (simp only [Int.ofNat_eq_natCast, neg_one]; omega)) only [tysW, w_bindJ, w_logJ, w_ct, w_cf, w_gtt, w_gft, w_gtf, w_gff, w_pt, w_pf, w_lret, w_e0, w_e1, w_e2, w_nil, w_fun, w_nt, w_nf, w_add, w_sub, w_eqt, w_eqf, w_net, w_nef, w_ltt, w_ltf, w_let, w_lef, w_gtt', w_gtf', w_get, w_gef, toNat_of, of_add, cast_add, nth_0, nth_s, Nat.zero_add, Nat.reduceAdd, Nat.reduceMul, Nat.add_zero, List.length_cons, List.length_nil, List.drop_zero, List.drop_succ_cons, List.take_succ_cons, List.take_zero, List.take_nil, true_and, and_true, Int.toNat_natCast, List.append_nil, List.nil_append, List.cons_append, ldB b5, clB b5, ldBL b5, clBL b5]
        refine r5.cutL (ab_to (by have := r.le; omega) _) (by omega) (by omega) (by have := r.le; omega) (by omega) fun p' ts6 r6 _ hts6 => ?_
        try simp (disch := first | assumption | omega | (simp only [Int.ofNat_eq_natCast, neg_one]; done) | (simp only [Int.ofNat_eq_natCast, neg_one]; omega)) only [tysW, w_bindJ, w_logJ, w_ct, w_cf, w_gtt, w_gft, w_gtf, w_gff, w_pt, w_pf, w_lret, w_e0, w_e1, w_e2, w_nil, w_fun, w_nt, w_nf, w_add, w_sub, w_eqt, w_eqf, w_net, w_nef, w_ltt, w_ltf, w_let, w_lef, w_gtt', w_gtf', w_get, w_gef, toNat_of, of_add, cast_add, nth_0, nth_s, Nat.zero_add, Nat.reduceAdd, Nat.reduceMul, Nat.add_zero, List.length_cons, List.length_nil, List.drop_zero, List.drop_succ_cons, List.take_succ_cons, List.take_zero, List.take_nil, true_and, and_true, Int.toNat_natCast, List.append_nil, List.nil_append, List.cons_append, ldB b5, clB b5, ldBL b5, clBL b5]
        unfold X48_2
        try simp (disch := first | assumption | omega | (simp only [Int.ofNat_eq_natCast, neg_one]; done) | (simp only [Int.ofNat_eq_natCast, neg_one]; omega)) only [tysW, w_bindJ, w_logJ, w_ct, w_cf, w_gtt, w_gft, w_gtf, w_gff, w_pt, w_pf, w_lret, w_e0, w_e1, w_e2, w_nil, w_fun, w_nt, w_nf, w_add, w_sub, w_eqt, w_eqf, w_net, w_nef, w_ltt, w_ltf, w_let, w_lef, w_gtt', w_gtf', w_get, w_gef, toNat_of, of_add, cast_add, nth_0, nth_s, Nat.zero_add, Nat.reduceAdd, Nat.reduceMul, Nat.add_zero, List.length_cons, List.length_nil, List.drop_zero, List.drop_succ_cons, List.take_succ_cons, List.take_zero, List.take_nil, true_and, and_true, Int.toNat_natCast, List.append_nil, List.nil_append, List.cons_append, ldB b5, clB b5, ldBL b5, clBL b5, xa3 r5.row (j := (i : Int)) (by omega) (by omega), row3L r5.row hy]
        unfold X48_1
        try simp (disch := first | assumption | omega | (simp only [Int.ofNat_eq_natCast, neg_one]; done) | (simp only [Int.ofNat_eq_natCast, neg_one]; omega)) only [tysW, w_bindJ, w_logJ, w_ct, w_cf, w_gtt, w_gft, w_gtf, w_gff, w_pt, w_pf, w_lret, w_e0, w_e1, w_e2, w_nil, w_fun, w_nt, w_nf, w_add, w_sub, w_eqt, w_eqf, w_net, w_nef, w_ltt, w_ltf, w_let, w_lef, w_gtt', w_gtf', w_get, w_gef, toNat_of, of_add, cast_add, nth_0, nth_s, Nat.zero_add, Nat.reduceAdd, Nat.reduceMul, Nat.add_zero, List.length_cons, List.length_nil, List.drop_zero, List.drop_succ_cons, List.take_succ_cons, List.take_zero, List.take_nil, true_and, and_true, Int.toNat_natCast, List.append_nil, List.nil_append, List.cons_append]
        simp only [Nat.sub_zero, List.drop_zero] at r6 ⊢
        refine ValS.goL g5 hp (s120 (d := d + 3) hN g5.fresh r6.row (by omega) y) fun h7 s7 ts7 ws7 g7 c7 hw7 ht7 => ?_
        have hle5 := g5.le
        have hbl : blk p < s5 := r5.lt g5.fresh (by have := r.le; omega)
        have hts6' : ∀ n ∈ ts6, n < s5 := fun n hn => by rw [(hts6 n hn).1]; exact hbl
        try simp (disch := first | assumption | omega | (simp only [Int.ofNat_eq_natCast, neg_one]; done) | (simp only [Int.ofNat_eq_natCast, neg_one]; omega)) only [tysW, w_bindJ, w_logJ, w_ct, w_cf, w_gtt, w_gft, w_gtf, w_gff, w_pt, w_pf, w_lret, w_e0, w_e1, w_e2, w_nil, w_fun, w_nt, w_nf, w_add, w_sub, w_eqt, w_eqf, w_net, w_nef, w_ltt, w_ltf, w_let, w_lef, w_gtt', w_gtf', w_get, w_gef, toNat_of, of_add, cast_add, nth_0, nth_s, Nat.zero_add, Nat.reduceAdd, Nat.reduceMul, Nat.add_zero, List.length_cons, List.length_nil, List.drop_zero, List.drop_succ_cons, List.take_succ_cons, List.take_zero, List.take_nil, true_and, and_true, Int.toNat_natCast, List.append_nil, List.nil_append, List.cons_append]
        rw [wp_guard, if_pos (by repeat' (first | exact dynOk_nil _ _ | refine dyn_skip' ?_ | refine dyn_cons ?_ ?_ | exact allF_nil _ _ | refine allF_cons ?_ ?_ | exact disj_below hw7 (by omega) | exact disjA hw7 (by omega) | exact disjB hw7 (by omega) | exact disjC hw7 (by assumption) | exact disjD (fun m hm => by have := hw7 m hm; omega) | exact disj_below ht7 (by omega) | exact disjA ht7 (by omega) | exact disjB ht7 (by omega) | exact disjC ht7 (by assumption) | exact disjD (fun m hm => by have := ht7 m hm; omega) | exact disj_below hts6' (by omega) | exact disjA hts6' (by omega) | exact disjB hts6' (by omega) | exact disjC hts6' (by assumption) | exact disjD (fun m hm => by have := hts6' m hm; omega) | exact disjN _ | exact disj1 (by omega) | exact disj2 (by omega) | exact disj3 (by assumption) | exact disjC hw7 (fun m hm => by have := ht7 m hm; omega) | exact disjC hw7 (fun m hm => by have := hts6' m hm; omega) | exact disjC ht7 (fun m hm => by have := hw7 m hm; omega) | exact disjC ht7 (fun m hm => by have := hts6' m hm; omega) | exact disjC hts6' (fun m hm => by have := hw7 m hm; omega) | exact disjC hts6' (fun m hm => by have := ht7 m hm; omega)))]
        cases e7 : twinAny (l.take i) y with
        | true =>
          try simp (disch := first | assumption | omega | (simp only [Int.ofNat_eq_natCast, neg_one]; done) | (simp only [Int.ofNat_eq_natCast, neg_one]; omega)) only [tysW, w_bindJ, w_logJ, w_ct, w_cf, w_gtt, w_gft, w_gtf, w_gff, w_pt, w_pf, w_lret, w_e0, w_e1, w_e2, w_nil, w_fun, w_nt, w_nf, w_add, w_sub, w_eqt, w_eqf, w_net, w_nef, w_ltt, w_ltf, w_let, w_lef, w_gtt', w_gtf', w_get, w_gef, toNat_of, of_add, cast_add, nth_0, nth_s, Nat.zero_add, Nat.reduceAdd, Nat.reduceMul, Nat.add_zero, List.length_cons, List.length_nil, List.drop_zero, List.drop_succ_cons, List.take_succ_cons, List.take_zero, List.take_nil, true_and, and_true, Int.toNat_natCast, List.append_nil, List.nil_append, List.cons_append]
          exact bad _ _ g7 (by rw [e0, decide_eq_false_iff_not, hgi, good_step hy]; simp [e7])
        | false =>
          try simp (disch := first | assumption | omega | (simp only [Int.ofNat_eq_natCast, neg_one]; done) | (simp only [Int.ofNat_eq_natCast, neg_one]; omega)) only [tysW, w_bindJ, w_logJ, w_ct, w_cf, w_gtt, w_gft, w_gtf, w_gff, w_pt, w_pf, w_lret, w_e0, w_e1, w_e2, w_nil, w_fun, w_nt, w_nf, w_add, w_sub, w_eqt, w_eqf, w_net, w_nef, w_ltt, w_ltf, w_let, w_lef, w_gtt', w_gtf', w_get, w_gef, toNat_of, of_add, cast_add, nth_0, nth_s, Nat.zero_add, Nat.reduceAdd, Nat.reduceMul, Nat.add_zero, List.length_cons, List.length_nil, List.drop_zero, List.drop_succ_cons, List.take_succ_cons, List.take_zero, List.take_nil, true_and, and_true, Int.toNat_natCast, List.append_nil, List.nil_append, List.cons_append]
          exact ih (i + 1) _ _ _ (by omega) (by omega) (by rw [hgi, good_step hy]; simp [maxT, e6, e7]) g7
      · obtain rfl : i = len := by omega
        try simp (disch := first | assumption | omega | (simp only [Int.ofNat_eq_natCast, neg_one]; done) | (simp only [Int.ofNat_eq_natCast, neg_one]; omega)) only [tysW, w_bindJ, w_logJ, w_ct, w_cf, w_gtt, w_gft, w_gtf, w_gff, w_pt, w_pf, w_lret, w_e0, w_e1, w_e2, w_nil, w_fun, w_nt, w_nf, w_add, w_sub, w_eqt, w_eqf, w_net, w_nef, w_ltt, w_ltf, w_let, w_lef, w_gtt', w_gtf', w_get, w_gef, toNat_of, of_add, cast_add, nth_0, nth_s, Nat.zero_add, Nat.reduceAdd, Nat.reduceMul, Nat.add_zero, List.length_cons, List.length_nil, List.drop_zero, List.drop_succ_cons, List.take_succ_cons, List.take_zero, List.take_nil, true_and, and_true, Int.toNat_natCast, List.append_nil, List.nil_append, List.cons_append, ldB b2', clB b2', ldBL b2', clBL b2']
        exact fin _ _ g1 (by rw [e0, decide_eq_true_eq, hgi, ← hlen]; exact good_end _ _)
  exact loop _ (fun _ _ _ _ => rfl) N 0 _ k4 s4 (by omega) (by omega) Iff.rfl u4
end
end Go.Ev.R
namespace Go.Ev.R
open Go Go.RowKit
section
variable {N d : Nat} (hN : 100000 ≤ N) {h : T} {s : Nat} (hf : ∀ n, s ≤ n → h.get n = none)
include hN hf
theorem s40 (x : SU) (base clean : Int) {p : Option Addr} {len cap : Nat} {l : List K3} (r : Sl EK h p len cap l) (hl : len ≤ 10000) : ValS (D N (d + 7)) 40 [suval x, shval base p len cap clean] h s (.tuple ⟨if fitsK x base clean l = true then [vi (floorK x base l), vi 0] else [vi 0, vi 2]⟩) := by
  refine ValS.of hf fun K pw Z g hp hk => ?_
  rw [D_40]; unfold F40; rw [app2_eq]
  refine wp_boxA g hp fun h1 g1 c1 b1 => ?_
  refine wp_boxA g1 hp fun h2 g2 c2 b2 => ?_
  replace hk := fun h' s' (g' : From (s + 1 + 1) h2 h' s') => hk h' s' (g2.trans g'); replace hp := fun n (hn : s + 1 + 1 ≤ n) => hp n (by omega); have g0 := From.refl g2.fresh
  replace b1 := c2.box b1 (by omega)
  have r0 := r.from hf g2
  simp only [suv, shv] at b1 b2
  have hlen := r.row.1
  try simp (disch := first | assumption | omega | (simp only [Int.ofNat_eq_natCast, neg_one]; done) | (simp only [Int.ofNat_eq_natCast, neg_one]; omega)) only [tysW, w_bindJ, w_logJ, w_ct, w_cf, w_gtt, w_gft, w_gtf, w_gff, w_pt, w_pf, w_lret, w_e0, w_e1, w_e2, w_nil, w_fun, w_nt, w_nf, w_add, w_sub, w_eqt, w_eqf, w_net, w_nef, w_ltt, w_ltf, w_let, w_lef, w_gtt', w_gtf', w_get, w_gef, toNat_of, of_add, cast_add, nth_0, nth_s, Nat.zero_add, Nat.reduceAdd, Nat.reduceMul, Nat.add_zero, List.length_cons, List.length_nil, List.drop_zero, List.drop_succ_cons, List.take_succ_cons, List.take_zero, List.take_nil, true_and, and_true, Int.toNat_natCast, List.append_nil, List.nil_append, List.cons_append, ldB b1, clB b1, ldBL b1, clBL b1, ldB b2, clB b2, ldBL b2, clBL b2]
  refine ValS.go g0 hp (s48 (d := d) hN g0.fresh x base clean r0 hl) fun k1 s1 u1 _ => ?_
  cases e1 : fitsK x base clean l with
  | false =>
    try simp (disch := first | assumption | omega | (simp only [Int.ofNat_eq_natCast, neg_one]; done) | (simp only [Int.ofNat_eq_natCast, neg_one]; omega)) only [tysW, w_bindJ, w_logJ, w_ct, w_cf, w_gtt, w_gft, w_gtf, w_gff, w_pt, w_pf, w_lret, w_e0, w_e1, w_e2, w_nil, w_fun, w_nt, w_nf, w_add, w_sub, w_eqt, w_eqf, w_net, w_nef, w_ltt, w_ltf, w_let, w_lef, w_gtt', w_gtf', w_get, w_gef, toNat_of, of_add, cast_add, nth_0, nth_s, Nat.zero_add, Nat.reduceAdd, Nat.reduceMul, Nat.add_zero, List.length_cons, List.length_nil, List.drop_zero, List.drop_succ_cons, List.take_succ_cons, List.take_zero, List.take_nil, true_and, and_true, Int.toNat_natCast, List.append_nil, List.nil_append, List.cons_append, show errI false = 2 from rfl]
    have := hk _ _ u1
    simp only [e1, Bool.false_eq_true, if_false] at this
    exact this
  | true =>
  try simp (disch := first | assumption | omega | (simp only [Int.ofNat_eq_natCast, neg_one]; done) | (simp only [Int.ofNat_eq_natCast, neg_one]; omega)) only [tysW, w_bindJ, w_logJ, w_ct, w_cf, w_gtt, w_gft, w_gtf, w_gff, w_pt, w_pf, w_lret, w_e0, w_e1, w_e2, w_nil, w_fun, w_nt, w_nf, w_add, w_sub, w_eqt, w_eqf, w_net, w_nef, w_ltt, w_ltf, w_let, w_lef, w_gtt', w_gtf', w_get, w_gef, toNat_of, of_add, cast_add, nth_0, nth_s, Nat.zero_add, Nat.reduceAdd, Nat.reduceMul, Nat.add_zero, List.length_cons, List.length_nil, List.drop_zero, List.drop_succ_cons, List.take_succ_cons, List.take_zero, List.take_nil, true_and, and_true, Int.toNat_natCast, List.append_nil, List.nil_append, List.cons_append, ldB (u1.box b1 (by omega)), clB (u1.box b1 (by omega)), ldBL (u1.box b1 (by omega)), clBL (u1.box b1 (by omega)), ldB (u1.box b2 (by omega)), clB (u1.box b2 (by omega)), ldBL (u1.box b2 (by omega)), clBL (u1.box b2 (by omega)), show errI true = 0 from rfl, X40_2]
  have hk' : ∀ (n : Int) (h' : T) (s' : Nat), From (s + 1 + 1) h2 h' s' → n = floorK x base l → (K (.tuple ⟨[vi n, vi 0]⟩) s').wp pw Z h' := fun n h' s' g' e => by
    have := hk _ _ g'
    simp only [e1, if_true] at this
    rw [e]; exact this
  obtain ⟨f1, f2, f3, f4, f5, f6⟩ := fits_iff.1 e1
  obtain ⟨q1, q2, q3, q4, q5, q6⟩ := chk_keep f1
  have hnew : 0 ≤ newK base l ∧ newK base l ≤ maxT := by
    rcases new_is base l with ⟨_, e⟩ | ⟨y, hy, e⟩
    · rw [e]; exact f2
    · rw [e]
      have := (good_iff.1 f6).1 y hy
      omega
  unfold maxT at *
  refine ValS.goL u1 hp (s50 u1.fresh base clean (r0.from g0.fresh u1).row hl) fun k2 s2 ts2 ws2 u2 _ hw2 ht2 => ?_
  try simp (disch := first | assumption | omega | (simp only [Int.ofNat_eq_natCast, neg_one]; done) | (simp only [Int.ofNat_eq_natCast, neg_one]; omega)) only [tysW, w_bindJ, w_logJ, w_ct, w_cf, w_gtt, w_gft, w_gtf, w_gff, w_pt, w_pf, w_lret, w_e0, w_e1, w_e2, w_nil, w_fun, w_nt, w_nf, w_add, w_sub, w_eqt, w_eqf, w_net, w_nef, w_ltt, w_ltf, w_let, w_lef, w_gtt', w_gtf', w_get, w_gef, toNat_of, of_add, cast_add, nth_0, nth_s, Nat.zero_add, Nat.reduceAdd, Nat.reduceMul, Nat.add_zero, List.length_cons, List.length_nil, List.drop_zero, List.drop_succ_cons, List.take_succ_cons, List.take_zero, List.take_nil, true_and, and_true, Int.toNat_natCast, List.append_nil, List.nil_append, List.cons_append, ldB (u2.box b1 (by omega)), clB (u2.box b1 (by omega)), ldBL (u2.box b1 (by omega)), clBL (u2.box b1 (by omega)), ldB (u2.box b2 (by omega)), clB (u2.box b2 (by omega)), ldBL (u2.box b2 (by omega)), clBL (u2.box b2 (by omega)), blt_max, X40_1]
  rw [wp_guard, if_pos (by have := u1.le; repeat' (first | exact dynOk_nil _ _ | refine dyn_skip' ?_ | refine dyn_cons ?_ ?_ | exact allF_nil _ _ | refine allF_cons ?_ ?_ | exact disj_below hw2 (by omega) | exact disjA hw2 (by omega) | exact disjB hw2 (by omega) | exact disjC hw2 (by assumption) | exact disjD (fun m hm => by have := hw2 m hm; omega) | exact disj_below ht2 (by omega) | exact disjA ht2 (by omega) | exact disjB ht2 (by omega) | exact disjC ht2 (by assumption) | exact disjD (fun m hm => by have := ht2 m hm; omega) | exact disjN _ | exact disj1 (by omega) | exact disj2 (by omega) | exact disj3 (by assumption) | exact disjC hw2 (fun m hm => by have := ht2 m hm; omega) | exact disjC ht2 (fun m hm => by have := hw2 m hm; omega)))]
  try simp (disch := first | assumption | omega | (simp only [Int.ofNat_eq_natCast, neg_one]; done) | (simp only [Int.ofNat_eq_natCast, neg_one]; omega)) only [tysW, w_bindJ, w_logJ, w_ct, w_cf, w_gtt, w_gft, w_gtf, w_gff, w_pt, w_pf, w_lret, w_e0, w_e1, w_e2, w_nil, w_fun, w_nt, w_nf, w_add, w_sub, w_eqt, w_eqf, w_net, w_nef, w_ltt, w_ltf, w_let, w_lef, w_gtt', w_gtf', w_get, w_gef, toNat_of, of_add, cast_add, nth_0, nth_s, Nat.zero_add, Nat.reduceAdd, Nat.reduceMul, Nat.add_zero, List.length_cons, List.length_nil, List.drop_zero, List.drop_succ_cons, List.take_succ_cons, List.take_zero, List.take_nil, true_and, and_true, Int.toNat_natCast, List.append_nil, List.nil_append, List.cons_append, ldB (u2.box b1 (by omega)), clB (u2.box b1 (by omega)), ldBL (u2.box b1 (by omega)), clBL (u2.box b1 (by omega)), ldB (u2.box b2 (by omega)), clB (u2.box b2 (by omega)), ldBL (u2.box b2 (by omega)), clBL (u2.box b2 (by omega))]
  by_cases e3 : (len : Int) = x.keep
  · have e2 : fullK x l = true := by unfold fullK; rw [hlen]; exact decide_eq_true e3
    obtain ⟨y, hy⟩ := get_some (l := l) (i := 0) (by omega)
    try simp (disch := first | assumption | omega | (simp only [Int.ofNat_eq_natCast, neg_one]; done) | (simp only [Int.ofNat_eq_natCast, neg_one]; omega)) only [tysW, w_bindJ, w_logJ, w_ct, w_cf, w_gtt, w_gft, w_gtf, w_gff, w_pt, w_pf, w_lret, w_e0, w_e1, w_e2, w_nil, w_fun, w_nt, w_nf, w_add, w_sub, w_eqt, w_eqf, w_net, w_nef, w_ltt, w_ltf, w_let, w_lef, w_gtt', w_gtf', w_get, w_gef, toNat_of, of_add, cast_add, nth_0, nth_s, Nat.zero_add, Nat.reduceAdd, Nat.reduceMul, Nat.add_zero, List.length_cons, List.length_nil, List.drop_zero, List.drop_succ_cons, List.take_succ_cons, List.take_zero, List.take_nil, true_and, and_true, Int.toNat_natCast, List.append_nil, List.nil_append, List.cons_append, ldB (u2.box b1 (by omega)), clB (u2.box b1 (by omega)), ldBL (u2.box b1 (by omega)), clBL (u2.box b1 (by omega)), ldB (u2.box b2 (by omega)), clB (u2.box b2 (by omega)), ldBL (u2.box b2 (by omega)), clBL (u2.box b2 (by omega)), xa30 (r0.from g0.fresh u2).row (by omega), rowA0 (r0.from g0.fresh u2).row hy, blt_max]
    exact hk' _ _ _ u2 (by unfold floorK; rw [if_pos e2, hy])
  · have e2 : fullK x l = false := by unfold fullK; rw [hlen]; exact decide_eq_false e3
    try simp (disch := first | assumption | omega | (simp only [Int.ofNat_eq_natCast, neg_one]; done) | (simp only [Int.ofNat_eq_natCast, neg_one]; omega)) only [tysW, w_bindJ, w_logJ, w_ct, w_cf, w_gtt, w_gft, w_gtf, w_gff, w_pt, w_pf, w_lret, w_e0, w_e1, w_e2, w_nil, w_fun, w_nt, w_nf, w_add, w_sub, w_eqt, w_eqf, w_net, w_nef, w_ltt, w_ltf, w_let, w_lef, w_gtt', w_gtf', w_get, w_gef, toNat_of, of_add, cast_add, nth_0, nth_s, Nat.zero_add, Nat.reduceAdd, Nat.reduceMul, Nat.add_zero, List.length_cons, List.length_nil, List.drop_zero, List.drop_succ_cons, List.take_succ_cons, List.take_zero, List.take_nil, true_and, and_true, Int.toNat_natCast, List.append_nil, List.nil_append, List.cons_append, ldB (u2.box b1 (by omega)), clB (u2.box b1 (by omega)), ldBL (u2.box b1 (by omega)), clBL (u2.box b1 (by omega)), ldB (u2.box b2 (by omega)), clB (u2.box b2 (by omega)), ldBL (u2.box b2 (by omega)), clBL (u2.box b2 (by omega))]
    exact hk' _ _ _ u2 (by unfold floorK; rw [if_neg (by simp [e2])])
theorem s51 (x : SU) (base clean : Int) {p : Option Addr} {len cap : Nat} {l : List K3} (r : Sl EK h p len cap l) (hl : len ≤ 10000) (k : K3) : ValS (D N (d + 8)) 51 [suval x, shval base p len cap clean, kval k] h s (vi (judgeK x base clean l k)) := by
  refine ValS.of hf fun K pw Z g hp hk => ?_
  rw [D_51]; unfold F51; rw [app3_eq]
  unfold X51_5
  refine wp_boxA g hp fun h1 g1 c1 b1 => ?_
  refine wp_boxA g1 hp fun h2 g2 c2 b2 => ?_
  refine wp_boxA g2 hp fun h3 g3 c3 b3 => ?_
  replace hk := fun h' s' (g' : From (s + 1 + 1 + 1) h3 h' s') => hk h' s' (g3.trans g'); replace hp := fun n (hn : s + 1 + 1 + 1 ≤ n) => hp n (by omega); have g0 := From.refl g3.fresh
  replace b1 := (c2.trans c3).box b1 (by omega)
  replace b2 := c3.box b2 (by omega)
  have r0 := r.from hf g3
  have hlen := r.row.1
  simp only [suv, shv, kv] at b1 b2 b3
  try simp (disch := first | assumption | omega | (simp only [Int.ofNat_eq_natCast, neg_one]; done) | (simp only [Int.ofNat_eq_natCast, neg_one]; omega)) only [tysW, w_bindJ, w_logJ, w_ct, w_cf, w_gtt, w_gft, w_gtf, w_gff, w_pt, w_pf, w_lret, w_e0, w_e1, w_e2, w_nil, w_fun, w_nt, w_nf, w_add, w_sub, w_eqt, w_eqf, w_net, w_nef, w_ltt, w_ltf, w_let, w_lef, w_gtt', w_gtf', w_get, w_gef, toNat_of, of_add, cast_add, nth_0, nth_s, Nat.zero_add, Nat.reduceAdd, Nat.reduceMul, Nat.add_zero, List.length_cons, List.length_nil, List.drop_zero, List.drop_succ_cons, List.take_succ_cons, List.take_zero, List.take_nil, true_and, and_true, Int.toNat_natCast, List.append_nil, List.nil_append, List.cons_append, ldB b1, clB b1, ldBL b1, clBL b1, ldB b2, clB b2, ldBL b2, clBL b2, ldB b3, clB b3, ldBL b3, clBL b3]
  refine ValS.go g0 hp (s40 (d := d) hN g0.fresh x base clean r0 hl) fun k1 s1 u1 _ => ?_
  have B1 := u1.box b1 (by omega)
  have B2 := u1.box b2 (by omega)
  have B3 := u1.box b3 (by omega)
  have r1 := r0.from g0.fresh u1
  have done_ : ∀ (j : Int) h' s', From (s + 1 + 1 + 1) h3 h' s' → judgeK x base clean l k = j → (K (vi j) s').wp pw Z h' := fun j h' s' g' e => by rw [← e]; exact hk _ _ g'
  have ful : ∃ b, fullK x l = b ∧ decide ((len : Int) = x.keep) = b := ⟨_, by unfold fullK; rw [hlen], rfl⟩
  obtain ⟨fb, hfb, hdb⟩ := ful
  cases e1 : fitsK x base clean l with
  | false =>
    simp only [Bool.false_eq_true, if_false]
    try simp (disch := first | assumption | omega | (simp only [Int.ofNat_eq_natCast, neg_one]; done) | (simp only [Int.ofNat_eq_natCast, neg_one]; omega)) only [tysW, w_bindJ, w_logJ, w_ct, w_cf, w_gtt, w_gft, w_gtf, w_gff, w_pt, w_pf, w_lret, w_e0, w_e1, w_e2, w_nil, w_fun, w_nt, w_nf, w_add, w_sub, w_eqt, w_eqf, w_net, w_nef, w_ltt, w_ltf, w_let, w_lef, w_gtt', w_gtf', w_get, w_gef, toNat_of, of_add, cast_add, nth_0, nth_s, Nat.zero_add, Nat.reduceAdd, Nat.reduceMul, Nat.add_zero, List.length_cons, List.length_nil, List.drop_zero, List.drop_succ_cons, List.take_succ_cons, List.take_zero, List.take_nil, true_and, and_true, Int.toNat_natCast, List.append_nil, List.nil_append, List.cons_append, ldB B1, clB B1, ldBL B1, clBL B1, ldB B2, clB B2, ldBL B2, clBL B2, w_eq, X51_4]
    exact done_ 2 _ _ u1 (by unfold judgeK; rw [if_pos (.inl e1)])
  | true =>
  simp only [if_true]
  try simp (disch := first | assumption | omega | (simp only [Int.ofNat_eq_natCast, neg_one]; done) | (simp only [Int.ofNat_eq_natCast, neg_one]; omega)) only [tysW, w_bindJ, w_logJ, w_ct, w_cf, w_gtt, w_gft, w_gtf, w_gff, w_pt, w_pf, w_lret, w_e0, w_e1, w_e2, w_nil, w_fun, w_nt, w_nf, w_add, w_sub, w_eqt, w_eqf, w_net, w_nef, w_ltt, w_ltf, w_let, w_lef, w_gtt', w_gtf', w_get, w_gef, toNat_of, of_add, cast_add, nth_0, nth_s, Nat.zero_add, Nat.reduceAdd, Nat.reduceMul, Nat.add_zero, List.length_cons, List.length_nil, List.drop_zero, List.drop_succ_cons, List.take_succ_cons, List.take_zero, List.take_nil, true_and, and_true, Int.toNat_natCast, List.append_nil, List.nil_append, List.cons_append, ldB B1, clB B1, ldBL B1, clBL B1, ldB B2, clB B2, ldBL B2, clBL B2, w_eq]
  rw [hdb]
  try simp (disch := first | assumption | omega | (simp only [Int.ofNat_eq_natCast, neg_one]; done) | (simp only [Int.ofNat_eq_natCast, neg_one]; omega)) only [tysW, w_bindJ, w_logJ, w_ct, w_cf, w_gtt, w_gft, w_gtf, w_gff, w_pt, w_pf, w_lret, w_e0, w_e1, w_e2, w_nil, w_fun, w_nt, w_nf, w_add, w_sub, w_eqt, w_eqf, w_net, w_nef, w_ltt, w_ltf, w_let, w_lef, w_gtt', w_gtf', w_get, w_gef, toNat_of, of_add, cast_add, nth_0, nth_s, Nat.zero_add, Nat.reduceAdd, Nat.reduceMul, Nat.add_zero, List.length_cons, List.length_nil, List.drop_zero, List.drop_succ_cons, List.take_succ_cons, List.take_zero, List.take_nil, true_and, and_true, Int.toNat_natCast, List.append_nil, List.nil_append, List.cons_append, ldB B3, clB B3, ldBL B3, clBL B3]
  refine ValS.go u1 hp (s118 (d := d + 6) u1.fresh _ _ _) fun k2 s2 u2 c2' => ?_
  have B1 := u2.box b1 (by omega)
  have B2 := u2.box b2 (by omega)
  have B3 := u2.box b3 (by omega)
  have r2 := r0.from g0.fresh u2
  cases e2 : wI k.a 0 1099511627776 with
  | false =>
    try simp (disch := first | assumption | omega | (simp only [Int.ofNat_eq_natCast, neg_one]; done) | (simp only [Int.ofNat_eq_natCast, neg_one]; omega)) only [tysW, w_bindJ, w_logJ, w_ct, w_cf, w_gtt, w_gft, w_gtf, w_gff, w_pt, w_pf, w_lret, w_e0, w_e1, w_e2, w_nil, w_fun, w_nt, w_nf, w_add, w_sub, w_eqt, w_eqf, w_net, w_nef, w_ltt, w_ltf, w_let, w_lef, w_gtt', w_gtf', w_get, w_gef, toNat_of, of_add, cast_add, nth_0, nth_s, Nat.zero_add, Nat.reduceAdd, Nat.reduceMul, Nat.add_zero, List.length_cons, List.length_nil, List.drop_zero, List.drop_succ_cons, List.take_succ_cons, List.take_zero, List.take_nil, true_and, and_true, Int.toNat_natCast, List.append_nil, List.nil_append, List.cons_append, X51_4]
    exact done_ 2 _ _ u2 (by unfold judgeK; rw [if_pos (.inr e2)])
  | true =>
  have hn2 : ¬ (fitsK x base clean l = false ∨ wI k.a 0 maxT = false) := by unfold maxT; simp [e1, e2]
  have hfu : fullK x l = true → 0 < len := fun e => by
    have h1 : (l.length : Int) = x.keep := by simpa [fullK] using e
    have := (chk_keep (fits_iff.1 e1).1).1
    omega
  try simp (disch := first | assumption | omega | (simp only [Int.ofNat_eq_natCast, neg_one]; done) | (simp only [Int.ofNat_eq_natCast, neg_one]; omega)) only [tysW, w_bindJ, w_logJ, w_ct, w_cf, w_gtt, w_gft, w_gtf, w_gff, w_pt, w_pf, w_lret, w_e0, w_e1, w_e2, w_nil, w_fun, w_nt, w_nf, w_add, w_sub, w_eqt, w_eqf, w_net, w_nef, w_ltt, w_ltf, w_let, w_lef, w_gtt', w_gtf', w_get, w_gef, toNat_of, of_add, cast_add, nth_0, nth_s, Nat.zero_add, Nat.reduceAdd, Nat.reduceMul, Nat.add_zero, List.length_cons, List.length_nil, List.drop_zero, List.drop_succ_cons, List.take_succ_cons, List.take_zero, List.take_nil, true_and, and_true, Int.toNat_natCast, List.append_nil, List.nil_append, List.cons_append, ldB B1, clB B1, ldBL B1, clBL B1, ldB B2, clB B2, ldBL B2, clBL B2, ldB B3, clB B3, ldBL B3, clBL B3]
  unfold X51_4
  try simp (disch := first | assumption | omega | (simp only [Int.ofNat_eq_natCast, neg_one]; done) | (simp only [Int.ofNat_eq_natCast, neg_one]; omega)) only [tysW, w_bindJ, w_logJ, w_ct, w_cf, w_gtt, w_gft, w_gtf, w_gff, w_pt, w_pf, w_lret, w_e0, w_e1, w_e2, w_nil, w_fun, w_nt, w_nf, w_add, w_sub, w_eqt, w_eqf, w_net, w_nef, w_ltt, w_ltf, w_let, w_lef, w_gtt', w_gtf', w_get, w_gef, toNat_of, of_add, cast_add, nth_0, nth_s, Nat.zero_add, Nat.reduceAdd, Nat.reduceMul, Nat.add_zero, List.length_cons, List.length_nil, List.drop_zero, List.drop_succ_cons, List.take_succ_cons, List.take_zero, List.take_nil, true_and, and_true, Int.toNat_natCast, List.append_nil, List.nil_append, List.cons_append, ldB B1, clB B1, ldBL B1, clBL B1, ldB B2, clB B2, ldBL B2, clBL B2, ldB B3, clB B3, ldBL B3, clBL B3]
  refine ValS.go u2 hp (s120 (d := d + 5) hN u2.fresh r2.row hl k) fun k3 s3 u3 _ => ?_
  have B1 := u3.box b1 (by omega)
  have B2 := u3.box b2 (by omega)
  have B3 := u3.box b3 (by omega)
  have r3 := r0.from g0.fresh u3
  cases e3 : twinAny l k with
  | true =>
    try simp (disch := first | assumption | omega | (simp only [Int.ofNat_eq_natCast, neg_one]; done) | (simp only [Int.ofNat_eq_natCast, neg_one]; omega)) only [tysW, w_bindJ, w_logJ, w_ct, w_cf, w_gtt, w_gft, w_gtf, w_gff, w_pt, w_pf, w_lret, w_e0, w_e1, w_e2, w_nil, w_fun, w_nt, w_nf, w_add, w_sub, w_eqt, w_eqf, w_net, w_nef, w_ltt, w_ltf, w_let, w_lef, w_gtt', w_gtf', w_get, w_gef, toNat_of, of_add, cast_add, nth_0, nth_s, Nat.zero_add, Nat.reduceAdd, Nat.reduceMul, Nat.add_zero, List.length_cons, List.length_nil, List.drop_zero, List.drop_succ_cons, List.take_succ_cons, List.take_zero, List.take_nil, true_and, and_true, Int.toNat_natCast, List.append_nil, List.nil_append, List.cons_append]
    exact done_ 7 _ _ u3 (by unfold judgeK; rw [if_neg hn2, if_pos e3])
  | false =>
  have hn3 : ¬ twinAny l k = true := by simp [e3]
  by_cases e4 : k.a < floorK x base l
  · try simp (disch := first | assumption | omega | (simp only [Int.ofNat_eq_natCast, neg_one]; done) | (simp only [Int.ofNat_eq_natCast, neg_one]; omega)) only [tysW, w_bindJ, w_logJ, w_ct, w_cf, w_gtt, w_gft, w_gtf, w_gff, w_pt, w_pf, w_lret, w_e0, w_e1, w_e2, w_nil, w_fun, w_nt, w_nf, w_add, w_sub, w_eqt, w_eqf, w_net, w_nef, w_ltt, w_ltf, w_let, w_lef, w_gtt', w_gtf', w_get, w_gef, toNat_of, of_add, cast_add, nth_0, nth_s, Nat.zero_add, Nat.reduceAdd, Nat.reduceMul, Nat.add_zero, List.length_cons, List.length_nil, List.drop_zero, List.drop_succ_cons, List.take_succ_cons, List.take_zero, List.take_nil, true_and, and_true, Int.toNat_natCast, List.append_nil, List.nil_append, List.cons_append, ldB B3, clB B3, ldBL B3, clBL B3]
    unfold X51_3 X51_2 X51_1
    try simp (disch := first | assumption | omega | (simp only [Int.ofNat_eq_natCast, neg_one]; done) | (simp only [Int.ofNat_eq_natCast, neg_one]; omega)) only [tysW, w_bindJ, w_logJ, w_ct, w_cf, w_gtt, w_gft, w_gtf, w_gff, w_pt, w_pf, w_lret, w_e0, w_e1, w_e2, w_nil, w_fun, w_nt, w_nf, w_add, w_sub, w_eqt, w_eqf, w_net, w_nef, w_ltt, w_ltf, w_let, w_lef, w_gtt', w_gtf', w_get, w_gef, toNat_of, of_add, cast_add, nth_0, nth_s, Nat.zero_add, Nat.reduceAdd, Nat.reduceMul, Nat.add_zero, List.length_cons, List.length_nil, List.drop_zero, List.drop_succ_cons, List.take_succ_cons, List.take_zero, List.take_nil, true_and, and_true, Int.toNat_natCast, List.append_nil, List.nil_append, List.cons_append]
    exact done_ 6 _ _ u3 (by unfold judgeK; rw [if_neg hn2, if_neg hn3, if_pos (.inl e4)])
  try simp (disch := first | assumption | omega | (simp only [Int.ofNat_eq_natCast, neg_one]; done) | (simp only [Int.ofNat_eq_natCast, neg_one]; omega)) only [tysW, w_bindJ, w_logJ, w_ct, w_cf, w_gtt, w_gft, w_gtf, w_gff, w_pt, w_pf, w_lret, w_e0, w_e1, w_e2, w_nil, w_fun, w_nt, w_nf, w_add, w_sub, w_eqt, w_eqf, w_net, w_nef, w_ltt, w_ltf, w_let, w_lef, w_gtt', w_gtf', w_get, w_gef, toNat_of, of_add, cast_add, nth_0, nth_s, Nat.zero_add, Nat.reduceAdd, Nat.reduceMul, Nat.add_zero, List.length_cons, List.length_nil, List.drop_zero, List.drop_succ_cons, List.take_succ_cons, List.take_zero, List.take_nil, true_and, and_true, Int.toNat_natCast, List.append_nil, List.nil_append, List.cons_append, ldB B3, clB B3, ldBL B3, clBL B3]
  unfold X51_3
  cases e5 : fullK x l with
  | false =>
    rw [← hfb, e5]
    try simp (disch := first | assumption | omega | (simp only [Int.ofNat_eq_natCast, neg_one]; done) | (simp only [Int.ofNat_eq_natCast, neg_one]; omega)) only [tysW, w_bindJ, w_logJ, w_ct, w_cf, w_gtt, w_gft, w_gtf, w_gff, w_pt, w_pf, w_lret, w_e0, w_e1, w_e2, w_nil, w_fun, w_nt, w_nf, w_add, w_sub, w_eqt, w_eqf, w_net, w_nef, w_ltt, w_ltf, w_let, w_lef, w_gtt', w_gtf', w_get, w_gef, toNat_of, of_add, cast_add, nth_0, nth_s, Nat.zero_add, Nat.reduceAdd, Nat.reduceMul, Nat.add_zero, List.length_cons, List.length_nil, List.drop_zero, List.drop_succ_cons, List.take_succ_cons, List.take_zero, List.take_nil, true_and, and_true, Int.toNat_natCast, List.append_nil, List.nil_append, List.cons_append]
    unfold X51_2 X51_1
    try simp (disch := first | assumption | omega | (simp only [Int.ofNat_eq_natCast, neg_one]; done) | (simp only [Int.ofNat_eq_natCast, neg_one]; omega)) only [tysW, w_bindJ, w_logJ, w_ct, w_cf, w_gtt, w_gft, w_gtf, w_gff, w_pt, w_pf, w_lret, w_e0, w_e1, w_e2, w_nil, w_fun, w_nt, w_nf, w_add, w_sub, w_eqt, w_eqf, w_net, w_nef, w_ltt, w_ltf, w_let, w_lef, w_gtt', w_gtf', w_get, w_gef, toNat_of, of_add, cast_add, nth_0, nth_s, Nat.zero_add, Nat.reduceAdd, Nat.reduceMul, Nat.add_zero, List.length_cons, List.length_nil, List.drop_zero, List.drop_succ_cons, List.take_succ_cons, List.take_zero, List.take_nil, true_and, and_true, Int.toNat_natCast, List.append_nil, List.nil_append, List.cons_append]
    exact done_ 0 _ _ u3 (by unfold judgeK; rw [if_neg hn2, if_neg hn3, if_neg (by simp [e4, e5]), if_neg (by simp [e5])])
  | true =>
    rw [← hfb, e5]
    obtain ⟨y, hy⟩ := get_some (l := l) (i := 0) (by have := hfu e5; omega)
    try simp (disch := first | assumption | omega | (simp only [Int.ofNat_eq_natCast, neg_one]; done) | (simp only [Int.ofNat_eq_natCast, neg_one]; omega)) only [tysW, w_bindJ, w_logJ, w_ct, w_cf, w_gtt, w_gft, w_gtf, w_gff, w_pt, w_pf, w_lret, w_e0, w_e1, w_e2, w_nil, w_fun, w_nt, w_nf, w_add, w_sub, w_eqt, w_eqf, w_net, w_nef, w_ltt, w_ltf, w_let, w_lef, w_gtt', w_gtf', w_get, w_gef, toNat_of, of_add, cast_add, nth_0, nth_s, Nat.zero_add, Nat.reduceAdd, Nat.reduceMul, Nat.add_zero, List.length_cons, List.length_nil, List.drop_zero, List.drop_succ_cons, List.take_succ_cons, List.take_zero, List.take_nil, true_and, and_true, Int.toNat_natCast, List.append_nil, List.nil_append, List.cons_append, ldB B2, clB B2, ldBL B2, clBL B2, ldB B3, clB B3, ldBL B3, clBL B3]
    unfold X51_2
    try simp (disch := first | assumption | omega | (simp only [Int.ofNat_eq_natCast, neg_one]; done) | (simp only [Int.ofNat_eq_natCast, neg_one]; omega)) only [tysW, w_bindJ, w_logJ, w_ct, w_cf, w_gtt, w_gft, w_gtf, w_gff, w_pt, w_pf, w_lret, w_e0, w_e1, w_e2, w_nil, w_fun, w_nt, w_nf, w_add, w_sub, w_eqt, w_eqf, w_net, w_nef, w_ltt, w_ltf, w_let, w_lef, w_gtt', w_gtf', w_get, w_gef, toNat_of, of_add, cast_add, nth_0, nth_s, Nat.zero_add, Nat.reduceAdd, Nat.reduceMul, Nat.add_zero, List.length_cons, List.length_nil, List.drop_zero, List.drop_succ_cons, List.take_succ_cons, List.take_zero, List.take_nil, true_and, and_true, Int.toNat_natCast, List.append_nil, List.nil_append, List.cons_append, xa30 r3.row (hfu e5), row30L r3.row hy]
    refine ValS.goL u3 hp (s121 (d := d + 6) u3.fresh k y) fun k4 s4 ts4 ws4 u4 _ hw4 ht4 => ?_
    have B2 := u4.box b2 (by omega)
    unfold X51_1
    cases e6 : lessK k y with
    | true =>
      try simp (disch := first | assumption | omega | (simp only [Int.ofNat_eq_natCast, neg_one]; done) | (simp only [Int.ofNat_eq_natCast, neg_one]; omega)) only [tysW, w_bindJ, w_logJ, w_ct, w_cf, w_gtt, w_gft, w_gtf, w_gff, w_pt, w_pf, w_lret, w_e0, w_e1, w_e2, w_nil, w_fun, w_nt, w_nf, w_add, w_sub, w_eqt, w_eqf, w_net, w_nef, w_ltt, w_ltf, w_let, w_lef, w_gtt', w_gtf', w_get, w_gef, toNat_of, of_add, cast_add, nth_0, nth_s, Nat.zero_add, Nat.reduceAdd, Nat.reduceMul, Nat.add_zero, List.length_cons, List.length_nil, List.drop_zero, List.drop_succ_cons, List.take_succ_cons, List.take_zero, List.take_nil, true_and, and_true, Int.toNat_natCast, List.append_nil, List.nil_append, List.cons_append]
      exact done_ 6 _ _ u4 (by unfold judgeK; rw [if_neg hn2, if_neg hn3, if_pos (.inr ⟨e5, by unfold aheadK; rw [hy]; exact e6⟩)])
    | false =>
      have hn6 : ¬ (k.a < floorK x base l ∨ (fullK x l = true ∧ aheadK l k = true)) := by
        rintro (h1 | ⟨h1, h2⟩)
        · exact e4 h1
        · unfold aheadK at h2; rw [hy] at h2; rw [show lessK k y = true from h2] at e6; cases e6
      by_cases e7 : clean = 0
      · try simp (disch := first | assumption | omega | (simp only [Int.ofNat_eq_natCast, neg_one]; done) | (simp only [Int.ofNat_eq_natCast, neg_one]; omega)) only [tysW, w_bindJ, w_logJ, w_ct, w_cf, w_gtt, w_gft, w_gtf, w_gff, w_pt, w_pf, w_lret, w_e0, w_e1, w_e2, w_nil, w_fun, w_nt, w_nf, w_add, w_sub, w_eqt, w_eqf, w_net, w_nef, w_ltt, w_ltf, w_let, w_lef, w_gtt', w_gtf', w_get, w_gef, toNat_of, of_add, cast_add, nth_0, nth_s, Nat.zero_add, Nat.reduceAdd, Nat.reduceMul, Nat.add_zero, List.length_cons, List.length_nil, List.drop_zero, List.drop_succ_cons, List.take_succ_cons, List.take_zero, List.take_nil, true_and, and_true, Int.toNat_natCast, List.append_nil, List.nil_append, List.cons_append, ldB B2, clB B2, ldBL B2, clBL B2]
        exact done_ 12 _ _ u4 (by unfold judgeK; rw [if_neg hn2, if_neg hn3, if_neg hn6, if_pos ⟨e5, e7⟩])
      · try simp (disch := first | assumption | omega | (simp only [Int.ofNat_eq_natCast, neg_one]; done) | (simp only [Int.ofNat_eq_natCast, neg_one]; omega)) only [tysW, w_bindJ, w_logJ, w_ct, w_cf, w_gtt, w_gft, w_gtf, w_gff, w_pt, w_pf, w_lret, w_e0, w_e1, w_e2, w_nil, w_fun, w_nt, w_nf, w_add, w_sub, w_eqt, w_eqf, w_net, w_nef, w_ltt, w_ltf, w_let, w_lef, w_gtt', w_gtf', w_get, w_gef, toNat_of, of_add, cast_add, nth_0, nth_s, Nat.zero_add, Nat.reduceAdd, Nat.reduceMul, Nat.add_zero, List.length_cons, List.length_nil, List.drop_zero, List.drop_succ_cons, List.take_succ_cons, List.take_zero, List.take_nil, true_and, and_true, Int.toNat_natCast, List.append_nil, List.nil_append, List.cons_append, ldB B2, clB B2, ldBL B2, clBL B2]
        exact done_ 0 _ _ u4 (by unfold judgeK; rw [if_neg hn2, if_neg hn3, if_neg hn6, if_neg (fun h => e7 h.2)])
end
end Go.Ev.R

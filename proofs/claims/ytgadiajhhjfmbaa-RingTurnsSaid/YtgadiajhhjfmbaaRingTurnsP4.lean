/- The law RingTurns, part 4: what the functions answer, by their terms. No condition. -/
import Derived.Test.YtgadiajhhjfmbaaRingTurnsP3
set_option linter.unusedVariables false
set_option linter.unusedSimpArgs false
set_option maxRecDepth 100000
namespace Go.Ev.R
open Go Go.RowKit
/-- One's own list of entries, added to. -/
theorem apU {h0 h : T} {s0 s n8 f len n c : Nat} {q : Option Addr} {l l2 : List EV} {pw : Nat → Prop} {Z : Value → T → Prop} {k : Value → Nat → AM} (g : From s0 h0 h s) (hn8 : s0 ≤ n8) (hp8 : ∀ n, n8 ≤ n → pw n) (b8 : h.get n8 = some (.cells ⟨l.flatMap xv⟩ 43 (f, 0))) (hf8 : f = 0 ∨ f = 6) (hl : l.length = len) (r2 : Row EE h q n l2) (hsm : len + n ≤ 1000000)
    (hk : ∀ m f' h' s', From s0 h0 h' s' → s ≤ s' → h'.get m = some (.cells ⟨(l ++ l2).flatMap xv⟩ 43 (f', 0)) → (f' = 0 ∨ f' = 6) → (m = n8 ∨ s ≤ m) → (∀ i, i ≠ n8 → i < s → h'.get i = h.get i) → (k (.slice (some ⟨m, 0, none⟩) (len + n) (len + n)) s').wp pw Z h') :
    (apS 43 5 (some ⟨n8, 0, none⟩) len len q n c k s).wp pw Z h := by
  have hns := lt_of_some g.fresh ⟨_, b8⟩
  by_cases hz : n = 0
  · subst hz
    refine wp_ap_none (by omega) (Nat.le_refl _) (hk n8 f _ _ g (Nat.le_refl _) ?_ hf8 (.inl rfl) fun _ _ _ => rfl)
    have : l2 = [] := List.eq_nil_of_length_eq_zero r2.1
    rw [this, List.append_nil]; exact b8
  · refine Sl.addK (E := EE) (Sl.own (E := EE) b8 hf8 hl) r2 (fun _ => rfl) hz hsm (by omega) (g.fresh _ (Nat.le_refl _)) (hp8 _ (by omega)) (fun m o sp e => ?_) fun h2 b2 e2 => ?_
    · cases e
      exact ⟨hp8 _ (Nat.le_refl _), by omega, _, _, _, _, b8, hf8⟩
    · exact hk s 6 h2 _ ⟨by have := g.le; omega, fun i hi => by rw [e2 i (fun _ => by show i ≠ n8; omega) (by have := g.le; omega)]; exact g.keep i hi, fun i hi => by rw [e2 i (fun _ => by show i ≠ n8; omega) (by omega)]; exact g.fresh i (by omega)⟩ (by omega) b2 (.inr rfl) (.inr (Nat.le_refl _)) (fun i h1 h2 => e2 i (fun _ => h1) (by omega))
theorem apE {h0 h : T} {s0 s n8 f len n c : Nat} {q : Option Addr} {l l2 : List EV} {pw : Nat → Prop} {Z : Value → T → Prop} {j : LogT} (g : From s0 h0 h s) (hp : ∀ n, s0 ≤ n → pw n) (hn8 : s0 ≤ n8) (b8 : h.get n8 = some (.cells ⟨l.flatMap xv⟩ 43 (f, 0))) (hf8 : f = 0 ∨ f = 6) (hl : l.length = len) (r2 : Row EE h q n l2) (hsm : len + n ≤ 1000000)
    (hk : ∀ m f' h' s' ts ws, From s0 h0 h' s' → s ≤ s' → h'.get m = some (.cells ⟨(l ++ l2).flatMap xv⟩ 43 (f', 0)) → (f' = 0 ∨ f' = 6) → (m = n8 ∨ s ≤ m) → (∀ i, i ≠ n8 → i < s → h'.get i = h.get i) → (∀ i ∈ ws, n8 ≤ i ∧ i < s') → (∀ i ∈ ts, i < s') → (j (.slice (some ⟨m, 0, none⟩) (len + n) (len + n)) ts ws s').wp pw Z h') :
    (AM.log (apS 43 5 (some ⟨n8, 0, none⟩) len len q n c (fun v s => .ret (pk v s)) s) (logU j)).wp pw Z h := by
  refine log_wp (W := fun i => n8 ≤ i) (Q := fun v h' s' => ∃ m f', v = .slice (some ⟨m, 0, none⟩) (len + n) (len + n) ∧ From s0 h0 h' s' ∧ s ≤ s' ∧ h'.get m = some (.cells ⟨(l ++ l2).flatMap xv⟩ 43 (f', 0)) ∧ (f' = 0 ∨ f' = 6) ∧ (m = n8 ∨ s ≤ m) ∧ ∀ i, i ≠ n8 → i < s → h'.get i = h.get i) ?_ (fun i hi => hp i (by omega)) ?_
  · exact apU g hn8 (fun n hn => hn) b8 hf8 hl r2 hsm fun m f' h' s' a b c d e f => ⟨_, _, rfl, m, f', rfl, a, b, c, d, e, f⟩
  · rintro v h' s' ts ws ⟨m, f', rfl, g', hs', b', hf', hm, e'⟩ hw ht
    exact hk m f' h' s' ts ws g' hs' b' hf' hm e' (fun i hi => ⟨(hw i hi).1, lt_of_some g'.fresh (hw i hi).2⟩) fun i hi => lt_of_some g'.fresh (ht i hi)
section
variable {N d : Nat} (hN : 100000 ≤ N) {h0 h : T} {s0 s : Nat} (g : From s0 h0 h s) {pw : Nat → Prop} {Z : Value → T → Prop} (hp : ∀ n, s0 ≤ n → pw n) {K : Value → Nat → AM}
include hN g hp
set_option maxHeartbeats 1000000 in
theorem s64 {wb : Nat} (hwb : s0 ≤ wb) {keep : Nat} {L : List EN} {p : Option Addr} {cap : Nat} {l : List EV} (r : RefAt h wb keep L p cap l) (hlk : L.length ≤ keep) (hk2 : keep ≤ 1000) (e : EN) {pe : Option Addr} {ce : Nat} (a : Sl EI h pe e.data.length ce e.data) (hl : e.data.length ≤ 100000)
    (hk : ∀ h' s' p' cap' l', From s0 h0 h' s' → s ≤ s' → RefAt h' wb keep (insE keep e L).1 p' cap' l' → (∀ n, n < s → n ≠ wb → h'.get n = h.get n) → (cap' ≠ 0 → blk p' = blk p ∧ cap ≠ 0 ∨ s ≤ blk p') → (∀ x ∈ l', x.c ≠ 0 → x ∈ l ∨ s ≤ blk x.p) → (K (.tuple ⟨[vi (insE keep e L).2.1, vi (insE keep e L).2.2.1, vi (insE keep e L).2.2.2]⟩) s').wp pw Z h') : (D N (d + 2) 64 [ptr wb, eval e pe ce] K s).wp pw Z h := by
  rw [D_64]; unfold F64; rw [app2_eq]
  have hf := g.fresh
  have hsg := g.le
  have hws : wb < s := lt_of_some hf ⟨_, r.box⟩
  refine wp_boxA g hp fun h1 g1 c1 b1 => ?_
  simp only [ev] at b1
  try simp (disch := first | assumption | omega | (simp only [Int.ofNat_eq_natCast, neg_one]; done) | (simp only [Int.ofNat_eq_natCast, neg_one]; omega)) only [tysW, w_bindJ, w_logJ, w_ct, w_cf, w_gtt, w_gft, w_gtf, w_gff, w_pt, w_pf, w_lret, w_e0, w_e1, w_e2, w_nil, w_fun, w_nt, w_nf, w_add, w_sub, w_eqt, w_eqf, w_net, w_nef, w_ltt, w_ltf, w_let, w_lef, w_gtt', w_gtf', w_get, w_gef, toNat_of, of_add, cast_add, nth_0, nth_s, Nat.zero_add, Nat.reduceAdd, Nat.reduceMul, Nat.add_zero, List.length_cons, List.length_nil, List.drop_zero, List.drop_succ_cons, List.take_succ_cons, List.take_zero, List.take_nil, true_and, and_true, Int.toNat_natCast, List.append_nil, List.nil_append, List.cons_append, ldB b1, clB b1, ldBL b1, clBL b1]
  refine ValS.go g1 hp (s50 (d := d) g1.fresh e.k.a e.k.b e.k.c e.inp (.slice pe e.data.length ce)) fun h2 s2 g2 c2 => ?_
  have l2 := c2.le
  replace b1 := c2.box b1 (by omega)
  try simp (disch := first | assumption | omega | (simp only [Int.ofNat_eq_natCast, neg_one]; done) | (simp only [Int.ofNat_eq_natCast, neg_one]; omega)) only [tysW, w_bindJ, w_logJ, w_ct, w_cf, w_gtt, w_gft, w_gtf, w_gff, w_pt, w_pf, w_lret, w_e0, w_e1, w_e2, w_nil, w_fun, w_nt, w_nf, w_add, w_sub, w_eqt, w_eqf, w_net, w_nef, w_ltt, w_ltf, w_let, w_lef, w_gtt', w_gtf', w_get, w_gef, toNat_of, of_add, cast_add, nth_0, nth_s, Nat.zero_add, Nat.reduceAdd, Nat.reduceMul, Nat.add_zero, List.length_cons, List.length_nil, List.drop_zero, List.drop_succ_cons, List.take_succ_cons, List.take_zero, List.take_nil, true_and, and_true, Int.toNat_natCast, List.append_nil, List.nil_append, List.cons_append]
  refine wp_boxA g2 hp fun h3 g3 c3 b3 => ?_
  replace b1 := c3.box b1 (by omega)
  simp only [kval, kv]
  try simp (disch := first | assumption | omega | (simp only [Int.ofNat_eq_natCast, neg_one]; done) | (simp only [Int.ofNat_eq_natCast, neg_one]; omega)) only [tysW, w_bindJ, w_logJ, w_ct, w_cf, w_gtt, w_gft, w_gtf, w_gff, w_pt, w_pf, w_lret, w_e0, w_e1, w_e2, w_nil, w_fun, w_nt, w_nf, w_add, w_sub, w_eqt, w_eqf, w_net, w_nef, w_ltt, w_ltf, w_let, w_lef, w_gtt', w_gtf', w_get, w_gef, toNat_of, of_add, cast_add, nth_0, nth_s, Nat.zero_add, Nat.reduceAdd, Nat.reduceMul, Nat.add_zero, List.length_cons, List.length_nil, List.drop_zero, List.drop_succ_cons, List.take_succ_cons, List.take_zero, List.take_nil, true_and, and_true, Int.toNat_natCast, List.append_nil, List.nil_append, List.cons_append]
  refine wp_putF g3 hp b3 (by omega) (by exact Nat.le_refl 3) rfl fun h4 g4 b4 e4 => ?_
  simp only [overL] at b4
  replace b1 := (e4 s (by omega)).trans b1
  have k4 : From s h h4 (s2 + 1) := ⟨by omega, fun n hn => by rw [e4 n (by omega), c3.keep n (by omega), c2.keep n (by omega), c1.keep n hn], g4.fresh⟩
  try simp (disch := first | assumption | omega | (simp only [Int.ofNat_eq_natCast, neg_one]; done) | (simp only [Int.ofNat_eq_natCast, neg_one]; omega)) only [tysW, w_bindJ, w_logJ, w_ct, w_cf, w_gtt, w_gft, w_gtf, w_gff, w_pt, w_pf, w_lret, w_e0, w_e1, w_e2, w_nil, w_fun, w_nt, w_nf, w_add, w_sub, w_eqt, w_eqf, w_net, w_nef, w_ltt, w_ltf, w_let, w_lef, w_gtt', w_gtf', w_get, w_gef, toNat_of, of_add, cast_add, nth_0, nth_s, Nat.zero_add, Nat.reduceAdd, Nat.reduceMul, Nat.add_zero, List.length_cons, List.length_nil, List.drop_zero, List.drop_succ_cons, List.take_succ_cons, List.take_zero, List.take_nil, true_and, and_true, Int.toNat_natCast, List.append_nil, List.nil_append, List.cons_append]
  have loop : ∀ (J : Value → Nat → AM) (hJ : ∀ i h5 s5, From s0 h0 h5 s5 → From (s2 + 1) h4 h5 s5 → i ≤ L.length → plK e.k (ksE L) = i → (J (vi (i : Nat)) s5).wp pw Z h5) (B : (Value → Nat → AM) → Value → Nat → AM) (hB : ∀ H i s', B H i s' = X64_13 N (D N (d + 1)) K (ptr wb) J (ptr s2) H i s') (m i : Nat) (h5 : T) (s5 : Nat), L.length - i < m → i ≤ L.length → From s0 h0 h5 s5 → From (s2 + 1) h4 h5 s5 → (∀ k y, k < i → (ksE L)[k]? = some y → lessK y e.k = true) →
      (loopJ m 1 (fun _ _ => AM.fail) B (vi i) s5).wp pw Z h5 := by
    intro J hJ B hB m
    induction m with
    | zero => intro i h5 s5 hm; omega
    | succ m ih =>
      intro i h5 s5 hm hil g5 c5 hno
      have l5 := c5.le
      have r5 := (r.from hf (k4.trans c5))
      have w5 := r5.box
      have rr := r5.sl.row
      rw [loopJ_succ, hB]
      unfold X64_13
      try simp (disch := first | assumption | omega | (simp only [Int.ofNat_eq_natCast, neg_one]; done) | (simp only [Int.ofNat_eq_natCast, neg_one]; omega)) only [tysW, w_bindJ, w_logJ, w_ct, w_cf, w_gtt, w_gft, w_gtf, w_gff, w_pt, w_pf, w_lret, w_e0, w_e1, w_e2, w_nil, w_fun, w_nt, w_nf, w_add, w_sub, w_eqt, w_eqf, w_net, w_nef, w_ltt, w_ltf, w_let, w_lef, w_gtt', w_gtf', w_get, w_gef, toNat_of, of_add, cast_add, nth_0, nth_s, Nat.zero_add, Nat.reduceAdd, Nat.reduceMul, Nat.add_zero, List.length_cons, List.length_nil, List.drop_zero, List.drop_succ_cons, List.take_succ_cons, List.take_zero, List.take_nil, true_and, and_true, Int.toNat_natCast, List.append_nil, List.nil_append, List.cons_append, ldB w5, clB w5, ldBL w5, clBL w5]
      unfold X64_12 X64_11 X64_10 X64_9
      by_cases hlt : i < L.length
      · obtain ⟨y, hy⟩ := get_some (l := L) (i := i) (by omega)
        obtain ⟨x, hx, q1, q2⟩ := r5.at hy
        have b5 := c5.box b4 (by omega)
        try simp (disch := first | assumption | omega | (simp only [Int.ofNat_eq_natCast, neg_one]; done) | (simp only [Int.ofNat_eq_natCast, neg_one]; omega)) only [tysW, w_bindJ, w_logJ, w_ct, w_cf, w_gtt, w_gft, w_gtf, w_gff, w_pt, w_pf, w_lret, w_e0, w_e1, w_e2, w_nil, w_fun, w_nt, w_nf, w_add, w_sub, w_eqt, w_eqf, w_net, w_nef, w_ltt, w_ltf, w_let, w_lef, w_gtt', w_gtf', w_get, w_gef, toNat_of, of_add, cast_add, nth_0, nth_s, Nat.zero_add, Nat.reduceAdd, Nat.reduceMul, Nat.add_zero, List.length_cons, List.length_nil, List.drop_zero, List.drop_succ_cons, List.take_succ_cons, List.take_zero, List.take_nil, true_and, and_true, Int.toNat_natCast, List.append_nil, List.nil_append, List.cons_append, ldB w5, clB w5, ldBL w5, clBL w5, xaE rr (j := (i : Int)) (by omega) (by omega), entAL rr hx]
        refine ValS.goL g5 hp (s50 (d := d) g5.fresh x.k.a x.k.b x.k.c x.inp (.slice x.p x.n x.c)) fun h6 s6 ts6 ws6 g6 c6 hw6 ht6 => ?_
        have b6 := c6.box b5 (by omega)
        try simp (disch := first | assumption | omega | (simp only [Int.ofNat_eq_natCast, neg_one]; done) | (simp only [Int.ofNat_eq_natCast, neg_one]; omega)) only [tysW, w_bindJ, w_logJ, w_ct, w_cf, w_gtt, w_gft, w_gtf, w_gff, w_pt, w_pf, w_lret, w_e0, w_e1, w_e2, w_nil, w_fun, w_nt, w_nf, w_add, w_sub, w_eqt, w_eqf, w_net, w_nef, w_ltt, w_ltf, w_let, w_lef, w_gtt', w_gtf', w_get, w_gef, toNat_of, of_add, cast_add, nth_0, nth_s, Nat.zero_add, Nat.reduceAdd, Nat.reduceMul, Nat.add_zero, List.length_cons, List.length_nil, List.drop_zero, List.drop_succ_cons, List.take_succ_cons, List.take_zero, List.take_nil, true_and, and_true, Int.toNat_natCast, List.append_nil, List.nil_append, List.cons_append, ldB b6, clB b6, ldBL b6, clBL b6]
        refine ValS.goL g6 hp (s18 (d := d) g6.fresh x.k e.k) fun h7 s7 ts7 ws7 g7 c7 hw7 ht7 => ?_
        have hpb : blk p < s5 := rr.below g5.fresh (i := i) (by omega)
        try simp (disch := first | assumption | omega | (simp only [Int.ofNat_eq_natCast, neg_one]; done) | (simp only [Int.ofNat_eq_natCast, neg_one]; omega)) only [tysW, w_bindJ, w_logJ, w_ct, w_cf, w_gtt, w_gft, w_gtf, w_gff, w_pt, w_pf, w_lret, w_e0, w_e1, w_e2, w_nil, w_fun, w_nt, w_nf, w_add, w_sub, w_eqt, w_eqf, w_net, w_nef, w_ltt, w_ltf, w_let, w_lef, w_gtt', w_gtf', w_get, w_gef, toNat_of, of_add, cast_add, nth_0, nth_s, Nat.zero_add, Nat.reduceAdd, Nat.reduceMul, Nat.add_zero, List.length_cons, List.length_nil, List.drop_zero, List.drop_succ_cons, List.take_succ_cons, List.take_zero, List.take_nil, true_and, and_true, Int.toNat_natCast, List.append_nil, List.nil_append, List.cons_append]
        rw [wp_guard, if_pos (by repeat' (first | exact dynOk_nil _ _ | refine dyn_skip' ?_ | refine dyn_cons ?_ ?_ | exact allF_nil _ _ | refine allF_cons ?_ ?_ | exact disj_below hw6 (by omega) | exact disjA hw6 (by omega) | exact disjB hw6 (by omega) | exact disjC hw6 (by assumption) | exact disjD (fun m hm => by have := hw6 m hm; omega) | exact disj_below ht6 (by omega) | exact disjA ht6 (by omega) | exact disjB ht6 (by omega) | exact disjC ht6 (by assumption) | exact disjD (fun m hm => by have := ht6 m hm; omega) | exact disj_below hw7 (by omega) | exact disjA hw7 (by omega) | exact disjB hw7 (by omega) | exact disjC hw7 (by assumption) | exact disjD (fun m hm => by have := hw7 m hm; omega) | exact disj_below ht7 (by omega) | exact disjA ht7 (by omega) | exact disjB ht7 (by omega) | exact disjC ht7 (by assumption) | exact disjD (fun m hm => by have := ht7 m hm; omega) | exact disjN _ | exact disj1 (by omega) | exact disj2 (by omega) | exact disj3 (by assumption) | exact disjC hw6 (fun m hm => by have := ht6 m hm; omega) | exact disjC hw6 (fun m hm => by have := hw7 m hm; omega) | exact disjC hw6 (fun m hm => by have := ht7 m hm; omega) | exact disjC ht6 (fun m hm => by have := hw6 m hm; omega) | exact disjC ht6 (fun m hm => by have := hw7 m hm; omega) | exact disjC ht6 (fun m hm => by have := ht7 m hm; omega) | exact disjC hw7 (fun m hm => by have := hw6 m hm; omega) | exact disjC hw7 (fun m hm => by have := ht6 m hm; omega) | exact disjC hw7 (fun m hm => by have := ht7 m hm; omega) | exact disjC ht7 (fun m hm => by have := hw6 m hm; omega) | exact disjC ht7 (fun m hm => by have := ht6 m hm; omega) | exact disjC ht7 (fun m hm => by have := hw7 m hm; omega))), q1]
        cases hls : lessK y.k e.k with
        | true =>
          try simp (disch := first | assumption | omega | (simp only [Int.ofNat_eq_natCast, neg_one]; done) | (simp only [Int.ofNat_eq_natCast, neg_one]; omega)) only [tysW, w_bindJ, w_logJ, w_ct, w_cf, w_gtt, w_gft, w_gtf, w_gff, w_pt, w_pf, w_lret, w_e0, w_e1, w_e2, w_nil, w_fun, w_nt, w_nf, w_add, w_sub, w_eqt, w_eqf, w_net, w_nef, w_ltt, w_ltf, w_let, w_lef, w_gtt', w_gtf', w_get, w_gef, toNat_of, of_add, cast_add, nth_0, nth_s, Nat.zero_add, Nat.reduceAdd, Nat.reduceMul, Nat.add_zero, List.length_cons, List.length_nil, List.drop_zero, List.drop_succ_cons, List.take_succ_cons, List.take_zero, List.take_nil, true_and, and_true, Int.toNat_natCast, List.append_nil, List.nil_append, List.cons_append]
          exact ih (i + 1) h7 s7 (by omega) (by omega) g7 (c5.trans (c6.trans c7)) fun k z hk' hz => by
            rcases Nat.lt_or_ge k i with h6' | h6'
            · exact hno k z h6' hz
            · rw [show k = i by omega, ks_get, hy] at hz; cases hz; exact hls
        | false =>
          try simp (disch := first | assumption | omega | (simp only [Int.ofNat_eq_natCast, neg_one]; done) | (simp only [Int.ofNat_eq_natCast, neg_one]; omega)) only [tysW, w_bindJ, w_logJ, w_ct, w_cf, w_gtt, w_gft, w_gtf, w_gff, w_pt, w_pf, w_lret, w_e0, w_e1, w_e2, w_nil, w_fun, w_nt, w_nf, w_add, w_sub, w_eqt, w_eqf, w_net, w_nef, w_ltt, w_ltf, w_let, w_lef, w_gtt', w_gtf', w_get, w_gef, toNat_of, of_add, cast_add, nth_0, nth_s, Nat.zero_add, Nat.reduceAdd, Nat.reduceMul, Nat.add_zero, List.length_cons, List.length_nil, List.drop_zero, List.drop_succ_cons, List.take_succ_cons, List.take_zero, List.take_nil, true_and, and_true, Int.toNat_natCast, List.append_nil, List.nil_append, List.cons_append]
          exact hJ i h7 s7 g7 (c5.trans (c6.trans c7)) hil (pl_eq (by rw [ks_len]; exact hil) hno fun z hz => by rw [ks_get, hy] at hz; cases hz; exact hls)
      · obtain rfl : i = L.length := by omega
        try simp (disch := first | assumption | omega | (simp only [Int.ofNat_eq_natCast, neg_one]; done) | (simp only [Int.ofNat_eq_natCast, neg_one]; omega)) only [tysW, w_bindJ, w_logJ, w_ct, w_cf, w_gtt, w_gft, w_gtf, w_gff, w_pt, w_pf, w_lret, w_e0, w_e1, w_e2, w_nil, w_fun, w_nt, w_nf, w_add, w_sub, w_eqt, w_eqf, w_net, w_nef, w_ltt, w_ltf, w_let, w_lef, w_gtt', w_gtf', w_get, w_gef, toNat_of, of_add, cast_add, nth_0, nth_s, Nat.zero_add, Nat.reduceAdd, Nat.reduceMul, Nat.add_zero, List.length_cons, List.length_nil, List.drop_zero, List.drop_succ_cons, List.take_succ_cons, List.take_zero, List.take_nil, true_and, and_true, Int.toNat_natCast, List.append_nil, List.nil_append, List.cons_append]
        rw [wp_guard, if_pos (by repeat' (first | exact dynOk_nil _ _ | refine dyn_skip' ?_ | refine dyn_cons ?_ ?_ | exact allF_nil _ _ | refine allF_cons ?_ ?_))]
        try simp (disch := first | assumption | omega | (simp only [Int.ofNat_eq_natCast, neg_one]; done) | (simp only [Int.ofNat_eq_natCast, neg_one]; omega)) only [tysW, w_bindJ, w_logJ, w_ct, w_cf, w_gtt, w_gft, w_gtf, w_gff, w_pt, w_pf, w_lret, w_e0, w_e1, w_e2, w_nil, w_fun, w_nt, w_nf, w_add, w_sub, w_eqt, w_eqf, w_net, w_nef, w_ltt, w_ltf, w_let, w_lef, w_gtt', w_gtf', w_get, w_gef, toNat_of, of_add, cast_add, nth_0, nth_s, Nat.zero_add, Nat.reduceAdd, Nat.reduceMul, Nat.add_zero, List.length_cons, List.length_nil, List.drop_zero, List.drop_succ_cons, List.take_succ_cons, List.take_zero, List.take_nil, true_and, and_true, Int.toNat_natCast, List.append_nil, List.nil_append, List.cons_append]
        exact hJ _ h5 s5 g5 c5 (Nat.le_refl _) (pl_eq (by rw [ks_len]; exact Nat.le_refl _) hno fun z hz => by have := (List.getElem?_eq_some_iff.1 hz).1; rw [ks_len] at this; omega)
  refine loop _ (fun i h5 s5 g5 c5 hil hpl => ?_) _ (fun _ _ _ => rfl) N 0 h4 (s2 + 1) (by omega) (by omega) g4 (.refl g4.fresh) (fun k y hk => by omega)
  have l5 := c5.le
  have k5 := k4.trans c5
  have r5 := r.from hf k5
  have w5 := r5.box
  have rr := r5.sl.row
  have b5 := c5.box b4 (by omega)
  replace b1 := c5.box b1 (by omega)
  have rest : ∀ (h6 : T) (s6 : Nat), atK e.k (ksE L) = false → From s0 h0 h6 s6 → From s5 h5 h6 s6 →
      (nilX (ptr wb) (fun v44 s' => fa 67 v44 1 (fun v45 s' => AM.log (ld 36 v45 (fun v s => AM.ret (pk v s)) s') (logU ((fun v46 _ _ s' => AM.log (lenX P ⟨[36]⟩ v46 (fun v s => AM.ret (pk v s)) s') (logU ((fun v47 _ _ s' => nilX (ptr wb) (fun v48 s' => fa 67 v48 0 (fun v49 s' => AM.log (ld 3 v49 (fun v s => AM.ret (pk v s)) s') (logU (X64_4 N (D N (d + 1)) K v47 (ptr wb) (vi i) (ptr s)))) s') s') : LogT))) : LogT))) s') s6).wp pw Z h6 := by
    intro h6 s6 hat g6 c6
    have l6 := c6.le
    have k6 := k5.trans c6
    have r6 := r.from hf k6
    have w6 := r6.box
    replace b1 := c6.box b1 (by omega)
    try simp (disch := first | assumption | omega | (simp only [Int.ofNat_eq_natCast, neg_one]; done) | (simp only [Int.ofNat_eq_natCast, neg_one]; omega)) only [tysW, w_bindJ, w_logJ, w_ct, w_cf, w_gtt, w_gft, w_gtf, w_gff, w_pt, w_pf, w_lret, w_e0, w_e1, w_e2, w_nil, w_fun, w_nt, w_nf, w_add, w_sub, w_eqt, w_eqf, w_net, w_nef, w_ltt, w_ltf, w_let, w_lef, w_gtt', w_gtf', w_get, w_gef, toNat_of, of_add, cast_add, nth_0, nth_s, Nat.zero_add, Nat.reduceAdd, Nat.reduceMul, Nat.add_zero, List.length_cons, List.length_nil, List.drop_zero, List.drop_succ_cons, List.take_succ_cons, List.take_zero, List.take_nil, true_and, and_true, Int.toNat_natCast, List.append_nil, List.nil_append, List.cons_append, ldB w6, clB w6, ldBL w6, clBL w6]
    unfold X64_4
    by_cases hfull : L.length = keep
    · have hin : insE keep e L = (L, 0, 0, 13) := by unfold insE; rw [if_neg (by simp [hat]), if_pos (by omega)]
      rw [hin] at hk
      try simp (disch := first | assumption | omega | (simp only [Int.ofNat_eq_natCast, neg_one]; done) | (simp only [Int.ofNat_eq_natCast, neg_one]; omega)) only [tysW, w_bindJ, w_logJ, w_ct, w_cf, w_gtt, w_gft, w_gtf, w_gff, w_pt, w_pf, w_lret, w_e0, w_e1, w_e2, w_nil, w_fun, w_nt, w_nf, w_add, w_sub, w_eqt, w_eqf, w_net, w_nef, w_ltt, w_ltf, w_let, w_lef, w_gtt', w_gtf', w_get, w_gef, toNat_of, of_add, cast_add, nth_0, nth_s, Nat.zero_add, Nat.reduceAdd, Nat.reduceMul, Nat.add_zero, List.length_cons, List.length_nil, List.drop_zero, List.drop_succ_cons, List.take_succ_cons, List.take_zero, List.take_nil, true_and, and_true, Int.toNat_natCast, List.append_nil, List.nil_append, List.cons_append]
      exact hk h6 s6 p cap l g6 k6.le r6 (fun n hn _ => k6.keep n hn) (fun hc => .inl ⟨rfl, hc⟩) (fun x hx _ => .inl hx)
    have hin : insE keep e L = (L.take i ++ e :: L.drop i, (i : Int), (L.length : Int) - i, 0) := by unfold insE; rw [if_neg (by simp [hat]), if_neg (by omega), hpl]
    rw [hin] at hk
    have hcap := r6.sl.le
    have hll := r6.len
    try simp (disch := first | assumption | omega | (simp only [Int.ofNat_eq_natCast, neg_one]; done) | (simp only [Int.ofNat_eq_natCast, neg_one]; omega)) only [tysW, w_bindJ, w_logJ, w_ct, w_cf, w_gtt, w_gft, w_gtf, w_gff, w_pt, w_pf, w_lret, w_e0, w_e1, w_e2, w_nil, w_fun, w_nt, w_nf, w_add, w_sub, w_eqt, w_eqf, w_net, w_nef, w_ltt, w_ltf, w_let, w_lef, w_gtt', w_gtf', w_get, w_gef, toNat_of, of_add, cast_add, nth_0, nth_s, Nat.zero_add, Nat.reduceAdd, Nat.reduceMul, Nat.add_zero, List.length_cons, List.length_nil, List.drop_zero, List.drop_succ_cons, List.take_succ_cons, List.take_zero, List.take_nil, true_and, and_true, Int.toNat_natCast, List.append_nil, List.nil_append, List.cons_append]
    refine wp_newF g6 hp fun h7 g7 c7 b7 => ?_
    have w7 := c7.box w6 (lt_of_some g6.fresh ⟨_, w6⟩)
    have sl7 := r6.sl.from g6.fresh c7
    try simp (disch := first | assumption | omega | (simp only [Int.ofNat_eq_natCast, neg_one]; done) | (simp only [Int.ofNat_eq_natCast, neg_one]; omega)) only [tysW, w_bindJ, w_logJ, w_ct, w_cf, w_gtt, w_gft, w_gtf, w_gff, w_pt, w_pf, w_lret, w_e0, w_e1, w_e2, w_nil, w_fun, w_nt, w_nf, w_add, w_sub, w_eqt, w_eqf, w_net, w_nef, w_ltt, w_ltf, w_let, w_lef, w_gtt', w_gtf', w_get, w_gef, toNat_of, of_add, cast_add, nth_0, nth_s, Nat.zero_add, Nat.reduceAdd, Nat.reduceMul, Nat.add_zero, List.length_cons, List.length_nil, List.drop_zero, List.drop_succ_cons, List.take_succ_cons, List.take_zero, List.take_nil, true_and, and_true, Int.toNat_natCast, List.append_nil, List.nil_append, List.cons_append, ldB w7, clB w7, ldBL w7, clBL w7]
    refine sl7.cut (a := i) (b := L.length) (c := cap) (ab_from hil hcap .i64) hil (Nat.le_refl _) hcap (Nat.le_refl _) fun p7 s7' hp7 => ?_
    try simp (disch := first | assumption | omega | (simp only [Int.ofNat_eq_natCast, neg_one]; done) | (simp only [Int.ofNat_eq_natCast, neg_one]; omega)) only [tysW, w_bindJ, w_logJ, w_ct, w_cf, w_gtt, w_gft, w_gtf, w_gff, w_pt, w_pf, w_lret, w_e0, w_e1, w_e2, w_nil, w_fun, w_nt, w_nf, w_add, w_sub, w_eqt, w_eqf, w_net, w_nef, w_ltt, w_ltf, w_let, w_lef, w_gtt', w_gtf', w_get, w_gef, toNat_of, of_add, cast_add, nth_0, nth_s, Nat.zero_add, Nat.reduceAdd, Nat.reduceMul, Nat.add_zero, List.length_cons, List.length_nil, List.drop_zero, List.drop_succ_cons, List.take_succ_cons, List.take_zero, List.take_nil, true_and, and_true, Int.toNat_natCast, List.append_nil, List.nil_append, List.cons_append]
    refine apU (l := []) (f := 0) g7 (by omega) (fun n hn => hp n (by omega)) b7 (.inl rfl) rfl s7'.row (by omega) fun m8 f8 h8 s8 g8 l8 b8 hf8 hm8 e8 => ?_
    have k8 : ∀ n, n < s6 → h8.get n = h6.get n := fun n hn => by rw [e8 n (by omega) (by omega), c7.keep n hn]
    have w8 : h8.get wb = _ := (k8 wb (by omega)).trans w6
    have sl8 : Sl EE h8 p L.length cap l := r6.sl.but fun hc => k8 _ (r6.sl.lt g6.fresh hc)
    rw [List.nil_append, List.take_of_length_le (by rw [List.length_drop]; omega)] at b8
    try simp (disch := first | assumption | omega | (simp only [Int.ofNat_eq_natCast, neg_one]; done) | (simp only [Int.ofNat_eq_natCast, neg_one]; omega)) only [tysW, w_bindJ, w_logJ, w_ct, w_cf, w_gtt, w_gft, w_gtf, w_gff, w_pt, w_pf, w_lret, w_e0, w_e1, w_e2, w_nil, w_fun, w_nt, w_nf, w_add, w_sub, w_eqt, w_eqf, w_net, w_nef, w_ltt, w_ltf, w_let, w_lef, w_gtt', w_gtf', w_get, w_gef, toNat_of, of_add, cast_add, nth_0, nth_s, Nat.zero_add, Nat.reduceAdd, Nat.reduceMul, Nat.add_zero, List.length_cons, List.length_nil, List.drop_zero, List.drop_succ_cons, List.take_succ_cons, List.take_zero, List.take_nil, true_and, and_true, Int.toNat_natCast, List.append_nil, List.nil_append, List.cons_append]
    refine wp_newL (q := fun b => .slice (some ⟨b, 0, none⟩) 0 0) g8 hp fun h9 g9 c9 b9 => ?_
    have l9 := c9.le
    have w9 := c9.box w8 (lt_of_some g8.fresh ⟨_, w8⟩)
    have sl9 := sl8.from g8.fresh c9
    have b89 := c9.box b8 (lt_of_some g8.fresh ⟨_, b8⟩)
    have hm8' := lt_of_some g8.fresh ⟨_, b8⟩
    have b19 := c9.box ((k8 s (by omega)).trans b1) (by omega)
    unfold X64_3
    try simp (disch := first | assumption | omega | (simp only [Int.ofNat_eq_natCast, neg_one]; done) | (simp only [Int.ofNat_eq_natCast, neg_one]; omega)) only [tysW, w_bindJ, w_logJ, w_ct, w_cf, w_gtt, w_gft, w_gtf, w_gff, w_pt, w_pf, w_lret, w_e0, w_e1, w_e2, w_nil, w_fun, w_nt, w_nf, w_add, w_sub, w_eqt, w_eqf, w_net, w_nef, w_ltt, w_ltf, w_let, w_lef, w_gtt', w_gtf', w_get, w_gef, toNat_of, of_add, cast_add, nth_0, nth_s, Nat.zero_add, Nat.reduceAdd, Nat.reduceMul, Nat.add_zero, List.length_cons, List.length_nil, List.drop_zero, List.drop_succ_cons, List.take_succ_cons, List.take_zero, List.take_nil, true_and, and_true, Int.toNat_natCast, List.append_nil, List.nil_append, List.cons_append, ldB w9, clB w9, ldBL w9, clBL w9]
    refine sl9.cutL (a := 0) (b := i) (c := cap) (ab_to (by omega) .i64) (by omega) hil (by omega) (Nat.le_refl _) fun p10 ts10 s10' hp10 hts10 => ?_
    try simp (disch := first | assumption | omega | (simp only [Int.ofNat_eq_natCast, neg_one]; done) | (simp only [Int.ofNat_eq_natCast, neg_one]; omega)) only [tysW, w_bindJ, w_logJ, w_ct, w_cf, w_gtt, w_gft, w_gtf, w_gff, w_pt, w_pf, w_lret, w_e0, w_e1, w_e2, w_nil, w_fun, w_nt, w_nf, w_add, w_sub, w_eqt, w_eqf, w_net, w_nef, w_ltt, w_ltf, w_let, w_lef, w_gtt', w_gtf', w_get, w_gef, toNat_of, of_add, cast_add, nth_0, nth_s, Nat.zero_add, Nat.reduceAdd, Nat.reduceMul, Nat.add_zero, List.length_cons, List.length_nil, List.drop_zero, List.drop_succ_cons, List.take_succ_cons, List.take_zero, List.take_nil, true_and, and_true, Int.toNat_natCast, List.append_nil, List.nil_append, List.cons_append]
    refine apE (l := []) (f := 0) g9 hp (by omega) b9 (.inl rfl) rfl s10'.row (by omega) fun m11 f11 h11 s11 ts11 ws11 g11 l11 b11 hf11 hm11 e11 hw11 ht11 => ?_
    rw [List.nil_append, List.drop_zero, Nat.sub_zero] at b11
    have hbs8 : s < s6 := by omega
    have b111 := (e11 s (by omega) (by omega)).trans b19
    have hm11' := lt_of_some g11.fresh ⟨_, b11⟩
    try simp (disch := first | assumption | omega | (simp only [Int.ofNat_eq_natCast, neg_one]; done) | (simp only [Int.ofNat_eq_natCast, neg_one]; omega)) only [tysW, w_bindJ, w_logJ, w_ct, w_cf, w_gtt, w_gft, w_gtf, w_gff, w_pt, w_pf, w_lret, w_e0, w_e1, w_e2, w_nil, w_fun, w_nt, w_nf, w_add, w_sub, w_eqt, w_eqf, w_net, w_nef, w_ltt, w_ltf, w_let, w_lef, w_gtt', w_gtf', w_get, w_gef, toNat_of, of_add, cast_add, nth_0, nth_s, Nat.zero_add, Nat.reduceAdd, Nat.reduceMul, Nat.add_zero, List.length_cons, List.length_nil, List.drop_zero, List.drop_succ_cons, List.take_succ_cons, List.take_zero, List.take_nil, true_and, and_true, Int.toNat_natCast, List.append_nil, List.nil_append, List.cons_append, ldB b111, clB b111, ldBL b111, clBL b111]
    unfold X64_2
    have k11 : ∀ n, n < s6 → h11.get n = h6.get n := fun n hn => by rw [e11 n (by omega) (by omega), c9.keep n (by omega), k8 n hn]
    have a11 : Sl EI h11 pe e.data.length ce e.data := (a.from hf k6).but fun hc => k11 _ (by have := a.lt hf hc; omega)
    rw [show Value.agg ⟨[vi e.k.a, vi e.k.b, vi e.k.c, .bool e.inp, .slice pe e.data.length ce]⟩ = eval e pe ce from rfl]
    refine PureS.goL g11 hp (s82 (d := d) g11.fresh e a11 hl) fun v h12 s12 ts12 ws12 g12 c12 hv hw12 ht12 => ?_
    obtain ⟨p12, rfl, o12⟩ := hv
    have l12 := c12.le
    simp only [eval, ev]
    try simp (disch := first | assumption | omega | (simp only [Int.ofNat_eq_natCast, neg_one]; done) | (simp only [Int.ofNat_eq_natCast, neg_one]; omega)) only [tysW, w_bindJ, w_logJ, w_ct, w_cf, w_gtt, w_gft, w_gtf, w_gff, w_pt, w_pf, w_lret, w_e0, w_e1, w_e2, w_nil, w_fun, w_nt, w_nf, w_add, w_sub, w_eqt, w_eqf, w_net, w_nef, w_ltt, w_ltf, w_let, w_lef, w_gtt', w_gtf', w_get, w_gef, toNat_of, of_add, cast_add, nth_0, nth_s, Nat.zero_add, Nat.reduceAdd, Nat.reduceMul, Nat.add_zero, List.length_cons, List.length_nil, List.drop_zero, List.drop_succ_cons, List.take_succ_cons, List.take_zero, List.take_nil, true_and, and_true, Int.toNat_natCast, List.append_nil, List.nil_append, List.cons_append]
    refine wp_newL (q := fun b => .slice (some ⟨b, 0, none⟩) 1 1) g12 hp fun h13 g13 c13 b13 => ?_
    have b113 := c13.box (c12.box b11 hm11') (by omega)
    have r13 : Row EE h13 (some ⟨s12, 0, none⟩) 1 [⟨e.k, e.inp, p12, e.data.length, e.data.length⟩] := .of_cells b13 rfl
    rw [Nat.sub_zero]
    try simp (disch := first | assumption | omega | (simp only [Int.ofNat_eq_natCast, neg_one]; done) | (simp only [Int.ofNat_eq_natCast, neg_one]; omega)) only [tysW, w_bindJ, w_logJ, w_ct, w_cf, w_gtt, w_gft, w_gtf, w_gff, w_pt, w_pf, w_lret, w_e0, w_e1, w_e2, w_nil, w_fun, w_nt, w_nf, w_add, w_sub, w_eqt, w_eqf, w_net, w_nef, w_ltt, w_ltf, w_let, w_lef, w_gtt', w_gtf', w_get, w_gef, toNat_of, of_add, cast_add, nth_0, nth_s, Nat.zero_add, Nat.reduceAdd, Nat.reduceMul, Nat.add_zero, List.length_cons, List.length_nil, List.drop_zero, List.drop_succ_cons, List.take_succ_cons, List.take_zero, List.take_nil, true_and, and_true, Int.toNat_natCast, List.append_nil, List.nil_append, List.cons_append]
    refine apE (l := l.take i) (f := f11) g13 hp (by omega) b113 hf11 (by rw [List.length_take]; omega) r13 (by omega) fun m15 f15 h15 s15 ts15 ws15 g15 l15 b15 hf15 hm15 e15 hw15 ht15 => ?_
    have hm15' := lt_of_some g15.fresh ⟨_, b15⟩
    have b815 : h15.get m8 = some (.cells ⟨(l.drop i).flatMap xv⟩ 43 (f8, 0)) := by rw [e15 m8 (by omega) (by omega), c13.keep m8 (by omega), c12.keep m8 (by omega), e11 m8 (by omega) (by omega)]; exact b89
    have r815 : Row EE h15 (some ⟨m8, 0, none⟩) (L.length - i) (l.drop i) := .of_cells b815 (by rw [List.length_drop]; omega)
    try simp (disch := first | assumption | omega | (simp only [Int.ofNat_eq_natCast, neg_one]; done) | (simp only [Int.ofNat_eq_natCast, neg_one]; omega)) only [tysW, w_bindJ, w_logJ, w_ct, w_cf, w_gtt, w_gft, w_gtf, w_gff, w_pt, w_pf, w_lret, w_e0, w_e1, w_e2, w_nil, w_fun, w_nt, w_nf, w_add, w_sub, w_eqt, w_eqf, w_net, w_nef, w_ltt, w_ltf, w_let, w_lef, w_gtt', w_gtf', w_get, w_gef, toNat_of, of_add, cast_add, nth_0, nth_s, Nat.zero_add, Nat.reduceAdd, Nat.reduceMul, Nat.add_zero, List.length_cons, List.length_nil, List.drop_zero, List.drop_succ_cons, List.take_succ_cons, List.take_zero, List.take_nil, true_and, and_true, Int.toNat_natCast, List.append_nil, List.nil_append, List.cons_append]
    refine apE (l := l.take i ++ [⟨e.k, e.inp, p12, e.data.length, e.data.length⟩]) (f := f15) g15 hp (by omega) b15 hf15 (by rw [List.length_append, List.length_take]; simp; omega) r815 (by omega) fun m16 f16 h16 s16 ts16 ws16 g16 l16 b16 hf16 hm16 e16 hw16 ht16 => ?_
    have K16 : ∀ n, n < s12 → n ≠ m11 → n ≠ s8 → h16.get n = h12.get n := fun n x1 x2 x3 => by rw [e16 n (by omega) (by omega), e15 n x2 (by omega), c13.keep n (by omega)]
    have K6 : ∀ n, n < s6 → h16.get n = h6.get n := fun n x1 => by rw [K16 n (by omega) (by omega) (by omega), c12.keep n (by omega), k11 n x1]
    have w16 := (K6 wb (by omega)).trans w6
    unfold X64_1
    try simp (disch := first | assumption | omega | (simp only [Int.ofNat_eq_natCast, neg_one]; done) | (simp only [Int.ofNat_eq_natCast, neg_one]; omega)) only [tysW, w_bindJ, w_logJ, w_ct, w_cf, w_gtt, w_gft, w_gtf, w_gff, w_pt, w_pf, w_lret, w_e0, w_e1, w_e2, w_nil, w_fun, w_nt, w_nf, w_add, w_sub, w_eqt, w_eqf, w_net, w_nef, w_ltt, w_ltf, w_let, w_lef, w_gtt', w_gtf', w_get, w_gef, toNat_of, of_add, cast_add, nth_0, nth_s, Nat.zero_add, Nat.reduceAdd, Nat.reduceMul, Nat.add_zero, List.length_cons, List.length_nil, List.drop_zero, List.drop_succ_cons, List.take_succ_cons, List.take_zero, List.take_nil, true_and, and_true, Int.toNat_natCast, List.append_nil, List.nil_append, List.cons_append]
    refine wp_putL g16 hp w16 hwb (by simp) rfl fun h17 g17 b17 e17 => ?_
    simp only [overL] at b17
    have ht10 : ∀ n ∈ ts10, n < s8 := fun n hn => by
      obtain ⟨rfl, hc⟩ := hts10 n hn
      have := r.sl.lt hf hc
      omega
    rw [wp_guard, if_pos (by repeat' (first | exact dynOk_nil _ _ | refine dyn_skip' ?_ | refine dyn_cons ?_ ?_ | exact allF_nil _ _ | refine allF_cons ?_ ?_ | exact disj_below ht10 (by omega) | exact disjA ht10 (by omega) | exact disjB ht10 (by omega) | exact disjC ht10 (by assumption) | exact disjD (fun m hm => by have := ht10 m hm; omega) | exact disj_below hw11 (by omega) | exact disjA hw11 (by omega) | exact disjB hw11 (by omega) | exact disjC hw11 (by assumption) | exact disjD (fun m hm => by have := hw11 m hm; omega) | exact disj_below ht11 (by omega) | exact disjA ht11 (by omega) | exact disjB ht11 (by omega) | exact disjC ht11 (by assumption) | exact disjD (fun m hm => by have := ht11 m hm; omega) | exact disjN _ | exact disj1 (by omega) | exact disj2 (by omega) | exact disj3 (by assumption) | exact disjC ht10 (fun m hm => by have := hw11 m hm; omega) | exact disjC ht10 (fun m hm => by have := ht11 m hm; omega) | exact disjC hw11 (fun m hm => by have := ht10 m hm; omega) | exact disjC hw11 (fun m hm => by have := ht11 m hm; omega) | exact disjC ht11 (fun m hm => by have := ht10 m hm; omega) | exact disjC ht11 (fun m hm => by have := hw11 m hm; omega)))]
    try simp (disch := first | assumption | omega | (simp only [Int.ofNat_eq_natCast, neg_one]; done) | (simp only [Int.ofNat_eq_natCast, neg_one]; omega)) only [tysW, w_bindJ, w_logJ, w_ct, w_cf, w_gtt, w_gft, w_gtf, w_gff, w_pt, w_pf, w_lret, w_e0, w_e1, w_e2, w_nil, w_fun, w_nt, w_nf, w_add, w_sub, w_eqt, w_eqf, w_net, w_nef, w_ltt, w_ltf, w_let, w_lef, w_gtt', w_gtf', w_get, w_gef, toNat_of, of_add, cast_add, nth_0, nth_s, Nat.zero_add, Nat.reduceAdd, Nat.reduceMul, Nat.add_zero, List.length_cons, List.length_nil, List.drop_zero, List.drop_succ_cons, List.take_succ_cons, List.take_zero, List.take_nil, true_and, and_true, Int.toNat_natCast, List.append_nil, List.nil_append, List.cons_append]
    have hX : (L.take i ++ e :: L.drop i).length = i + 1 + (L.length - i) := by simp; omega
    have hm16' : m16 ≠ wb ∧ s ≤ m16 := by omega
    have hil' : i ≤ l.length := by rw [← hll] at hil; exact hil
    have hall : l.take i ++ [⟨e.k, e.inp, p12, e.data.length, e.data.length⟩] ++ l.drop i = l.take i ++ (⟨e.k, e.inp, p12, e.data.length, e.data.length⟩ : EV) :: l.drop i := by simp
    rw [hall] at b16
    have K17 : ∀ n, n < s → n ≠ wb → h17.get n = h.get n := fun n x1 x2 => by rw [e17 n x2, K6 n (by omega)]; exact k6.keep n x1
    have hp12 : e.data.length ≠ 0 → p12 ≠ none := fun hc hn => by
      obtain ⟨_, ⟨_, h⟩ | ⟨n, f, h, _⟩⟩ := o12
      · exact hc h
      · rw [hn] at h; cases h
    have a17 : Sl EI h17 p12 e.data.length e.data.length e.data := o12.sl.but fun hc => by
      have := o12.lt g12.fresh (hp12 hc)
      rw [e17 _ (by omega), K16 _ (by omega) (by omega) (by omega)]
    have hkk := hk h17 s16 (some ⟨m16, 0, none⟩) (i + 1 + (L.length - i)) (l.take i ++ ⟨e.k, e.inp, p12, e.data.length, e.data.length⟩ :: l.drop i) g17 (by omega) ⟨?_, ?_, fun _ => hm16'.1, fun j x hx => ?_, fun x hx hc => ?_⟩ K17 (fun _ => .inr hm16'.2) (fun x hx hc => ?_)
    · rw [show ((L.length - i : Nat) : Int) = (L.length : Int) - i by omega]
      exact hkk
    · rw [hX]; exact b17
    · rw [hX]
      exact Sl.own (E := EE) (by rw [e17 m16 hm16'.1]; exact b16) hf16 (by rw [← hX]; simp; omega)
    · rw [put_get l _ hil'] at hx
      rw [put_get L e hil]
      have old : ∀ (j : Nat) (x : EV), l[j]? = some x → ∃ e, L[j]? = some e ∧ Rel h17 x e := fun j x hx => by
        obtain ⟨y, h1, h2⟩ := r.rel j x hx
        exact ⟨y, h1, h2.but fun hc => K17 _ (h2.2.2.2.lt hf hc) (r.neD x (List.mem_of_getElem? hx) hc)⟩
      by_cases h1' : j < i
      · rw [if_pos h1'] at hx ⊢
        exact old j x hx
      · rw [if_neg h1'] at hx ⊢
        by_cases h2' : j = i
        · rw [if_pos h2'] at hx ⊢
          cases hx
          exact ⟨e, rfl, rfl, rfl, rfl, a17⟩
        · rw [if_neg h2'] at hx ⊢
          exact old (j - 1) x hx
    · rcases List.mem_append.1 hx with h | h
      · exact r.neD x (List.mem_of_mem_take h) hc
      · rcases List.mem_cons.1 h with rfl | h
        · have := o12.lt g12.fresh (hp12 hc)
          show blk p12 ≠ wb
          omega
        · exact r.neD x (List.mem_of_mem_drop h) hc
    · rcases List.mem_append.1 hx with h | h
      · exact .inl (List.mem_of_mem_take h)
      · rcases List.mem_cons.1 h with rfl | h
        · have := o12.lt g12.fresh (hp12 hc)
          exact .inr (by show s ≤ blk p12; omega)
        · exact .inl (List.mem_of_mem_drop h)
  try simp (disch := first | assumption | omega | (simp only [Int.ofNat_eq_natCast, neg_one]; done) | (simp only [Int.ofNat_eq_natCast, neg_one]; omega)) only [tysW, w_bindJ, w_logJ, w_ct, w_cf, w_gtt, w_gft, w_gtf, w_gff, w_pt, w_pf, w_lret, w_e0, w_e1, w_e2, w_nil, w_fun, w_nt, w_nf, w_add, w_sub, w_eqt, w_eqf, w_net, w_nef, w_ltt, w_ltf, w_let, w_lef, w_gtt', w_gtf', w_get, w_gef, toNat_of, of_add, cast_add, nth_0, nth_s, Nat.zero_add, Nat.reduceAdd, Nat.reduceMul, Nat.add_zero, List.length_cons, List.length_nil, List.drop_zero, List.drop_succ_cons, List.take_succ_cons, List.take_zero, List.take_nil, true_and, and_true, Int.toNat_natCast, List.append_nil, List.nil_append, List.cons_append, ldB w5, clB w5, ldBL w5, clBL w5]
  unfold X64_8 X64_7 X64_6 X64_5
  by_cases hlt : i < L.length
  · obtain ⟨y, hy⟩ := get_some (l := L) (i := i) (by omega)
    obtain ⟨x, hx, q1, q2⟩ := r5.at hy
    try simp (disch := first | assumption | omega | (simp only [Int.ofNat_eq_natCast, neg_one]; done) | (simp only [Int.ofNat_eq_natCast, neg_one]; omega)) only [tysW, w_bindJ, w_logJ, w_ct, w_cf, w_gtt, w_gft, w_gtf, w_gff, w_pt, w_pf, w_lret, w_e0, w_e1, w_e2, w_nil, w_fun, w_nt, w_nf, w_add, w_sub, w_eqt, w_eqf, w_net, w_nef, w_ltt, w_ltf, w_let, w_lef, w_gtt', w_gtf', w_get, w_gef, toNat_of, of_add, cast_add, nth_0, nth_s, Nat.zero_add, Nat.reduceAdd, Nat.reduceMul, Nat.add_zero, List.length_cons, List.length_nil, List.drop_zero, List.drop_succ_cons, List.take_succ_cons, List.take_zero, List.take_nil, true_and, and_true, Int.toNat_natCast, List.append_nil, List.nil_append, List.cons_append, ldB w5, clB w5, ldBL w5, clBL w5, xaE rr (j := (i : Int)) (by omega) (by omega), entAL rr hx]
    refine ValS.goL g5 hp (s50 (d := d) g5.fresh x.k.a x.k.b x.k.c x.inp (.slice x.p x.n x.c)) fun h6 s6 ts6 ws6 g6 c6 hw6 ht6 => ?_
    have b6 := c6.box b5 (by omega)
    have hpb : blk p < s5 := rr.below g5.fresh (i := i) (by omega)
    try simp (disch := first | assumption | omega | (simp only [Int.ofNat_eq_natCast, neg_one]; done) | (simp only [Int.ofNat_eq_natCast, neg_one]; omega)) only [tysW, w_bindJ, w_logJ, w_ct, w_cf, w_gtt, w_gft, w_gtf, w_gff, w_pt, w_pf, w_lret, w_e0, w_e1, w_e2, w_nil, w_fun, w_nt, w_nf, w_add, w_sub, w_eqt, w_eqf, w_net, w_nef, w_ltt, w_ltf, w_let, w_lef, w_gtt', w_gtf', w_get, w_gef, toNat_of, of_add, cast_add, nth_0, nth_s, Nat.zero_add, Nat.reduceAdd, Nat.reduceMul, Nat.add_zero, List.length_cons, List.length_nil, List.drop_zero, List.drop_succ_cons, List.take_succ_cons, List.take_zero, List.take_nil, true_and, and_true, Int.toNat_natCast, List.append_nil, List.nil_append, List.cons_append, ldB b6, clB b6, ldBL b6, clBL b6]
    rw [show Value.agg ⟨[.int .i64 e.k.a, .int .i64 e.k.b, .int .i64 e.k.c]⟩ = kval e.k from rfl, show (⟨x.k.a, x.k.b, x.k.c⟩ : K3) = x.k from rfl, eq_23, q1]
    have hsame : atK e.k (ksE L) = sameK y.k e.k := by unfold atK; rw [hpl, ks_get, hy]; rfl
    cases hsm : sameK y.k e.k with
    | true =>
      try simp (disch := first | assumption | omega | (simp only [Int.ofNat_eq_natCast, neg_one]; done) | (simp only [Int.ofNat_eq_natCast, neg_one]; omega)) only [tysW, w_bindJ, w_logJ, w_ct, w_cf, w_gtt, w_gft, w_gtf, w_gff, w_pt, w_pf, w_lret, w_e0, w_e1, w_e2, w_nil, w_fun, w_nt, w_nf, w_add, w_sub, w_eqt, w_eqf, w_net, w_nef, w_ltt, w_ltf, w_let, w_lef, w_gtt', w_gtf', w_get, w_gef, toNat_of, of_add, cast_add, nth_0, nth_s, Nat.zero_add, Nat.reduceAdd, Nat.reduceMul, Nat.add_zero, List.length_cons, List.length_nil, List.drop_zero, List.drop_succ_cons, List.take_succ_cons, List.take_zero, List.take_nil, true_and, and_true, Int.toNat_natCast, List.append_nil, List.nil_append, List.cons_append]
      rw [wp_guard, if_pos (by repeat' (first | exact dynOk_nil _ _ | refine dyn_skip' ?_ | refine dyn_cons ?_ ?_ | exact allF_nil _ _ | refine allF_cons ?_ ?_ | exact disj_below hw6 (by omega) | exact disjA hw6 (by omega) | exact disjB hw6 (by omega) | exact disjC hw6 (by assumption) | exact disjD (fun m hm => by have := hw6 m hm; omega) | exact disj_below ht6 (by omega) | exact disjA ht6 (by omega) | exact disjB ht6 (by omega) | exact disjC ht6 (by assumption) | exact disjD (fun m hm => by have := ht6 m hm; omega) | exact disjN _ | exact disj1 (by omega) | exact disj2 (by omega) | exact disj3 (by assumption) | exact disjC hw6 (fun m hm => by have := ht6 m hm; omega) | exact disjC ht6 (fun m hm => by have := hw6 m hm; omega)))]
      try simp (disch := first | assumption | omega | (simp only [Int.ofNat_eq_natCast, neg_one]; done) | (simp only [Int.ofNat_eq_natCast, neg_one]; omega)) only [tysW, w_bindJ, w_logJ, w_ct, w_cf, w_gtt, w_gft, w_gtf, w_gff, w_pt, w_pf, w_lret, w_e0, w_e1, w_e2, w_nil, w_fun, w_nt, w_nf, w_add, w_sub, w_eqt, w_eqf, w_net, w_nef, w_ltt, w_ltf, w_let, w_lef, w_gtt', w_gtf', w_get, w_gef, toNat_of, of_add, cast_add, nth_0, nth_s, Nat.zero_add, Nat.reduceAdd, Nat.reduceMul, Nat.add_zero, List.length_cons, List.length_nil, List.drop_zero, List.drop_succ_cons, List.take_succ_cons, List.take_zero, List.take_nil, true_and, and_true, Int.toNat_natCast, List.append_nil, List.nil_append, List.cons_append]
      have hin : insE keep e L = (L, 0, 0, 7) := by unfold insE; rw [if_pos (by rw [hsame, hsm])]
      rw [hin] at hk
      exact hk h6 s6 p cap l g6 (k5.trans c6).le (r.from hf (k5.trans c6)) (fun n hn _ => (k5.trans c6).keep n hn) (fun hc => .inl ⟨rfl, hc⟩) (fun x hx _ => .inl hx)
    | false =>
      try simp (disch := first | assumption | omega | (simp only [Int.ofNat_eq_natCast, neg_one]; done) | (simp only [Int.ofNat_eq_natCast, neg_one]; omega)) only [tysW, w_bindJ, w_logJ, w_ct, w_cf, w_gtt, w_gft, w_gtf, w_gff, w_pt, w_pf, w_lret, w_e0, w_e1, w_e2, w_nil, w_fun, w_nt, w_nf, w_add, w_sub, w_eqt, w_eqf, w_net, w_nef, w_ltt, w_ltf, w_let, w_lef, w_gtt', w_gtf', w_get, w_gef, toNat_of, of_add, cast_add, nth_0, nth_s, Nat.zero_add, Nat.reduceAdd, Nat.reduceMul, Nat.add_zero, List.length_cons, List.length_nil, List.drop_zero, List.drop_succ_cons, List.take_succ_cons, List.take_zero, List.take_nil, true_and, and_true, Int.toNat_natCast, List.append_nil, List.nil_append, List.cons_append]
      rw [wp_guard, if_pos (by repeat' (first | exact dynOk_nil _ _ | refine dyn_skip' ?_ | refine dyn_cons ?_ ?_ | exact allF_nil _ _ | refine allF_cons ?_ ?_ | exact disj_below hw6 (by omega) | exact disjA hw6 (by omega) | exact disjB hw6 (by omega) | exact disjC hw6 (by assumption) | exact disjD (fun m hm => by have := hw6 m hm; omega) | exact disj_below ht6 (by omega) | exact disjA ht6 (by omega) | exact disjB ht6 (by omega) | exact disjC ht6 (by assumption) | exact disjD (fun m hm => by have := ht6 m hm; omega) | exact disjN _ | exact disj1 (by omega) | exact disj2 (by omega) | exact disj3 (by assumption) | exact disjC hw6 (fun m hm => by have := ht6 m hm; omega) | exact disjC ht6 (fun m hm => by have := hw6 m hm; omega)))]
      exact rest h6 s6 (by rw [hsame, hsm]) g6 c6
  · obtain rfl : i = L.length := by omega
    try simp (disch := first | assumption | omega | (simp only [Int.ofNat_eq_natCast, neg_one]; done) | (simp only [Int.ofNat_eq_natCast, neg_one]; omega)) only [tysW, w_bindJ, w_logJ, w_ct, w_cf, w_gtt, w_gft, w_gtf, w_gff, w_pt, w_pf, w_lret, w_e0, w_e1, w_e2, w_nil, w_fun, w_nt, w_nf, w_add, w_sub, w_eqt, w_eqf, w_net, w_nef, w_ltt, w_ltf, w_let, w_lef, w_gtt', w_gtf', w_get, w_gef, toNat_of, of_add, cast_add, nth_0, nth_s, Nat.zero_add, Nat.reduceAdd, Nat.reduceMul, Nat.add_zero, List.length_cons, List.length_nil, List.drop_zero, List.drop_succ_cons, List.take_succ_cons, List.take_zero, List.take_nil, true_and, and_true, Int.toNat_natCast, List.append_nil, List.nil_append, List.cons_append]
    rw [wp_guard, if_pos (by repeat' (first | exact dynOk_nil _ _ | refine dyn_skip' ?_ | refine dyn_cons ?_ ?_ | exact allF_nil _ _ | refine allF_cons ?_ ?_))]
    have hat : atK e.k (ksE L) = false := by unfold atK; rw [hpl, List.getElem?_eq_none (by rw [ks_len]; omega)]
    exact rest h5 s5 hat g5 (.refl g5.fresh)
end
end Go.Ev.R
namespace Go.Ev.R
open Go Go.RowKit
/-- A turn as it comes in. -/
structure TV where
  e : EV
  dr : Bool
  pl : Int
def tv (x : TV) : List Value := xv x.e ++ [.bool x.dr, vi x.pl]
def ET : Enc TV := ⟨7, tv, by decide, fun _ => rfl⟩
def RefAv (p : Option Addr) (cap : Nat) (l : List EV) (A : Nat → Prop) : Prop := (cap ≠ 0 → ¬ A (blk p)) ∧ ∀ x ∈ l, x.c ≠ 0 → ¬ A (blk x.p)
theorem RefAt.but2 {h h' : T} {wb s : Nat} {keep : Int} {L : List EN} {p : Option Addr} {cap : Nat} {l : List EV} (r : RefAt h wb keep L p cap l) (hf : ∀ n, s ≤ n → h.get n = none) {A : Nat → Prop} (a : RefAv p cap l A) (hwb : ¬ A wb) (e : ∀ n, n < s → ¬ A n → h'.get n = h.get n) : RefAt h' wb keep L p cap l := by
  have hw := lt_of_some hf ⟨_, r.box⟩
  refine ⟨by rw [e wb hw hwb]; exact r.box, r.sl.but fun hc => e _ (r.sl.lt hf hc) (a.1 hc), r.ne, fun i x hx => ?_, r.neD⟩
  obtain ⟨y, h1, h2⟩ := r.rel i x hx
  exact ⟨y, h1, h2.but fun hc => e _ (h2.2.2.2.lt hf hc) (a.2 x (List.mem_of_getElem? hx) hc)⟩
theorem RingAt.but2 {h h' : T} {rb q keep first s : Nat} {bs : List Nat} {L : List EN} {A : Nat → Prop} (r : RingAt h rb q keep first bs L) (hf : ∀ n, s ≤ n → h.get n = none) (a : Avoid h bs A) (hrb : ¬ A rb) (hq : ¬ A q) (e : ∀ n, n < s → ¬ A n → h'.get n = h.get n) : RingAt h' rb q keep first bs L := by
  obtain ⟨cs, h1, h2, h3⟩ := r.row
  refine ⟨by rw [e rb (lt_of_some hf ⟨_, r.box⟩) hrb]; exact r.box, ⟨cs, by rw [e q (lt_of_some hf ⟨_, h1⟩) hq]; exact h1, h2, h3⟩, r.ne, r.pos, r.fst, r.le, r.len, fun i b hb => ?_⟩
  obtain ⟨x, h4, p, c, h5, h6, h7⟩ := r.ent i b hb
  obtain ⟨a1, a2⟩ := a i b hb
  exact ⟨x, h4, p, c, by rw [e b (lt_of_some hf ⟨_, h5⟩) a1]; exact h5, h6.but fun hc => e _ (h6.lt hf hc) (a2 x p c h5 hc), h7⟩
/-- What was made later is none of a ring's. -/
theorem RingAt.avoid {h : T} {rb q keep first s : Nat} {bs : List Nat} {L : List EN} (r : RingAt h rb q keep first bs L) (hf : ∀ n, s ≤ n → h.get n = none) {A : Nat → Prop} (hA : ∀ n, A n → s ≤ n) : Avoid h bs A := fun i b hb => by
  obtain ⟨x, h4, p, c, h5, h6, h7⟩ := r.ent i b hb
  refine ⟨fun ha => by have := hA b ha; have := lt_of_some hf ⟨_, h5⟩; omega, fun e p' c' hx hc ha => ?_⟩
  obtain ⟨rfl, rfl⟩ := ev_inj (h5.symm.trans hx)
  have := hA _ ha
  have := h6.lt hf hc
  omega
theorem RefAt.avoid {h : T} {wb s : Nat} {keep : Int} {L : List EN} {p : Option Addr} {cap : Nat} {l : List EV} (r : RefAt h wb keep L p cap l) (hf : ∀ n, s ≤ n → h.get n = none) {A : Nat → Prop} (hA : ∀ n, A n → s ≤ n) : RefAv p cap l A := by
  refine ⟨fun hc ha => by have := hA _ ha; have := r.sl.lt hf hc; omega, fun x hx hc ha => ?_⟩
  obtain ⟨i, hi⟩ := List.getElem?_of_mem hx
  obtain ⟨y, h1, h2⟩ := r.rel i x hi
  have := hA _ ha
  have := h2.2.2.2.lt hf hc
  omega
/-- Both rings, with the same entries. -/
structure Both (h : T) (rb q wb keep : Nat) (L : List EN) : Prop where
  ring : ∃ first bs, RingAt h rb q keep first bs L ∧ Avoid h bs (· = wb)
  ref : ∃ p cap l, RefAt h wb keep L p cap l ∧ RefAv p cap l (fun n => n = rb ∨ n = q)
  rise : risingK (ksE L) = true
  d20 : ∀ e ∈ L, e.data.length ≤ 20
  ne : rb ≠ wb ∧ q ≠ wb
  le : L.length ≤ keep
theorem Both.from {h h' : T} {rb q wb keep s s' : Nat} {L : List EN} (b : Both h rb q wb keep L) (hf : ∀ n, s ≤ n → h.get n = none) (g : From s h h' s') : Both h' rb q wb keep L := by
  obtain ⟨first, bs, r1, r2⟩ := b.ring
  obtain ⟨p, cap, l, r3, r4⟩ := b.ref
  exact ⟨⟨first, bs, r1.from hf g, r2.keep fun i b hb => g.keep _ (r1.below hf hb)⟩, ⟨p, cap, l, r3.from hf g, r4⟩, b.rise, b.d20, b.ne, b.le⟩
/-- What Get tells. -/
def getE (L : List EN) (i : Int) : EN × Int := match (if 0 ≤ i then L[i.toNat]? else none) with
  | some e => (e, 0)
  | none => (⟨⟨0, 0, 0⟩, false, []⟩, 4)
theorem getE_in {L : List EN} {i : Int} {e : EN} (h0 : 0 ≤ i) (he : L[i.toNat]? = some e) : getE L i = (e, 0) := by unfold getE; rw [if_pos h0, he]
theorem getE_out {L : List EN} {i : Int} (h0 : ¬ (0 ≤ i ∧ i < L.length)) : getE L i = (⟨⟨0, 0, 0⟩, false, []⟩, 4) := by
  unfold getE
  split
  · rename_i e he
    exfalso
    split at he
    · have := (List.getElem?_eq_some_iff.1 he).1; omega
    · cases he
  · rfl
theorem getE_20 {L : List EN} (hd : ∀ e ∈ L, e.data.length ≤ 20) (i : Int) : (getE L i).1.data.length ≤ 20 := by
  unfold getE
  split
  · rename_i e he
    split at he
    · exact hd e (List.mem_of_getElem? he)
    · cases he
  · exact Nat.zero_le _
section
variable {N d : Nat} (hN : 100000 ≤ N) {h : T} {s : Nat} (hf : ∀ n, s ≤ n → h.get n = none)
include hf
theorem get1 {rb q keep first : Nat} {bs : List Nat} {L : List EN} (r : RingAt h rb q keep first bs L) (hk2 : keep ≤ 1000) (hd : ∀ e ∈ L, e.data.length ≤ 20) (i : Int) : PureS (D N (d + 3)) 32 [ptr rb, vi i] h s (fun v h' s' => ∃ p', v = .tuple ⟨[eval (getE L i).1 p' (getE L i).1.data.length, vi (getE L i).2]⟩ ∧ OwnI h' s p' (getE L i).1.data.length (getE L i).1.data) := by
  refine PureS.of hf fun K pw Z g hp hk => ?_
  refine PureS.go g hp (s32o (d := d) hf r hk2 (fun e he => by have := hd e he; omega) i) fun v h2 s2 g2 c2 hv => hk v h2 s2 g2 ?_
  by_cases hi : 0 ≤ i ∧ i < L.length
  · rw [if_pos hi] at hv
    obtain ⟨e, p', he, rfl, o⟩ := hv
    rw [getE_in hi.1 he]
    exact ⟨p', rfl, o⟩
  · rw [if_neg hi] at hv
    rw [getE_out hi]
    exact ⟨none, hv, rfl, .inl ⟨rfl, rfl⟩⟩
theorem get2 {wb : Nat} {keep : Int} {L : List EN} {p : Option Addr} {cap : Nat} {l : List EV} (r : RefAt h wb keep L p cap l) (hl : L.length ≤ 1000) (hd : ∀ e ∈ L, e.data.length ≤ 20) (i : Int) : PureS (D N (d + 2)) 67 [ptr wb, vi i] h s (fun v h' s' => ∃ p', v = .tuple ⟨[eval (getE L i).1 p' (getE L i).1.data.length, vi (getE L i).2]⟩ ∧ OwnI h' s p' (getE L i).1.data.length (getE L i).1.data) := by
  refine PureS.of hf fun K pw Z g hp hk => ?_
  refine PureS.go g hp (s67 (d := d) hf r (fun e he => by have := hd e he; omega) hl i) fun v h2 s2 g2 c2 hv => hk v h2 s2 g2 ?_
  by_cases hi : 0 ≤ i ∧ i < L.length
  · rw [if_pos hi] at hv
    obtain ⟨e, p', he, rfl, o⟩ := hv
    rw [getE_in hi.1 he]
    exact ⟨p', rfl, o⟩
  · rw [if_neg hi] at hv
    rw [getE_out hi]
    exact ⟨none, hv, rfl, .inl ⟨rfl, rfl⟩⟩
omit hf in
theorem until_one {L : List EN} {t : Int} {i j : Nat} (hr : risingK (ksE L) = true) (hi : i ≤ L.length) (h1 : ∀ (k : Nat) (e : EN), k + 1 = i → L[k]? = some e → e.k.a ≤ t) (h2 : ∀ e : EN, L[i]? = some e → ¬ e.k.a ≤ t) (hj : j ≤ L.length) (h3 : ∀ (k : Nat) (e : EN), k < j → L[k]? = some e → e.k.a ≤ t) (h4 : ∀ e : EN, L[j]? = some e → ¬ e.k.a ≤ t) : i = j := by
  rcases Nat.lt_trichotomy i j with h | h | h
  · obtain ⟨e, he⟩ := get_some (l := L) (i := i) (by omega)
    exact absurd (h3 i e h he) (h2 e he)
  · exact h
  · exfalso
    obtain ⟨e, he⟩ := get_some (l := L) (i := i - 1) (by omega)
    obtain ⟨y, hy⟩ := get_some (l := L) (i := j) (by omega)
    have h5 := h1 (i - 1) e (by omega) he
    have h6 := h4 y hy
    rcases Nat.eq_or_lt_of_le (show j ≤ i - 1 by omega) with h7 | h7
    · subst h7; rw [he] at hy; cases hy; exact h6 h5
    · have := less_le (rise_lt (l := ksE L) hr (i := j) (by rw [ks_get, hy]; rfl) h7 (by rw [ks_get, he]; rfl))
      omega
omit hf in
theorem xaT {h : T} {p : Option Addr} {len : Nat} {l : List TV} (r : Row ET h p len l) {j : Int} (hj0 : 0 ≤ j) (hj : j < (len : Int)) (cap : Nat) (kd : IntKind) (k : Value → Nat → AM) (s : Nat) :
    M.opt (aindexAt P 57 (.slice p len cap) (.int kd j)) k s = k (.pointer (some ⟨blk p, off p + j.toNat * 7, none⟩)) s := r.2.xa (z := 7) xa0_57 (by decide) hj0 hj cap kd k s
omit hf in
theorem turnD {h : T} {p : Option Addr} {len : Nat} {l : List TV} (r : Row ET h p len l) {i : Nat} {x : TV} (hx : l[i]? = some x) {pw : Nat → Prop} {Z : Value → T → Prop} (k : Value → Nat → AM) (s : Nat) : (aload (blk p) (off p + i * 7 + 4) k s).wp pw Z h = (k (.slice x.e.p x.e.n x.e.c) s).wp pw Z h := by
  have := r.2.one (Row.fld (E := ET) (j := 4) hx rfl) k s (pw := pw) (Z := Z)
  rw [← Nat.add_assoc] at this; exact this
include hN
theorem s39 {pl : Option Addr} {ln cl : Nat} {l : List TV} (r : Row ET h pl ln l) : PureS (D N (d + 1)) 39 [.slice pl ln cl] h s (fun v _ _ => ∃ b, v = .bool b ∧ (b = false → ln ≤ 60 ∧ ∀ x ∈ l, x.e.n ≤ 20)) := by
  refine PureS.of hf fun K pw Z g hp hk => ?_
  rw [D_39]; unfold F39; rw [app1_eq]
  try simp (disch := first | assumption | omega | (simp only [Int.ofNat_eq_natCast, neg_one]; done) | (simp only [Int.ofNat_eq_natCast, neg_one]; omega)) only [tysW, w_bindJ, w_logJ, w_ct, w_cf, w_gtt, w_gft, w_gtf, w_gff, w_pt, w_pf, w_lret, w_e0, w_e1, w_e2, w_nil, w_fun, w_nt, w_nf, w_add, w_sub, w_eqt, w_eqf, w_net, w_nef, w_ltt, w_ltf, w_let, w_lef, w_gtt', w_gtf', w_get, w_gef, toNat_of, of_add, cast_add, nth_0, nth_s, Nat.zero_add, Nat.reduceAdd, Nat.reduceMul, Nat.add_zero, List.length_cons, List.length_nil, List.drop_zero, List.drop_succ_cons, List.take_succ_cons, List.take_zero, List.take_nil, true_and, and_true, Int.toNat_natCast, List.append_nil, List.nil_append, List.cons_append]
  have loop : ∀ (J : Nat → AM) (hJ : (∀ j x, j < ln → j < 61 → l[j]? = some x → x.e.n ≤ 20) → (J s).wp pw Z h) (B : (Value → Value → Nat → AM) → Value → Value → Nat → AM) (hB : ∀ H u i s', B H u i s' = X39_1 N (D N d) K (.slice pl ln cl) J H u i s') (m i : Nat) (u : Value), 61 - i < m → i ≤ ln → i ≤ 61 → (∀ j x, j < i → l[j]? = some x → x.e.n ≤ 20) →
      (loopJ m 2 (fun _ _ _ => AM.fail) B u (vi i) s).wp pw Z h := by
    intro J hJ B hB m
    induction m with
    | zero => intro i u hm; omega
    | succ m ih =>
      intro i u hm hil hi6 hno
      rw [loopJ_succ, hB]
      unfold X39_1
      by_cases hlt : i < ln
      · by_cases h61 : i < 61
        · obtain ⟨x, hx⟩ := get_some (l := l) (i := i) (by rw [r.1]; omega)
          try simp (disch := first | assumption | omega | (simp only [Int.ofNat_eq_natCast, neg_one]; done) | (simp only [Int.ofNat_eq_natCast, neg_one]; omega)) only [tysW, w_bindJ, w_logJ, w_ct, w_cf, w_gtt, w_gft, w_gtf, w_gff, w_pt, w_pf, w_lret, w_e0, w_e1, w_e2, w_nil, w_fun, w_nt, w_nf, w_add, w_sub, w_eqt, w_eqf, w_net, w_nef, w_ltt, w_ltf, w_let, w_lef, w_gtt', w_gtf', w_get, w_gef, toNat_of, of_add, cast_add, nth_0, nth_s, Nat.zero_add, Nat.reduceAdd, Nat.reduceMul, Nat.add_zero, List.length_cons, List.length_nil, List.drop_zero, List.drop_succ_cons, List.take_succ_cons, List.take_zero, List.take_nil, true_and, and_true, Int.toNat_natCast, List.append_nil, List.nil_append, List.cons_append, xaT r (j := (i : Int)) (by omega) (by omega), turnD r hx]
          by_cases h20 : (20 : Int) < (x.e.n : Int)
          · try simp (disch := first | assumption | omega | (simp only [Int.ofNat_eq_natCast, neg_one]; done) | (simp only [Int.ofNat_eq_natCast, neg_one]; omega)) only [tysW, w_bindJ, w_logJ, w_ct, w_cf, w_gtt, w_gft, w_gtf, w_gff, w_pt, w_pf, w_lret, w_e0, w_e1, w_e2, w_nil, w_fun, w_nt, w_nf, w_add, w_sub, w_eqt, w_eqf, w_net, w_nef, w_ltt, w_ltf, w_let, w_lef, w_gtt', w_gtf', w_get, w_gef, toNat_of, of_add, cast_add, nth_0, nth_s, Nat.zero_add, Nat.reduceAdd, Nat.reduceMul, Nat.add_zero, List.length_cons, List.length_nil, List.drop_zero, List.drop_succ_cons, List.take_succ_cons, List.take_zero, List.take_nil, true_and, and_true, Int.toNat_natCast, List.append_nil, List.nil_append, List.cons_append]
            exact hk _ _ _ g ⟨true, rfl, fun h => by cases h⟩
          · try simp (disch := first | assumption | omega | (simp only [Int.ofNat_eq_natCast, neg_one]; done) | (simp only [Int.ofNat_eq_natCast, neg_one]; omega)) only [tysW, w_bindJ, w_logJ, w_ct, w_cf, w_gtt, w_gft, w_gtf, w_gff, w_pt, w_pf, w_lret, w_e0, w_e1, w_e2, w_nil, w_fun, w_nt, w_nf, w_add, w_sub, w_eqt, w_eqf, w_net, w_nef, w_ltt, w_ltf, w_let, w_lef, w_gtt', w_gtf', w_get, w_gef, toNat_of, of_add, cast_add, nth_0, nth_s, Nat.zero_add, Nat.reduceAdd, Nat.reduceMul, Nat.add_zero, List.length_cons, List.length_nil, List.drop_zero, List.drop_succ_cons, List.take_succ_cons, List.take_zero, List.take_nil, true_and, and_true, Int.toNat_natCast, List.append_nil, List.nil_append, List.cons_append]
            exact ih (i + 1) u (by omega) (by omega) (by omega) fun j y hj hy => by
              rcases Nat.lt_or_ge j i with h6 | h6
              · exact hno j y h6 hy
              · rw [show j = i by omega, hx] at hy; cases hy; omega
        · try simp (disch := first | assumption | omega | (simp only [Int.ofNat_eq_natCast, neg_one]; done) | (simp only [Int.ofNat_eq_natCast, neg_one]; omega)) only [tysW, w_bindJ, w_logJ, w_ct, w_cf, w_gtt, w_gft, w_gtf, w_gff, w_pt, w_pf, w_lret, w_e0, w_e1, w_e2, w_nil, w_fun, w_nt, w_nf, w_add, w_sub, w_eqt, w_eqf, w_net, w_nef, w_ltt, w_ltf, w_let, w_lef, w_gtt', w_gtf', w_get, w_gef, toNat_of, of_add, cast_add, nth_0, nth_s, Nat.zero_add, Nat.reduceAdd, Nat.reduceMul, Nat.add_zero, List.length_cons, List.length_nil, List.drop_zero, List.drop_succ_cons, List.take_succ_cons, List.take_zero, List.take_nil, true_and, and_true, Int.toNat_natCast, List.append_nil, List.nil_append, List.cons_append]
          exact hJ fun j x h1 h2 hx => hno j x (by omega) hx
      · try simp (disch := first | assumption | omega | (simp only [Int.ofNat_eq_natCast, neg_one]; done) | (simp only [Int.ofNat_eq_natCast, neg_one]; omega)) only [tysW, w_bindJ, w_logJ, w_ct, w_cf, w_gtt, w_gft, w_gtf, w_gff, w_pt, w_pf, w_lret, w_e0, w_e1, w_e2, w_nil, w_fun, w_nt, w_nf, w_add, w_sub, w_eqt, w_eqf, w_net, w_nef, w_ltt, w_ltf, w_let, w_lef, w_gtt', w_gtf', w_get, w_gef, toNat_of, of_add, cast_add, nth_0, nth_s, Nat.zero_add, Nat.reduceAdd, Nat.reduceMul, Nat.add_zero, List.length_cons, List.length_nil, List.drop_zero, List.drop_succ_cons, List.take_succ_cons, List.take_zero, List.take_nil, true_and, and_true, Int.toNat_natCast, List.append_nil, List.nil_append, List.cons_append]
        exact hJ fun j x h1 h2 hx => hno j x (by omega) hx
  refine loop _ (fun hall => ?_) _ (fun _ _ _ _ => rfl) N 0 _ (by omega) (by omega) (by omega) (fun j x hj => by omega)
  by_cases h60 : (60 : Int) < (ln : Int)
  · try simp (disch := first | assumption | omega | (simp only [Int.ofNat_eq_natCast, neg_one]; done) | (simp only [Int.ofNat_eq_natCast, neg_one]; omega)) only [tysW, w_bindJ, w_logJ, w_ct, w_cf, w_gtt, w_gft, w_gtf, w_gff, w_pt, w_pf, w_lret, w_e0, w_e1, w_e2, w_nil, w_fun, w_nt, w_nf, w_add, w_sub, w_eqt, w_eqf, w_net, w_nef, w_ltt, w_ltf, w_let, w_lef, w_gtt', w_gtf', w_get, w_gef, toNat_of, of_add, cast_add, nth_0, nth_s, Nat.zero_add, Nat.reduceAdd, Nat.reduceMul, Nat.add_zero, List.length_cons, List.length_nil, List.drop_zero, List.drop_succ_cons, List.take_succ_cons, List.take_zero, List.take_nil, true_and, and_true, Int.toNat_natCast, List.append_nil, List.nil_append, List.cons_append]
    exact hk _ _ _ g ⟨true, rfl, fun h => by cases h⟩
  · try simp (disch := first | assumption | omega | (simp only [Int.ofNat_eq_natCast, neg_one]; done) | (simp only [Int.ofNat_eq_natCast, neg_one]; omega)) only [tysW, w_bindJ, w_logJ, w_ct, w_cf, w_gtt, w_gft, w_gtf, w_gff, w_pt, w_pf, w_lret, w_e0, w_e1, w_e2, w_nil, w_fun, w_nt, w_nf, w_add, w_sub, w_eqt, w_eqf, w_net, w_nef, w_ltt, w_ltf, w_let, w_lef, w_gtt', w_gtf', w_get, w_gef, toNat_of, of_add, cast_add, nth_0, nth_s, Nat.zero_add, Nat.reduceAdd, Nat.reduceMul, Nat.add_zero, List.length_cons, List.length_nil, List.drop_zero, List.drop_succ_cons, List.take_succ_cons, List.take_zero, List.take_nil, true_and, and_true, Int.toNat_natCast, List.append_nil, List.nil_append, List.cons_append]
    refine hk _ _ _ g ⟨false, rfl, fun _ => ⟨by omega, fun x hx => ?_⟩⟩
    obtain ⟨j, hj⟩ := List.getElem?_of_mem hx
    have := (List.getElem?_eq_some_iff.1 hj).1
    rw [r.1] at this
    exact hall j x this (by omega) hj
end
end Go.Ev.R
namespace Go.Ev.R
open Go Go.RowKit
theorem ne_38 (a : Int) (k : Value → Nat → AM) (s : Nat) {pw : Nat → Prop} {Z : Value → T → Prop} {h : T} : (neX P 38 38 false false (vi a) (vi a) k s).wp pw Z h = (k (.bool false) s).wp pw Z h := w_nef _ _ _ _ _ _ _ _ _ _ _ rfl
section
variable {N d : Nat} (hN : 100000 ≤ N) {h0 h : T} {s0 s : Nat} (g : From s0 h0 h s) {pw : Nat → Prop} {Z : Value → T → Prop} (hp : ∀ n, s0 ≤ n → pw n) {K : Value → Nat → AM}
include hN g hp
set_option maxHeartbeats 1000000 in
/-- What is asked behind a turn. -/
theorem askW {rb q wb keep : Nat} {L : List EN} (b : Both h rb q wb keep L) (hk2 : keep ≤ 200) (x : TV) {tb : Nat} (ht : h.get tb = some (.cells ⟨tv x⟩ 64 (0, 0))) (u : Value)
    (hk : ∀ h' s', From s0 h0 h' s' → From s h h' s' → (K (.bool true) s').wp pw Z h') : (X40_9 N (D N (d + 10)) K (ptr tb) (ptr rb) (ptr wb) u s).wp pw Z h := by
  have hf := g.fresh
  have hsg := g.le
  have htb := lt_of_some hf ⟨_, ht⟩
  have hle := b.le
  unfold X40_9
  simp only [tv, xv, List.cons_append, List.nil_append] at ht
  obtain ⟨first, bs, r1, r2⟩ := b.ring
  obtain ⟨p, cap, l, r3, r4⟩ := b.ref
  try simp (disch := first | assumption | omega | (simp only [Int.ofNat_eq_natCast, neg_one]; done) | (simp only [Int.ofNat_eq_natCast, neg_one]; omega)) only [tysW, w_bindJ, w_logJ, w_ct, w_cf, w_gtt, w_gft, w_gtf, w_gff, w_pt, w_pf, w_lret, w_e0, w_e1, w_e2, w_nil, w_fun, w_nt, w_nf, w_add, w_sub, w_eqt, w_eqf, w_net, w_nef, w_ltt, w_ltf, w_let, w_lef, w_gtt', w_gtf', w_get, w_gef, toNat_of, of_add, cast_add, nth_0, nth_s, Nat.zero_add, Nat.reduceAdd, Nat.reduceMul, Nat.add_zero, List.length_cons, List.length_nil, List.drop_zero, List.drop_succ_cons, List.take_succ_cons, List.take_zero, List.take_nil, true_and, and_true, Int.toNat_natCast, List.append_nil, List.nil_append, List.cons_append, ldB ht, clB ht, ldBL ht, clBL ht]
  refine PureS.go g hp (get1 (d := d + 7) hf r1 (by omega) b.d20 x.pl) fun v h1 s1 g1 c1 hv => ?_
  obtain ⟨p1, rfl, o1⟩ := hv
  have hd1 := getE_20 b.d20 x.pl
  generalize hge : getE L x.pl = ge at *
  obtain ⟨e, er⟩ := ge
  simp only at hd1 o1
  have l1 := c1.le
  simp only [eval, ev]
  try simp (disch := first | assumption | omega | (simp only [Int.ofNat_eq_natCast, neg_one]; done) | (simp only [Int.ofNat_eq_natCast, neg_one]; omega)) only [tysW, w_bindJ, w_logJ, w_ct, w_cf, w_gtt, w_gft, w_gtf, w_gff, w_pt, w_pf, w_lret, w_e0, w_e1, w_e2, w_nil, w_fun, w_nt, w_nf, w_add, w_sub, w_eqt, w_eqf, w_net, w_nef, w_ltt, w_ltf, w_let, w_lef, w_gtt', w_gtf', w_get, w_gef, toNat_of, of_add, cast_add, nth_0, nth_s, Nat.zero_add, Nat.reduceAdd, Nat.reduceMul, Nat.add_zero, List.length_cons, List.length_nil, List.drop_zero, List.drop_succ_cons, List.take_succ_cons, List.take_zero, List.take_nil, true_and, and_true, Int.toNat_natCast, List.append_nil, List.nil_append, List.cons_append]
  refine wp_boxA g1 hp fun h2 g2 c2 b2 => ?_
  try simp (disch := first | assumption | omega | (simp only [Int.ofNat_eq_natCast, neg_one]; done) | (simp only [Int.ofNat_eq_natCast, neg_one]; omega)) only [tysW, w_bindJ, w_logJ, w_ct, w_cf, w_gtt, w_gft, w_gtf, w_gff, w_pt, w_pf, w_lret, w_e0, w_e1, w_e2, w_nil, w_fun, w_nt, w_nf, w_add, w_sub, w_eqt, w_eqf, w_net, w_nef, w_ltt, w_ltf, w_let, w_lef, w_gtt', w_gtf', w_get, w_gef, toNat_of, of_add, cast_add, nth_0, nth_s, Nat.zero_add, Nat.reduceAdd, Nat.reduceMul, Nat.add_zero, List.length_cons, List.length_nil, List.drop_zero, List.drop_succ_cons, List.take_succ_cons, List.take_zero, List.take_nil, true_and, and_true, Int.toNat_natCast, List.append_nil, List.nil_append, List.cons_append]
  refine wp_putF g2 hp b2 (by omega) (by exact Nat.le_refl 5) rfl fun h3 g3 b3 e3 => ?_
  simp only [overL] at b3
  have k3 : From s h h3 (s1 + 1) := ⟨by omega, fun n hn => by rw [e3 n (by omega), c2.keep n (by omega), c1.keep n hn], g3.fresh⟩
  have o3 : OwnI h3 s p1 e.data.length e.data := o1.but fun hc => by
    have := o1.lt g1.fresh hc
    rw [e3 _ (by omega), c2.keep _ (by omega)]
  try simp (disch := first | assumption | omega | (simp only [Int.ofNat_eq_natCast, neg_one]; done) | (simp only [Int.ofNat_eq_natCast, neg_one]; omega)) only [tysW, w_bindJ, w_logJ, w_ct, w_cf, w_gtt, w_gft, w_gtf, w_gff, w_pt, w_pf, w_lret, w_e0, w_e1, w_e2, w_nil, w_fun, w_nt, w_nf, w_add, w_sub, w_eqt, w_eqf, w_net, w_nef, w_ltt, w_ltf, w_let, w_lef, w_gtt', w_gtf', w_get, w_gef, toNat_of, of_add, cast_add, nth_0, nth_s, Nat.zero_add, Nat.reduceAdd, Nat.reduceMul, Nat.add_zero, List.length_cons, List.length_nil, List.drop_zero, List.drop_succ_cons, List.take_succ_cons, List.take_zero, List.take_nil, true_and, and_true, Int.toNat_natCast, List.append_nil, List.nil_append, List.cons_append, ldB (k3.box ht htb), clB (k3.box ht htb), ldBL (k3.box ht htb), clBL (k3.box ht htb)]
  refine PureS.go g3 hp (get2 (d := d + 8) g3.fresh (r3.from hf k3) (by omega) b.d20 x.pl) fun v h4 s4 g4 c4 hv => ?_
  rw [hge] at hv
  obtain ⟨p4, rfl, o4⟩ := hv
  simp only at o4
  have l4 := c4.le
  have o4' := o3.from g3.fresh c4
  simp only [eval, ev]
  try simp (disch := first | assumption | omega | (simp only [Int.ofNat_eq_natCast, neg_one]; done) | (simp only [Int.ofNat_eq_natCast, neg_one]; omega)) only [tysW, w_bindJ, w_logJ, w_ct, w_cf, w_gtt, w_gft, w_gtf, w_gff, w_pt, w_pf, w_lret, w_e0, w_e1, w_e2, w_nil, w_fun, w_nt, w_nf, w_add, w_sub, w_eqt, w_eqf, w_net, w_nef, w_ltt, w_ltf, w_let, w_lef, w_gtt', w_gtf', w_get, w_gef, toNat_of, of_add, cast_add, nth_0, nth_s, Nat.zero_add, Nat.reduceAdd, Nat.reduceMul, Nat.add_zero, List.length_cons, List.length_nil, List.drop_zero, List.drop_succ_cons, List.take_succ_cons, List.take_zero, List.take_nil, true_and, and_true, Int.toNat_natCast, List.append_nil, List.nil_append, List.cons_append]
  refine wp_boxA g4 hp fun h5 g5 c5 b5 => ?_
  try simp (disch := first | assumption | omega | (simp only [Int.ofNat_eq_natCast, neg_one]; done) | (simp only [Int.ofNat_eq_natCast, neg_one]; omega)) only [tysW, w_bindJ, w_logJ, w_ct, w_cf, w_gtt, w_gft, w_gtf, w_gff, w_pt, w_pf, w_lret, w_e0, w_e1, w_e2, w_nil, w_fun, w_nt, w_nf, w_add, w_sub, w_eqt, w_eqf, w_net, w_nef, w_ltt, w_ltf, w_let, w_lef, w_gtt', w_gtf', w_get, w_gef, toNat_of, of_add, cast_add, nth_0, nth_s, Nat.zero_add, Nat.reduceAdd, Nat.reduceMul, Nat.add_zero, List.length_cons, List.length_nil, List.drop_zero, List.drop_succ_cons, List.take_succ_cons, List.take_zero, List.take_nil, true_and, and_true, Int.toNat_natCast, List.append_nil, List.nil_append, List.cons_append]
  refine wp_putF g5 hp b5 (by omega) (by exact Nat.le_refl 5) rfl fun h6 g6 b6 e6 => ?_
  simp only [overL] at b6
  have b36 := (e6 s1 (by omega)).trans (c5.box (c4.box b3 (by omega)) (by omega))
  have o16 : OwnI h6 s p1 e.data.length e.data := o4'.but fun hc => by
    have := o4'.lt g4.fresh hc
    rw [e6 _ (by omega), c5.keep _ (by omega)]
  have o46 : OwnI h6 (s1 + 1) p4 e.data.length e.data := o4.but fun hc => by
    have := o4.lt g4.fresh hc
    rw [e6 _ (by omega), c5.keep _ (by omega)]
  have k6 : From s h h6 (s4 + 1) := ⟨by omega, fun n hn => by rw [e6 n (by omega), c5.keep n (by omega), c4.keep n (by omega)]; exact k3.keep n hn, g6.fresh⟩
  try simp (disch := first | assumption | omega | (simp only [Int.ofNat_eq_natCast, neg_one]; done) | (simp only [Int.ofNat_eq_natCast, neg_one]; omega)) only [tysW, w_bindJ, w_logJ, w_ct, w_cf, w_gtt, w_gft, w_gtf, w_gff, w_pt, w_pf, w_lret, w_e0, w_e1, w_e2, w_nil, w_fun, w_nt, w_nf, w_add, w_sub, w_eqt, w_eqf, w_net, w_nef, w_ltt, w_ltf, w_let, w_lef, w_gtt', w_gtf', w_get, w_gef, toNat_of, of_add, cast_add, nth_0, nth_s, Nat.zero_add, Nat.reduceAdd, Nat.reduceMul, Nat.add_zero, List.length_cons, List.length_nil, List.drop_zero, List.drop_succ_cons, List.take_succ_cons, List.take_zero, List.take_nil, true_and, and_true, Int.toNat_natCast, List.append_nil, List.nil_append, List.cons_append, ldB b36, clB b36, ldBL b36, clBL b36, ldB b6, clB b6, ldBL b6, clBL b6]
  refine PureS.go g6 hp (s35 (d := d + 8) hN g6.fresh e e o16.sl.row o46.sl.row (by omega)) fun v h7 s7 g7 c7 hv => ?_
  obtain ⟨bb, rfl, hbb⟩ := hv
  obtain rfl := hbb.2 rfl
  have b37 := c7.box b36 (by omega)
  have l7 := c7.le
  try simp (disch := first | assumption | omega | (simp only [Int.ofNat_eq_natCast, neg_one]; done) | (simp only [Int.ofNat_eq_natCast, neg_one]; omega)) only [tysW, w_bindJ, w_logJ, w_ct, w_cf, w_gtt, w_gft, w_gtf, w_gff, w_pt, w_pf, w_lret, w_e0, w_e1, w_e2, w_nil, w_fun, w_nt, w_nf, w_add, w_sub, w_eqt, w_eqf, w_net, w_nef, w_ltt, w_ltf, w_let, w_lef, w_gtt', w_gtf', w_get, w_gef, toNat_of, of_add, cast_add, nth_0, nth_s, Nat.zero_add, Nat.reduceAdd, Nat.reduceMul, Nat.add_zero, List.length_cons, List.length_nil, List.drop_zero, List.drop_succ_cons, List.take_succ_cons, List.take_zero, List.take_nil, true_and, and_true, Int.toNat_natCast, List.append_nil, List.nil_append, List.cons_append, ldB b37, clB b37, ldBL b37, clBL b37]
  refine s65 (d := d + 9) hN (k6.trans c7) (fun n hn => hp n (by omega)) (o16.from g6.fresh c7) (by omega) fun h8 g8' e8 => ?_
  have g8 : From s0 h0 h8 s7 := g.trans g8'
  have B8 := b.from hf g8'
  obtain ⟨first, bs, r1, r2⟩ := B8.ring
  obtain ⟨p, cap, l, r3, r4⟩ := B8.ref
  have t8 := g8'.box ht htb
  try simp (disch := first | assumption | omega | (simp only [Int.ofNat_eq_natCast, neg_one]; done) | (simp only [Int.ofNat_eq_natCast, neg_one]; omega)) only [tysW, w_bindJ, w_logJ, w_ct, w_cf, w_gtt, w_gft, w_gtf, w_gff, w_pt, w_pf, w_lret, w_e0, w_e1, w_e2, w_nil, w_fun, w_nt, w_nf, w_add, w_sub, w_eqt, w_eqf, w_net, w_nef, w_ltt, w_ltf, w_let, w_lef, w_gtt', w_gtf', w_get, w_gef, toNat_of, of_add, cast_add, nth_0, nth_s, Nat.zero_add, Nat.reduceAdd, Nat.reduceMul, Nat.add_zero, List.length_cons, List.length_nil, List.drop_zero, List.drop_succ_cons, List.take_succ_cons, List.take_zero, List.take_nil, true_and, and_true, Int.toNat_natCast, List.append_nil, List.nil_append, List.cons_append, ldB t8, clB t8, ldBL t8, clBL t8]
  unfold X40_8 X40_7 X40_6 X40_5 X40_4 X40_3 X40_2 X40_1
  try simp (disch := first | assumption | omega | (simp only [Int.ofNat_eq_natCast, neg_one]; done) | (simp only [Int.ofNat_eq_natCast, neg_one]; omega)) only [tysW, w_bindJ, w_logJ, w_ct, w_cf, w_gtt, w_gft, w_gtf, w_gff, w_pt, w_pf, w_lret, w_e0, w_e1, w_e2, w_nil, w_fun, w_nt, w_nf, w_add, w_sub, w_eqt, w_eqf, w_net, w_nef, w_ltt, w_ltf, w_let, w_lef, w_gtt', w_gtf', w_get, w_gef, toNat_of, of_add, cast_add, nth_0, nth_s, Nat.zero_add, Nat.reduceAdd, Nat.reduceMul, Nat.add_zero, List.length_cons, List.length_nil, List.drop_zero, List.drop_succ_cons, List.take_succ_cons, List.take_zero, List.take_nil, true_and, and_true, Int.toNat_natCast, List.append_nil, List.nil_append, List.cons_append, ldB t8, clB t8, ldBL t8, clBL t8]
  refine PureS.goL g8 hp (s29 (d := d) hN g8.fresh r1 (by omega) x.pl) fun v h9 s9 ts9 ws9 g9 c9 hv9 hw9 ht9 => ?_
  obtain ⟨i, rfl, y1, y2, y3⟩ := hv9
  have t9 := c9.box t8 (by omega)
  try simp (disch := first | assumption | omega | (simp only [Int.ofNat_eq_natCast, neg_one]; done) | (simp only [Int.ofNat_eq_natCast, neg_one]; omega)) only [tysW, w_bindJ, w_logJ, w_ct, w_cf, w_gtt, w_gft, w_gtf, w_gff, w_pt, w_pf, w_lret, w_e0, w_e1, w_e2, w_nil, w_fun, w_nt, w_nf, w_add, w_sub, w_eqt, w_eqf, w_net, w_nef, w_ltt, w_ltf, w_let, w_lef, w_gtt', w_gtf', w_get, w_gef, toNat_of, of_add, cast_add, nth_0, nth_s, Nat.zero_add, Nat.reduceAdd, Nat.reduceMul, Nat.add_zero, List.length_cons, List.length_nil, List.drop_zero, List.drop_succ_cons, List.take_succ_cons, List.take_zero, List.take_nil, true_and, and_true, Int.toNat_natCast, List.append_nil, List.nil_append, List.cons_append, ldB t9, clB t9, ldBL t9, clBL t9]
  refine PureS.goL g9 hp (s68 (d := d + 9) hN g9.fresh (r3.from g8.fresh c9) (by omega) x.pl) fun v h10 s10 ts10 ws10 g10 c10 hv10 hw10 ht10 => ?_
  obtain ⟨j, rfl, z1, z2, z3⟩ := hv10
  obtain rfl := until_one b.rise y1 y2 y3 z1 z2 z3
  have t10 := c10.box t9 (by have := c9.le; omega)
  try simp (disch := first | assumption | omega | (simp only [Int.ofNat_eq_natCast, neg_one]; done) | (simp only [Int.ofNat_eq_natCast, neg_one]; omega)) only [tysW, w_bindJ, w_logJ, w_ct, w_cf, w_gtt, w_gft, w_gtf, w_gff, w_pt, w_pf, w_lret, w_e0, w_e1, w_e2, w_nil, w_fun, w_nt, w_nf, w_add, w_sub, w_eqt, w_eqf, w_net, w_nef, w_ltt, w_ltf, w_let, w_lef, w_gtt', w_gtf', w_get, w_gef, toNat_of, of_add, cast_add, nth_0, nth_s, Nat.zero_add, Nat.reduceAdd, Nat.reduceMul, Nat.add_zero, List.length_cons, List.length_nil, List.drop_zero, List.drop_succ_cons, List.take_succ_cons, List.take_zero, List.take_nil, true_and, and_true, Int.toNat_natCast, List.append_nil, List.nil_append, List.cons_append, ldB t10, clB t10, ldBL t10, clBL t10]
  refine PureS.goL g10 hp (s30 (d := d + 7) hN g10.fresh (r1.from g8.fresh (c9.trans c10)) (by omega) x.e.k.b x.pl) fun v h11 s11 ts11 ws11 g11 c11 hv11 hw11 ht11 => ?_
  obtain ⟨tw, rfl, hw1⟩ := hv11
  have t11 := c11.box t10 (by have := c9.le; have := c10.le; omega)
  try simp (disch := first | assumption | omega | (simp only [Int.ofNat_eq_natCast, neg_one]; done) | (simp only [Int.ofNat_eq_natCast, neg_one]; omega)) only [tysW, w_bindJ, w_logJ, w_ct, w_cf, w_gtt, w_gft, w_gtf, w_gff, w_pt, w_pf, w_lret, w_e0, w_e1, w_e2, w_nil, w_fun, w_nt, w_nf, w_add, w_sub, w_eqt, w_eqf, w_net, w_nef, w_ltt, w_ltf, w_let, w_lef, w_gtt', w_gtf', w_get, w_gef, toNat_of, of_add, cast_add, nth_0, nth_s, Nat.zero_add, Nat.reduceAdd, Nat.reduceMul, Nat.add_zero, List.length_cons, List.length_nil, List.drop_zero, List.drop_succ_cons, List.take_succ_cons, List.take_zero, List.take_nil, true_and, and_true, Int.toNat_natCast, List.append_nil, List.nil_append, List.cons_append, ldB t11, clB t11, ldBL t11, clBL t11]
  refine PureS.goL g11 hp (s69 (d := d + 9) hN g11.fresh (r3.from g8.fresh (c9.trans (c10.trans c11))) (by omega) x.e.k.b x.pl) fun v h12 s12 ts12 ws12 g12 c12 hv12 hw12 ht12 => ?_
  obtain ⟨tw2, rfl, hw2⟩ := hv12
  obtain rfl := hw1.one hw2
  have L9 := c9.le
  have L10 := c10.le
  have L11 := c11.le
  try simp (disch := first | assumption | omega | (simp only [Int.ofNat_eq_natCast, neg_one]; done) | (simp only [Int.ofNat_eq_natCast, neg_one]; omega)) only [tysW, w_bindJ, w_logJ, w_ct, w_cf, w_gtt, w_gft, w_gtf, w_gff, w_pt, w_pf, w_lret, w_e0, w_e1, w_e2, w_nil, w_fun, w_nt, w_nf, w_add, w_sub, w_eqt, w_eqf, w_net, w_nef, w_ltt, w_ltf, w_let, w_lef, w_gtt', w_gtf', w_get, w_gef, toNat_of, of_add, cast_add, nth_0, nth_s, Nat.zero_add, Nat.reduceAdd, Nat.reduceMul, Nat.add_zero, List.length_cons, List.length_nil, List.drop_zero, List.drop_succ_cons, List.take_succ_cons, List.take_zero, List.take_nil, true_and, and_true, Int.toNat_natCast, List.append_nil, List.nil_append, List.cons_append]
  rw [wp_guard, if_pos (by repeat' (first | exact dynOk_nil _ _ | refine dyn_skip' ?_ | refine dyn_cons ?_ ?_ | exact allF_nil _ _ | refine allF_cons ?_ ?_ | exact disj_below hw9 (by omega) | exact disjA hw9 (by omega) | exact disjB hw9 (by omega) | exact disjC hw9 (by assumption) | exact disjD (fun m hm => by have := hw9 m hm; omega) | exact disj_below ht9 (by omega) | exact disjA ht9 (by omega) | exact disjB ht9 (by omega) | exact disjC ht9 (by assumption) | exact disjD (fun m hm => by have := ht9 m hm; omega) | exact disj_below hw10 (by omega) | exact disjA hw10 (by omega) | exact disjB hw10 (by omega) | exact disjC hw10 (by assumption) | exact disjD (fun m hm => by have := hw10 m hm; omega) | exact disj_below ht10 (by omega) | exact disjA ht10 (by omega) | exact disjB ht10 (by omega) | exact disjC ht10 (by assumption) | exact disjD (fun m hm => by have := ht10 m hm; omega) | exact disj_below hw11 (by omega) | exact disjA hw11 (by omega) | exact disjB hw11 (by omega) | exact disjC hw11 (by assumption) | exact disjD (fun m hm => by have := hw11 m hm; omega) | exact disj_below ht11 (by omega) | exact disjA ht11 (by omega) | exact disjB ht11 (by omega) | exact disjC ht11 (by assumption) | exact disjD (fun m hm => by have := ht11 m hm; omega) | exact disj_below hw12 (by omega) | exact disjA hw12 (by omega) | exact disjB hw12 (by omega) | exact disjC hw12 (by assumption) | exact disjD (fun m hm => by have := hw12 m hm; omega) | exact disj_below ht12 (by omega) | exact disjA ht12 (by omega) | exact disjB ht12 (by omega) | exact disjC ht12 (by assumption) | exact disjD (fun m hm => by have := ht12 m hm; omega) | exact disjN _ | exact disj1 (by omega) | exact disj2 (by omega) | exact disj3 (by assumption) | exact disjC hw9 (fun m hm => by have := ht9 m hm; omega) | exact disjC hw9 (fun m hm => by have := hw10 m hm; omega) | exact disjC hw9 (fun m hm => by have := ht10 m hm; omega) | exact disjC hw9 (fun m hm => by have := hw11 m hm; omega) | exact disjC hw9 (fun m hm => by have := ht11 m hm; omega) | exact disjC hw9 (fun m hm => by have := hw12 m hm; omega) | exact disjC hw9 (fun m hm => by have := ht12 m hm; omega) | exact disjC ht9 (fun m hm => by have := hw9 m hm; omega) | exact disjC ht9 (fun m hm => by have := hw10 m hm; omega) | exact disjC ht9 (fun m hm => by have := ht10 m hm; omega) | exact disjC ht9 (fun m hm => by have := hw11 m hm; omega) | exact disjC ht9 (fun m hm => by have := ht11 m hm; omega) | exact disjC ht9 (fun m hm => by have := hw12 m hm; omega) | exact disjC ht9 (fun m hm => by have := ht12 m hm; omega) | exact disjC hw10 (fun m hm => by have := hw9 m hm; omega) | exact disjC hw10 (fun m hm => by have := ht9 m hm; omega) | exact disjC hw10 (fun m hm => by have := ht10 m hm; omega) | exact disjC hw10 (fun m hm => by have := hw11 m hm; omega) | exact disjC hw10 (fun m hm => by have := ht11 m hm; omega) | exact disjC hw10 (fun m hm => by have := hw12 m hm; omega) | exact disjC hw10 (fun m hm => by have := ht12 m hm; omega) | exact disjC ht10 (fun m hm => by have := hw9 m hm; omega) | exact disjC ht10 (fun m hm => by have := ht9 m hm; omega) | exact disjC ht10 (fun m hm => by have := hw10 m hm; omega) | exact disjC ht10 (fun m hm => by have := hw11 m hm; omega) | exact disjC ht10 (fun m hm => by have := ht11 m hm; omega) | exact disjC ht10 (fun m hm => by have := hw12 m hm; omega) | exact disjC ht10 (fun m hm => by have := ht12 m hm; omega) | exact disjC hw11 (fun m hm => by have := hw9 m hm; omega) | exact disjC hw11 (fun m hm => by have := ht9 m hm; omega) | exact disjC hw11 (fun m hm => by have := hw10 m hm; omega) | exact disjC hw11 (fun m hm => by have := ht10 m hm; omega) | exact disjC hw11 (fun m hm => by have := ht11 m hm; omega) | exact disjC hw11 (fun m hm => by have := hw12 m hm; omega) | exact disjC hw11 (fun m hm => by have := ht12 m hm; omega) | exact disjC ht11 (fun m hm => by have := hw9 m hm; omega) | exact disjC ht11 (fun m hm => by have := ht9 m hm; omega) | exact disjC ht11 (fun m hm => by have := hw10 m hm; omega) | exact disjC ht11 (fun m hm => by have := ht10 m hm; omega) | exact disjC ht11 (fun m hm => by have := hw11 m hm; omega) | exact disjC ht11 (fun m hm => by have := hw12 m hm; omega) | exact disjC ht11 (fun m hm => by have := ht12 m hm; omega) | exact disjC hw12 (fun m hm => by have := hw9 m hm; omega) | exact disjC hw12 (fun m hm => by have := ht9 m hm; omega) | exact disjC hw12 (fun m hm => by have := hw10 m hm; omega) | exact disjC hw12 (fun m hm => by have := ht10 m hm; omega) | exact disjC hw12 (fun m hm => by have := hw11 m hm; omega) | exact disjC hw12 (fun m hm => by have := ht11 m hm; omega) | exact disjC hw12 (fun m hm => by have := ht12 m hm; omega) | exact disjC ht12 (fun m hm => by have := hw9 m hm; omega) | exact disjC ht12 (fun m hm => by have := ht9 m hm; omega) | exact disjC ht12 (fun m hm => by have := hw10 m hm; omega) | exact disjC ht12 (fun m hm => by have := ht10 m hm; omega) | exact disjC ht12 (fun m hm => by have := hw11 m hm; omega) | exact disjC ht12 (fun m hm => by have := ht11 m hm; omega) | exact disjC ht12 (fun m hm => by have := hw12 m hm; omega)))]
  exact hk h12 s12 g12 (g8'.trans (c9.trans (c10.trans (c11.trans c12))))
end
end Go.Ev.R
namespace Go.Ev.R
open Go Go.RowKit
theorem ins_le {keep : Nat} {e : EN} {L : List EN} (h : L.length ≤ keep) : (insE keep e L).1.length ≤ keep := by
  unfold insE
  split
  · exact h
  · split
    · exact h
    · have := pl_le e.k (ksE L)
      rw [ks_len] at this
      simp; omega
theorem ins_20 {keep : Nat} {e : EN} {L : List EN} (h : ∀ x ∈ L, x.data.length ≤ 20) (he : e.data.length ≤ 20) : ∀ x ∈ (insE keep e L).1, x.data.length ≤ 20 := fun x hx => by
  unfold insE at hx
  split at hx
  · exact h x hx
  · split at hx
    · exact h x hx
    · rcases List.mem_append.1 hx with h' | h'
      · exact h x (List.mem_of_mem_take h')
      · rcases List.mem_cons.1 h' with rfl | h'
        · exact he
        · exact h x (List.mem_of_mem_drop h')
section
variable {N d : Nat} (hN : 100000 ≤ N) {h0 h : T} {s0 s : Nat} (g : From s0 h0 h s) {pw : Nat → Prop} {Z : Value → T → Prop} (hp : ∀ n, s0 ≤ n → pw n) {K : Value → Nat → AM}
include hN g hp
set_option maxHeartbeats 2000000 in
theorem s40 {rb q wb keep : Nat} (hrb : s0 ≤ rb) (hq : s0 ≤ q) (hwb : s0 ≤ wb) {L : List EN} (b : Both h rb q wb keep L) (hk2 : keep ≤ 200) (x : TV) (e : EN) (rx : Rel h x.e e) (hx : x.e.c ≠ 0 → blk x.e.p < s0) (h20 : e.data.length ≤ 20)
    (hk : ∀ h' s' L', From s0 h0 h' s' → Both h' rb q wb keep L' → (K (.bool true) s').wp pw Z h') : (D N (d + 11) 40 [ptr rb, ptr wb, .agg ⟨tv x⟩] K s).wp pw Z h := by
  rw [D_40]; unfold F40; rw [app3_eq]
  have hf := g.fresh
  have hsg := g.le
  obtain ⟨first, bs, r1, r2⟩ := b.ring
  obtain ⟨p, cap, l, r3, r4⟩ := b.ref
  obtain ⟨q1, q2, q3, q4⟩ := rx
  rw [q3] at q4
  have hrs : rb < s := lt_of_some hf ⟨_, r1.box⟩
  have hqs : q < s := by obtain ⟨cs, y1, _⟩ := r1.row; exact lt_of_some hf ⟨_, y1⟩
  have hws : wb < s := lt_of_some hf ⟨_, r3.box⟩
  have hle := b.le
  have hne := b.ne
  have e1 : Value.agg ⟨[vi x.e.k.a, vi x.e.k.b, vi x.e.k.c, .bool x.e.inp, .slice x.e.p x.e.n x.e.c]⟩ = eval e x.e.p x.e.c := by simp only [eval, ev, q1, q2, q3]
  refine wp_boxA g hp fun h1 g1 c1 b1 => ?_
  have b1' := b1
  simp only [tv, xv, List.cons_append, List.nil_append] at b1'
  try simp (disch := first | assumption | omega | (simp only [Int.ofNat_eq_natCast, neg_one]; done) | (simp only [Int.ofNat_eq_natCast, neg_one]; omega)) only [tysW, w_bindJ, w_logJ, w_ct, w_cf, w_gtt, w_gft, w_gtf, w_gff, w_pt, w_pf, w_lret, w_e0, w_e1, w_e2, w_nil, w_fun, w_nt, w_nf, w_add, w_sub, w_eqt, w_eqf, w_net, w_nef, w_ltt, w_ltf, w_let, w_lef, w_gtt', w_gtf', w_get, w_gef, toNat_of, of_add, cast_add, nth_0, nth_s, Nat.zero_add, Nat.reduceAdd, Nat.reduceMul, Nat.add_zero, List.length_cons, List.length_nil, List.drop_zero, List.drop_succ_cons, List.take_succ_cons, List.take_zero, List.take_nil, true_and, and_true, Int.toNat_natCast, List.append_nil, List.nil_append, List.cons_append, ldB b1', clB b1', ldBL b1', clBL b1']
  rw [e1]
  refine PureS.go g1 hp (s47 (d := d + 8) g1.fresh e (q4.from hf c1) (by omega)) fun v h2 s2 g2 c2 hv => ?_
  obtain ⟨p2, rfl, o2⟩ := hv
  have l2 := c2.le
  simp only [eval, ev]
  try simp (disch := first | assumption | omega | (simp only [Int.ofNat_eq_natCast, neg_one]; done) | (simp only [Int.ofNat_eq_natCast, neg_one]; omega)) only [tysW, w_bindJ, w_logJ, w_ct, w_cf, w_gtt, w_gft, w_gtf, w_gff, w_pt, w_pf, w_lret, w_e0, w_e1, w_e2, w_nil, w_fun, w_nt, w_nf, w_add, w_sub, w_eqt, w_eqf, w_net, w_nef, w_ltt, w_ltf, w_let, w_lef, w_gtt', w_gtf', w_get, w_gef, toNat_of, of_add, cast_add, nth_0, nth_s, Nat.zero_add, Nat.reduceAdd, Nat.reduceMul, Nat.add_zero, List.length_cons, List.length_nil, List.drop_zero, List.drop_succ_cons, List.take_succ_cons, List.take_zero, List.take_nil, true_and, and_true, Int.toNat_natCast, List.append_nil, List.nil_append, List.cons_append]
  refine wp_boxA g2 hp fun h3 g3 c3 b3 => ?_
  try simp (disch := first | assumption | omega | (simp only [Int.ofNat_eq_natCast, neg_one]; done) | (simp only [Int.ofNat_eq_natCast, neg_one]; omega)) only [tysW, w_bindJ, w_logJ, w_ct, w_cf, w_gtt, w_gft, w_gtf, w_gff, w_pt, w_pf, w_lret, w_e0, w_e1, w_e2, w_nil, w_fun, w_nt, w_nf, w_add, w_sub, w_eqt, w_eqf, w_net, w_nef, w_ltt, w_ltf, w_let, w_lef, w_gtt', w_gtf', w_get, w_gef, toNat_of, of_add, cast_add, nth_0, nth_s, Nat.zero_add, Nat.reduceAdd, Nat.reduceMul, Nat.add_zero, List.length_cons, List.length_nil, List.drop_zero, List.drop_succ_cons, List.take_succ_cons, List.take_zero, List.take_nil, true_and, and_true, Int.toNat_natCast, List.append_nil, List.nil_append, List.cons_append]
  refine wp_putF g3 hp b3 (by omega) (by exact Nat.le_refl 5) rfl fun h4 g4 b4 e4 => ?_
  simp only [overL] at b4
  have k4 : From s h h4 (s2 + 1) := ⟨by omega, fun n hn => by rw [e4 n (by omega), c3.keep n (by omega), c2.keep n (by omega), c1.keep n hn], g4.fresh⟩
  have b14 : h4.get s = some (.cells ⟨tv x⟩ 64 (0, 0)) := (e4 s (by omega)).trans (c3.box (c2.box b1 (by omega)) (by omega))
  have o4 : OwnI h4 (s + 1) p2 e.data.length e.data := o2.but fun hc => by
    have := o2.lt g2.fresh hc
    rw [e4 _ (by omega), c3.keep _ (by omega)]
  have hp2 : p2 ≠ none → s + 1 ≤ blk p2 ∧ blk p2 < s2 := fun hc => o2.lt g2.fresh hc
  try simp (disch := first | assumption | omega | (simp only [Int.ofNat_eq_natCast, neg_one]; done) | (simp only [Int.ofNat_eq_natCast, neg_one]; omega)) only [tysW, w_bindJ, w_logJ, w_ct, w_cf, w_gtt, w_gft, w_gtf, w_gff, w_pt, w_pf, w_lret, w_e0, w_e1, w_e2, w_nil, w_fun, w_nt, w_nf, w_add, w_sub, w_eqt, w_eqf, w_net, w_nef, w_ltt, w_ltf, w_let, w_lef, w_gtt', w_gtf', w_get, w_gef, toNat_of, of_add, cast_add, nth_0, nth_s, Nat.zero_add, Nat.reduceAdd, Nat.reduceMul, Nat.add_zero, List.length_cons, List.length_nil, List.drop_zero, List.drop_succ_cons, List.take_succ_cons, List.take_zero, List.take_nil, true_and, and_true, Int.toNat_natCast, List.append_nil, List.nil_append, List.cons_append, ldB b4, clB b4, ldBL b4, clBL b4]
  rw [show Value.agg ⟨[vi e.k.a, vi e.k.b, vi e.k.c, .bool e.inp, .slice p2 e.data.length e.data.length]⟩ = eval e p2 e.data.length from rfl]
  refine s28 (d := d) hN g4 hrb hq hp (r1.from hf k4) (by omega) b.rise e o4.sl (by omega) fun h5 s5 bs5 g5 hs5 r5 e5 av5 => ?_
  have b15 := (e5 s (by omega) (by omega) (by omega)).trans b14
  have b45 := (e5 s2 (by omega) (by omega) (by omega)).trans b4
  have b15' := b15
  simp only [tv, xv, List.cons_append, List.nil_append] at b15'
  have a5 : Sl EI h5 x.e.p e.data.length x.e.c e.data := q4.but fun hc => by rw [g5.keep _ (hx hc), g.keep _ (hx hc)]
  have ref5 : RefAt h5 wb keep L p cap l := (r3.from hf k4).but2 g4.fresh r4 (by omega) fun n hn hA => e5 n hn (by omega) (by omega)
  try simp (disch := first | assumption | omega | (simp only [Int.ofNat_eq_natCast, neg_one]; done) | (simp only [Int.ofNat_eq_natCast, neg_one]; omega)) only [tysW, w_bindJ, w_logJ, w_ct, w_cf, w_gtt, w_gft, w_gtf, w_gff, w_pt, w_pf, w_lret, w_e0, w_e1, w_e2, w_nil, w_fun, w_nt, w_nf, w_add, w_sub, w_eqt, w_eqf, w_net, w_nef, w_ltt, w_ltf, w_let, w_lef, w_gtt', w_gtf', w_get, w_gef, toNat_of, of_add, cast_add, nth_0, nth_s, Nat.zero_add, Nat.reduceAdd, Nat.reduceMul, Nat.add_zero, List.length_cons, List.length_nil, List.drop_zero, List.drop_succ_cons, List.take_succ_cons, List.take_zero, List.take_nil, true_and, and_true, Int.toNat_natCast, List.append_nil, List.nil_append, List.cons_append, ldB b15', clB b15', ldBL b15', clBL b15']
  rw [e1]
  refine s64 (d := d + 8) hN g5 hp hwb ref5 hle (by omega) e a5 (by omega) fun h6 s6 p6 cap6 l6 g6 hs6 ref6 e6 hp6 hl6 => ?_
  have avw : Avoid h5 bs5 (· = wb) := av5 _ (fun n hn he => by omega) (r2.keep fun i b hb => k4.keep _ (r1.below hf hb))
  have avp : Avoid h5 bs5 (fun n => p2 ≠ none ∧ n = blk p2) := av5 _ (fun n hn he => by have := hp2 he.1; omega) ((r1.avoid hf (A := fun n => p2 ≠ none ∧ n = blk p2) fun n hn => by have := hp2 hn.1; omega).keep fun i b hb => k4.keep _ (r1.below hf hb))
  have r6 : RingAt h6 rb q keep first bs5 (insE keep e L).1 := r5.but2 g5.fresh avw hne.1 hne.2 fun n hn hA => e6 n hn hA
  have keep6 : ∀ (i b : Nat), bs5[i]? = some b → h6.get b = h5.get b := fun i b hb => e6 b (r5.below g5.fresh hb) (avw i b hb).1
  have avw6 := avw.keep keep6
  have avp6 := avp.keep keep6
  have rv6 : RefAv p6 cap6 l6 (fun n => n = rb ∨ n = q) := ⟨fun hc hA => by
    rcases hp6 hc with ⟨h1, h2⟩ | h1
    · exact r4.1 h2 (by rw [← h1]; exact hA)
    · omega, fun y hy hc hA => by
    rcases hl6 y hy hc with h1 | h1
    · exact r4.2 y h1 hc hA
    · omega⟩
  have rp0 := r3.avoid hf (A := fun n => p2 ≠ none ∧ n = blk p2) fun n hn => by have := hp2 hn.1; omega
  have rp6 : RefAv p6 cap6 l6 (fun n => p2 ≠ none ∧ n = blk p2) := ⟨fun hc hA => by
    have := hp2 hA.1
    rcases hp6 hc with ⟨h1, h2⟩ | h1
    · exact rp0.1 h2 (by rw [← h1]; exact hA)
    · omega, fun y hy hc hA => by
    have := hp2 hA.1
    rcases hl6 y hy hc with h1 | h1
    · exact rp0.2 y h1 hc hA
    · omega⟩
  have b16 := (e6 s (by omega) (by omega)).trans b15
  have b46 := (e6 s2 (by omega) (by omega)).trans b45
  have b16' := b16
  simp only [tv, xv, List.cons_append, List.nil_append] at b16'
  have o6 : OwnI h6 (s + 1) p2 e.data.length e.data := o4.but fun hc => by
    have := hp2 hc
    rw [e6 _ (by omega) (by omega), e5 _ (by omega) (by omega) (by omega)]
  have a6 : Sl EI h6 x.e.p e.data.length x.e.c e.data := q4.but fun hc => by rw [g6.keep _ (hx hc), g.keep _ (hx hc)]
  try simp (disch := first | assumption | omega | (simp only [Int.ofNat_eq_natCast, neg_one]; done) | (simp only [Int.ofNat_eq_natCast, neg_one]; omega)) only [tysW, w_bindJ, w_logJ, w_ct, w_cf, w_gtt, w_gft, w_gtf, w_gff, w_pt, w_pf, w_lret, w_e0, w_e1, w_e2, w_nil, w_fun, w_nt, w_nf, w_add, w_sub, w_eqt, w_eqf, w_net, w_nef, w_ltt, w_ltf, w_let, w_lef, w_gtt', w_gtf', w_get, w_gef, toNat_of, of_add, cast_add, nth_0, nth_s, Nat.zero_add, Nat.reduceAdd, Nat.reduceMul, Nat.add_zero, List.length_cons, List.length_nil, List.drop_zero, List.drop_succ_cons, List.take_succ_cons, List.take_zero, List.take_nil, true_and, and_true, Int.toNat_natCast, List.append_nil, List.nil_append, List.cons_append, ldB b16', clB b16', ldBL b16', clBL b16', ldB b46, clB b46, ldBL b46, clBL b46]
  unfold X40_11
  try simp (disch := first | assumption | omega | (simp only [Int.ofNat_eq_natCast, neg_one]; done) | (simp only [Int.ofNat_eq_natCast, neg_one]; omega)) only [tysW, w_bindJ, w_logJ, w_ct, w_cf, w_gtt, w_gft, w_gtf, w_gff, w_pt, w_pf, w_lret, w_e0, w_e1, w_e2, w_nil, w_fun, w_nt, w_nf, w_add, w_sub, w_eqt, w_eqf, w_net, w_nef, w_ltt, w_ltf, w_let, w_lef, w_gtt', w_gtf', w_get, w_gef, toNat_of, of_add, cast_add, nth_0, nth_s, Nat.zero_add, Nat.reduceAdd, Nat.reduceMul, Nat.add_zero, List.length_cons, List.length_nil, List.drop_zero, List.drop_succ_cons, List.take_succ_cons, List.take_zero, List.take_nil, true_and, and_true, Int.toNat_natCast, List.append_nil, List.nil_append, List.cons_append, ldB b16', clB b16', ldBL b16', clBL b16', ldB b46, clB b46, ldBL b46, clBL b46]
  rw [e1, show Value.agg ⟨[vi e.k.a, vi e.k.b, vi e.k.c, .bool e.inp, .slice p2 e.data.length e.data.length]⟩ = eval e p2 e.data.length from rfl]
  refine PureS.go g6 hp (s35 (d := d + 8) hN g6.fresh e e o6.sl.row a6.row (by omega)) fun v h7 s7 g7 c7 hv => ?_
  obtain ⟨bb, rfl, hbb⟩ := hv
  obtain rfl := hbb.2 rfl
  have l7 := c7.le
  have b47 := c7.box b46 (by omega)
  try simp (disch := first | assumption | omega | (simp only [Int.ofNat_eq_natCast, neg_one]; done) | (simp only [Int.ofNat_eq_natCast, neg_one]; omega)) only [tysW, w_bindJ, w_logJ, w_ct, w_cf, w_gtt, w_gft, w_gtf, w_gff, w_pt, w_pf, w_lret, w_e0, w_e1, w_e2, w_nil, w_fun, w_nt, w_nf, w_add, w_sub, w_eqt, w_eqf, w_net, w_nef, w_ltt, w_ltf, w_let, w_lef, w_gtt', w_gtf', w_get, w_gef, toNat_of, of_add, cast_add, nth_0, nth_s, Nat.zero_add, Nat.reduceAdd, Nat.reduceMul, Nat.add_zero, List.length_cons, List.length_nil, List.drop_zero, List.drop_succ_cons, List.take_succ_cons, List.take_zero, List.take_nil, true_and, and_true, Int.toNat_natCast, List.append_nil, List.nil_append, List.cons_append]
  unfold X40_10
  try simp (disch := first | assumption | omega | (simp only [Int.ofNat_eq_natCast, neg_one]; done) | (simp only [Int.ofNat_eq_natCast, neg_one]; omega)) only [tysW, w_bindJ, w_logJ, w_ct, w_cf, w_gtt, w_gft, w_gtf, w_gff, w_pt, w_pf, w_lret, w_e0, w_e1, w_e2, w_nil, w_fun, w_nt, w_nf, w_add, w_sub, w_eqt, w_eqf, w_net, w_nef, w_ltt, w_ltf, w_let, w_lef, w_gtt', w_gtf', w_get, w_gef, toNat_of, of_add, cast_add, nth_0, nth_s, Nat.zero_add, Nat.reduceAdd, Nat.reduceMul, Nat.add_zero, List.length_cons, List.length_nil, List.drop_zero, List.drop_succ_cons, List.take_succ_cons, List.take_zero, List.take_nil, true_and, and_true, Int.toNat_natCast, List.append_nil, List.nil_append, List.cons_append, ldB b47, clB b47, ldBL b47, clBL b47]
  refine s65 (d := d + 9) hN g7 hp ((o6.from g6.fresh c7).less (by omega)) (by omega) fun h8 g8 e8 => ?_
  have A8 : ∀ n, ¬ (p2 ≠ none ∧ n = blk p2) → h8.get n = h7.get n := fun n hn => e8 n fun h1 h2 => hn ⟨h1, h2⟩
  have avp7 := avp6.keep fun i b hb => c7.keep _ (r6.below g6.fresh hb)
  have r7 := r6.from g6.fresh c7
  have B8 : Both h8 rb q wb keep (insE keep e L).1 := ⟨⟨first, bs5, r7.butA avp7 (fun h => by have := hp2 h.1; omega) (fun h => by have := hp2 h.1; omega) A8, (avw6.keep fun i b hb => c7.keep _ (r6.below g6.fresh hb)).keep fun i b hb => A8 _ (avp7 i b hb).1⟩,
    ⟨p6, cap6, l6, (ref6.from g6.fresh c7).but (fun h => by have := hp2 h.1; omega) rp6.1 rp6.2 A8, rv6⟩, ins_rising b.rise, ins_20 b.d20 h20, hne, ins_le hle⟩
  have b18 : h8.get s = some (.cells ⟨tv x⟩ 64 (0, 0)) := (A8 s (fun h => by have := hp2 h.1; omega)).trans (c7.box b16 (by omega))
  have b18' := b18
  simp only [tv, xv, List.cons_append, List.nil_append] at b18'
  generalize (insE keep e L).1 = L8 at B8
  try simp (disch := first | assumption | omega | (simp only [Int.ofNat_eq_natCast, neg_one]; done) | (simp only [Int.ofNat_eq_natCast, neg_one]; omega)) only [tysW, w_bindJ, w_logJ, w_ct, w_cf, w_gtt, w_gft, w_gtf, w_gff, w_pt, w_pf, w_lret, w_e0, w_e1, w_e2, w_nil, w_fun, w_nt, w_nf, w_add, w_sub, w_eqt, w_eqf, w_net, w_nef, w_ltt, w_ltf, w_let, w_lef, w_gtt', w_gtf', w_get, w_gef, toNat_of, of_add, cast_add, nth_0, nth_s, Nat.zero_add, Nat.reduceAdd, Nat.reduceMul, Nat.add_zero, List.length_cons, List.length_nil, List.drop_zero, List.drop_succ_cons, List.take_succ_cons, List.take_zero, List.take_nil, true_and, and_true, Int.toNat_natCast, List.append_nil, List.nil_append, List.cons_append, ldB b18', clB b18', ldBL b18', clBL b18']
  cases hdr : x.dr with
  | false =>
    try simp (disch := first | assumption | omega | (simp only [Int.ofNat_eq_natCast, neg_one]; done) | (simp only [Int.ofNat_eq_natCast, neg_one]; omega)) only [tysW, w_bindJ, w_logJ, w_ct, w_cf, w_gtt, w_gft, w_gtf, w_gff, w_pt, w_pf, w_lret, w_e0, w_e1, w_e2, w_nil, w_fun, w_nt, w_nf, w_add, w_sub, w_eqt, w_eqf, w_net, w_nef, w_ltt, w_ltf, w_let, w_lef, w_gtt', w_gtf', w_get, w_gef, toNat_of, of_add, cast_add, nth_0, nth_s, Nat.zero_add, Nat.reduceAdd, Nat.reduceMul, Nat.add_zero, List.length_cons, List.length_nil, List.drop_zero, List.drop_succ_cons, List.take_succ_cons, List.take_zero, List.take_nil, true_and, and_true, Int.toNat_natCast, List.append_nil, List.nil_append, List.cons_append]
    exact askW hN g8 hp B8 hk2 x b18 _ fun h' s' g' c' => hk h' s' L8 g' (B8.from g8.fresh c')
  | true =>
    try simp (disch := first | assumption | omega | (simp only [Int.ofNat_eq_natCast, neg_one]; done) | (simp only [Int.ofNat_eq_natCast, neg_one]; omega)) only [tysW, w_bindJ, w_logJ, w_ct, w_cf, w_gtt, w_gft, w_gtf, w_gff, w_pt, w_pf, w_lret, w_e0, w_e1, w_e2, w_nil, w_fun, w_nt, w_nf, w_add, w_sub, w_eqt, w_eqf, w_net, w_nef, w_ltt, w_ltf, w_let, w_lef, w_gtt', w_gtf', w_get, w_gef, toNat_of, of_add, cast_add, nth_0, nth_s, Nat.zero_add, Nat.reduceAdd, Nat.reduceMul, Nat.add_zero, List.length_cons, List.length_nil, List.drop_zero, List.drop_succ_cons, List.take_succ_cons, List.take_zero, List.take_nil, true_and, and_true, Int.toNat_natCast, List.append_nil, List.nil_append, List.cons_append]
    have hws8 : wb < s7 ∧ rb < s7 ∧ q < s7 ∧ s < s7 := by omega
    have hne8 : s ≠ rb ∧ s ≠ q ∧ s ≠ wb := by omega
    obtain ⟨first8, bs8, r8, av8⟩ := B8.ring
    obtain ⟨p8, cap8, l8, ref8, rv8⟩ := B8.ref
    have hd8 := B8.d20
    have hle8 := B8.le
    cases L8 with
    | nil =>
      refine ValS.go g8 hp (s34n (d := d + 6) g8.fresh r8 (by omega)) fun h9 s9 g9 c9 => ?_
      have l9 := c9.le
      try simp (disch := first | assumption | omega | (simp only [Int.ofNat_eq_natCast, neg_one]; done) | (simp only [Int.ofNat_eq_natCast, neg_one]; omega)) only [tysW, w_bindJ, w_logJ, w_ct, w_cf, w_gtt, w_gft, w_gtf, w_gff, w_pt, w_pf, w_lret, w_e0, w_e1, w_e2, w_nil, w_fun, w_nt, w_nf, w_add, w_sub, w_eqt, w_eqf, w_net, w_nef, w_ltt, w_ltf, w_let, w_lef, w_gtt', w_gtf', w_get, w_gef, toNat_of, of_add, cast_add, nth_0, nth_s, Nat.zero_add, Nat.reduceAdd, Nat.reduceMul, Nat.add_zero, List.length_cons, List.length_nil, List.drop_zero, List.drop_succ_cons, List.take_succ_cons, List.take_zero, List.take_nil, true_and, and_true, Int.toNat_natCast, List.append_nil, List.nil_append, List.cons_append]
      refine wp_boxA g9 hp fun h10 g10 c10 b10 => ?_
      try simp (disch := first | assumption | omega | (simp only [Int.ofNat_eq_natCast, neg_one]; done) | (simp only [Int.ofNat_eq_natCast, neg_one]; omega)) only [tysW, w_bindJ, w_logJ, w_ct, w_cf, w_gtt, w_gft, w_gtf, w_gff, w_pt, w_pf, w_lret, w_e0, w_e1, w_e2, w_nil, w_fun, w_nt, w_nf, w_add, w_sub, w_eqt, w_eqf, w_net, w_nef, w_ltt, w_ltf, w_let, w_lef, w_gtt', w_gtf', w_get, w_gef, toNat_of, of_add, cast_add, nth_0, nth_s, Nat.zero_add, Nat.reduceAdd, Nat.reduceMul, Nat.add_zero, List.length_cons, List.length_nil, List.drop_zero, List.drop_succ_cons, List.take_succ_cons, List.take_zero, List.take_nil, true_and, and_true, Int.toNat_natCast, List.append_nil, List.nil_append, List.cons_append]
      refine wp_putF g10 hp b10 (by omega) (by exact Nat.le_refl 5) rfl fun h11 g11 b11 e11 => ?_
      simp only [overL] at b11
      have k11 : From s7 h8 h11 (s9 + 1) := ⟨by omega, fun n hn => by rw [e11 n (by omega), c10.keep n (by omega), c9.keep n hn], g11.fresh⟩
      try simp (disch := first | assumption | omega | (simp only [Int.ofNat_eq_natCast, neg_one]; done) | (simp only [Int.ofNat_eq_natCast, neg_one]; omega)) only [tysW, w_bindJ, w_logJ, w_ct, w_cf, w_gtt, w_gft, w_gtf, w_gff, w_pt, w_pf, w_lret, w_e0, w_e1, w_e2, w_nil, w_fun, w_nt, w_nf, w_add, w_sub, w_eqt, w_eqf, w_net, w_nef, w_ltt, w_ltf, w_let, w_lef, w_gtt', w_gtf', w_get, w_gef, toNat_of, of_add, cast_add, nth_0, nth_s, Nat.zero_add, Nat.reduceAdd, Nat.reduceMul, Nat.add_zero, List.length_cons, List.length_nil, List.drop_zero, List.drop_succ_cons, List.take_succ_cons, List.take_zero, List.take_nil, true_and, and_true, Int.toNat_natCast, List.append_nil, List.nil_append, List.cons_append]
      refine ValS.go g11 hp (s66n (d := d + 7) g11.fresh (ref8.from g8.fresh k11)) fun h12 s12 g12 c12 => ?_
      have l12 := c12.le
      try simp (disch := first | assumption | omega | (simp only [Int.ofNat_eq_natCast, neg_one]; done) | (simp only [Int.ofNat_eq_natCast, neg_one]; omega)) only [tysW, w_bindJ, w_logJ, w_ct, w_cf, w_gtt, w_gft, w_gtf, w_gff, w_pt, w_pf, w_lret, w_e0, w_e1, w_e2, w_nil, w_fun, w_nt, w_nf, w_add, w_sub, w_eqt, w_eqf, w_net, w_nef, w_ltt, w_ltf, w_let, w_lef, w_gtt', w_gtf', w_get, w_gef, toNat_of, of_add, cast_add, nth_0, nth_s, Nat.zero_add, Nat.reduceAdd, Nat.reduceMul, Nat.add_zero, List.length_cons, List.length_nil, List.drop_zero, List.drop_succ_cons, List.take_succ_cons, List.take_zero, List.take_nil, true_and, and_true, Int.toNat_natCast, List.append_nil, List.nil_append, List.cons_append]
      refine wp_boxA g12 hp fun h13 g13 c13 b13 => ?_
      try simp (disch := first | assumption | omega | (simp only [Int.ofNat_eq_natCast, neg_one]; done) | (simp only [Int.ofNat_eq_natCast, neg_one]; omega)) only [tysW, w_bindJ, w_logJ, w_ct, w_cf, w_gtt, w_gft, w_gtf, w_gff, w_pt, w_pf, w_lret, w_e0, w_e1, w_e2, w_nil, w_fun, w_nt, w_nf, w_add, w_sub, w_eqt, w_eqf, w_net, w_nef, w_ltt, w_ltf, w_let, w_lef, w_gtt', w_gtf', w_get, w_gef, toNat_of, of_add, cast_add, nth_0, nth_s, Nat.zero_add, Nat.reduceAdd, Nat.reduceMul, Nat.add_zero, List.length_cons, List.length_nil, List.drop_zero, List.drop_succ_cons, List.take_succ_cons, List.take_zero, List.take_nil, true_and, and_true, Int.toNat_natCast, List.append_nil, List.nil_append, List.cons_append]
      refine wp_putF g13 hp b13 (by omega) (by exact Nat.le_refl 5) rfl fun h14 g14 b14 e14 => ?_
      simp only [overL] at b14
      have b114 := (e14 s9 (by omega)).trans (c13.box (c12.box b11 (by omega)) (by omega))
      have k14 : From s7 h8 h14 (s12 + 1) := ⟨by omega, fun n hn => by rw [e14 n (by omega), c13.keep n (by omega), c12.keep n (by omega)]; exact k11.keep n hn, g14.fresh⟩
      try simp (disch := first | assumption | omega | (simp only [Int.ofNat_eq_natCast, neg_one]; done) | (simp only [Int.ofNat_eq_natCast, neg_one]; omega)) only [tysW, w_bindJ, w_logJ, w_ct, w_cf, w_gtt, w_gft, w_gtf, w_gff, w_pt, w_pf, w_lret, w_e0, w_e1, w_e2, w_nil, w_fun, w_nt, w_nf, w_add, w_sub, w_eqt, w_eqf, w_net, w_nef, w_ltt, w_ltf, w_let, w_lef, w_gtt', w_gtf', w_get, w_gef, toNat_of, of_add, cast_add, nth_0, nth_s, Nat.zero_add, Nat.reduceAdd, Nat.reduceMul, Nat.add_zero, List.length_cons, List.length_nil, List.drop_zero, List.drop_succ_cons, List.take_succ_cons, List.take_zero, List.take_nil, true_and, and_true, Int.toNat_natCast, List.append_nil, List.nil_append, List.cons_append, ldB b114, clB b114, ldBL b114, clBL b114, ldB b14, clB b14, ldBL b14, clBL b14]
      refine PureS.go g14 hp (s35 (d := d + 8) hN g14.fresh ⟨⟨0, 0, 0⟩, false, []⟩ ⟨⟨0, 0, 0⟩, false, []⟩ (p := none) (p' := none) (c := 0) (c' := 0) (.nil _ _) (.nil _ _) (by simp)) fun v h15 s15 g15 c15 hv => ?_
      obtain ⟨bb, rfl, hbb⟩ := hv
      obtain rfl := hbb.2 rfl
      have k15 := k14.trans c15
      try simp (disch := first | assumption | omega | (simp only [Int.ofNat_eq_natCast, neg_one]; done) | (simp only [Int.ofNat_eq_natCast, neg_one]; omega)) only [tysW, w_bindJ, w_logJ, w_ct, w_cf, w_gtt, w_gft, w_gtf, w_gff, w_pt, w_pf, w_lret, w_e0, w_e1, w_e2, w_nil, w_fun, w_nt, w_nf, w_add, w_sub, w_eqt, w_eqf, w_net, w_nef, w_ltt, w_ltf, w_let, w_lef, w_gtt', w_gtf', w_get, w_gef, toNat_of, of_add, cast_add, nth_0, nth_s, Nat.zero_add, Nat.reduceAdd, Nat.reduceMul, Nat.add_zero, List.length_cons, List.length_nil, List.drop_zero, List.drop_succ_cons, List.take_succ_cons, List.take_zero, List.take_nil, true_and, and_true, Int.toNat_natCast, List.append_nil, List.nil_append, List.cons_append]
      exact askW hN g15 hp (B8.from g8.fresh k15) hk2 x (k15.box b18 hws8.2.2.2) _ fun h' s' g' c' => hk h' s' [] g' ((B8.from g8.fresh k15).from g15.fresh c')
    | cons e9 L9 =>
      have hlen8 := r8.len
      cases bs8 with
      | nil => simp at hlen8
      | cons bb9 bs9 =>
        have hL9 := hd8 e9 (List.mem_cons_self ..)
        rw [List.length_cons] at hle8
        refine s34 (d := d + 6) g8 hrb hq hp r8 (by omega) (fun y hy => by have := hd8 y hy; omega) fun h9 s9 p9 g9 l9 r9 a9 ha9 e9k => ?_
        have b19 := (e9k s hws8.2.2.2 hne8.1 hne8.2.1).trans b18
        have ref9 : RefAt h9 wb keep (e9 :: L9) p8 cap8 l8 := ref8.but2 g8.fresh rv8 (by omega) fun n hn hA => e9k n hn (by omega) (by omega)
        have av9 : Avoid h9 bs9 (· = wb) := fun i b hb => by
          have h1 := av8 (i + 1) b (by rw [List.getElem?_cons_succ]; exact hb)
          have h2 := r8.below g8.fresh (i := i + 1) (by rw [List.getElem?_cons_succ]; exact hb)
          obtain ⟨z1, z2⟩ := r8.apart (i := i + 1) (b := b) (by rw [List.getElem?_cons_succ]; exact hb)
          exact ⟨h1.1, fun y p c hy => h1.2 y p c (by rw [← e9k b h2 z1 z2]; exact hy)⟩
        simp only [eval, ev]
        try simp (disch := first | assumption | omega | (simp only [Int.ofNat_eq_natCast, neg_one]; done) | (simp only [Int.ofNat_eq_natCast, neg_one]; omega)) only [tysW, w_bindJ, w_logJ, w_ct, w_cf, w_gtt, w_gft, w_gtf, w_gff, w_pt, w_pf, w_lret, w_e0, w_e1, w_e2, w_nil, w_fun, w_nt, w_nf, w_add, w_sub, w_eqt, w_eqf, w_net, w_nef, w_ltt, w_ltf, w_let, w_lef, w_gtt', w_gtf', w_get, w_gef, toNat_of, of_add, cast_add, nth_0, nth_s, Nat.zero_add, Nat.reduceAdd, Nat.reduceMul, Nat.add_zero, List.length_cons, List.length_nil, List.drop_zero, List.drop_succ_cons, List.take_succ_cons, List.take_zero, List.take_nil, true_and, and_true, Int.toNat_natCast, List.append_nil, List.nil_append, List.cons_append]
        refine wp_boxA g9 hp fun h10 g10 c10 b10 => ?_
        try simp (disch := first | assumption | omega | (simp only [Int.ofNat_eq_natCast, neg_one]; done) | (simp only [Int.ofNat_eq_natCast, neg_one]; omega)) only [tysW, w_bindJ, w_logJ, w_ct, w_cf, w_gtt, w_gft, w_gtf, w_gff, w_pt, w_pf, w_lret, w_e0, w_e1, w_e2, w_nil, w_fun, w_nt, w_nf, w_add, w_sub, w_eqt, w_eqf, w_net, w_nef, w_ltt, w_ltf, w_let, w_lef, w_gtt', w_gtf', w_get, w_gef, toNat_of, of_add, cast_add, nth_0, nth_s, Nat.zero_add, Nat.reduceAdd, Nat.reduceMul, Nat.add_zero, List.length_cons, List.length_nil, List.drop_zero, List.drop_succ_cons, List.take_succ_cons, List.take_zero, List.take_nil, true_and, and_true, Int.toNat_natCast, List.append_nil, List.nil_append, List.cons_append]
        refine wp_putF g10 hp b10 (by omega) (by exact Nat.le_refl 5) rfl fun h11 g11 b11 e11 => ?_
        simp only [overL] at b11
        have k11 : From s9 h9 h11 (s9 + 1) := ⟨by omega, fun n hn => by rw [e11 n (by omega), c10.keep n hn], g11.fresh⟩
        have ref11 := ref9.from g9.fresh k11
        have r11 := r9.from g9.fresh k11
        have av11 := av9.keep fun i b hb => k11.keep _ (r9.below g9.fresh hb)
        have a11 := a9.from g9.fresh k11
        have b111 := k11.box b19 (by omega)
        try simp (disch := first | assumption | omega | (simp only [Int.ofNat_eq_natCast, neg_one]; done) | (simp only [Int.ofNat_eq_natCast, neg_one]; omega)) only [tysW, w_bindJ, w_logJ, w_ct, w_cf, w_gtt, w_gft, w_gtf, w_gff, w_pt, w_pf, w_lret, w_e0, w_e1, w_e2, w_nil, w_fun, w_nt, w_nf, w_add, w_sub, w_eqt, w_eqf, w_net, w_nef, w_ltt, w_ltf, w_let, w_lef, w_gtt', w_gtf', w_get, w_gef, toNat_of, of_add, cast_add, nth_0, nth_s, Nat.zero_add, Nat.reduceAdd, Nat.reduceMul, Nat.add_zero, List.length_cons, List.length_nil, List.drop_zero, List.drop_succ_cons, List.take_succ_cons, List.take_zero, List.take_nil, true_and, and_true, Int.toNat_natCast, List.append_nil, List.nil_append, List.cons_append]
        refine s66 (d := d + 7) g11 hp hwb ref11 (fun y hy => by have := hd8 y hy; omega) (by omega) fun h12 s12 p12 cap12 l12 q12 g12 hs12 ref12 a12 e12 hp12 hl12 => ?_
        have r12 : RingAt h12 rb q keep (ix first8 keep 1) bs9 L9 := r11.but2 g11.fresh av11 hne.1 hne.2 fun n hn hA => e12 n hn hA
        have av12 := av11.keep (h' := h12) fun i b hb => e12 b (r11.below g11.fresh hb) (av11 i b hb).1
        have B12 : Both h12 rb q wb keep L9 := ⟨⟨_, bs9, r12, av12⟩, ⟨p12, cap12, l12, ref12, fun hc hA => by
            obtain ⟨h1, h2⟩ := hp12 hc
            exact rv8.1 h2 (by rw [← h1]; exact hA), fun y hy hc => rv8.2 y (hl12 y hy) hc⟩, rise_tail B8.rise, fun y hy => hd8 y (List.mem_cons_of_mem _ hy), hne, by omega⟩
        have a912 : Sl EI h12 p9 e9.data.length e9.data.length e9.data := a11.but fun hc => by
          have h1 := ha9 hc
          have h2 := a11.lt g11.fresh hc
          exact e12 _ h2 (by omega)
        have b112 := (e12 s (by omega) hne8.2.2).trans b111
        have bx12 := (e12 s9 (by omega) (by omega)).trans b11
        simp only [eval, ev]
        try simp (disch := first | assumption | omega | (simp only [Int.ofNat_eq_natCast, neg_one]; done) | (simp only [Int.ofNat_eq_natCast, neg_one]; omega)) only [tysW, w_bindJ, w_logJ, w_ct, w_cf, w_gtt, w_gft, w_gtf, w_gff, w_pt, w_pf, w_lret, w_e0, w_e1, w_e2, w_nil, w_fun, w_nt, w_nf, w_add, w_sub, w_eqt, w_eqf, w_net, w_nef, w_ltt, w_ltf, w_let, w_lef, w_gtt', w_gtf', w_get, w_gef, toNat_of, of_add, cast_add, nth_0, nth_s, Nat.zero_add, Nat.reduceAdd, Nat.reduceMul, Nat.add_zero, List.length_cons, List.length_nil, List.drop_zero, List.drop_succ_cons, List.take_succ_cons, List.take_zero, List.take_nil, true_and, and_true, Int.toNat_natCast, List.append_nil, List.nil_append, List.cons_append]
        refine wp_boxA g12 hp fun h13 g13 c13 b13 => ?_
        try simp (disch := first | assumption | omega | (simp only [Int.ofNat_eq_natCast, neg_one]; done) | (simp only [Int.ofNat_eq_natCast, neg_one]; omega)) only [tysW, w_bindJ, w_logJ, w_ct, w_cf, w_gtt, w_gft, w_gtf, w_gff, w_pt, w_pf, w_lret, w_e0, w_e1, w_e2, w_nil, w_fun, w_nt, w_nf, w_add, w_sub, w_eqt, w_eqf, w_net, w_nef, w_ltt, w_ltf, w_let, w_lef, w_gtt', w_gtf', w_get, w_gef, toNat_of, of_add, cast_add, nth_0, nth_s, Nat.zero_add, Nat.reduceAdd, Nat.reduceMul, Nat.add_zero, List.length_cons, List.length_nil, List.drop_zero, List.drop_succ_cons, List.take_succ_cons, List.take_zero, List.take_nil, true_and, and_true, Int.toNat_natCast, List.append_nil, List.nil_append, List.cons_append]
        refine wp_putF g13 hp b13 (by omega) (by exact Nat.le_refl 5) rfl fun h14 g14 b14 e14 => ?_
        simp only [overL] at b14
        have k14 : From s12 h12 h14 (s12 + 1) := ⟨by omega, fun n hn => by rw [e14 n (by omega), c13.keep n hn], g14.fresh⟩
        try simp (disch := first | assumption | omega | (simp only [Int.ofNat_eq_natCast, neg_one]; done) | (simp only [Int.ofNat_eq_natCast, neg_one]; omega)) only [tysW, w_bindJ, w_logJ, w_ct, w_cf, w_gtt, w_gft, w_gtf, w_gff, w_pt, w_pf, w_lret, w_e0, w_e1, w_e2, w_nil, w_fun, w_nt, w_nf, w_add, w_sub, w_eqt, w_eqf, w_net, w_nef, w_ltt, w_ltf, w_let, w_lef, w_gtt', w_gtf', w_get, w_gef, toNat_of, of_add, cast_add, nth_0, nth_s, Nat.zero_add, Nat.reduceAdd, Nat.reduceMul, Nat.add_zero, List.length_cons, List.length_nil, List.drop_zero, List.drop_succ_cons, List.take_succ_cons, List.take_zero, List.take_nil, true_and, and_true, Int.toNat_natCast, List.append_nil, List.nil_append, List.cons_append, ldB (k14.box bx12 (by omega)), clB (k14.box bx12 (by omega)), ldBL (k14.box bx12 (by omega)), clBL (k14.box bx12 (by omega)), ldB b14, clB b14, ldBL b14, clBL b14]
        refine PureS.go g14 hp (s35 (d := d + 8) hN g14.fresh e9 e9 (a912.from g12.fresh k14).row (a12.from g12.fresh k14).row (by omega)) fun v h15 s15 g15 c15 hv => ?_
        obtain ⟨bb, rfl, hbb⟩ := hv
        obtain rfl := hbb.2 rfl
        have k15 := k14.trans c15
        try simp (disch := first | assumption | omega | (simp only [Int.ofNat_eq_natCast, neg_one]; done) | (simp only [Int.ofNat_eq_natCast, neg_one]; omega)) only [tysW, w_bindJ, w_logJ, w_ct, w_cf, w_gtt, w_gft, w_gtf, w_gff, w_pt, w_pf, w_lret, w_e0, w_e1, w_e2, w_nil, w_fun, w_nt, w_nf, w_add, w_sub, w_eqt, w_eqf, w_net, w_nef, w_ltt, w_ltf, w_let, w_lef, w_gtt', w_gtf', w_get, w_gef, toNat_of, of_add, cast_add, nth_0, nth_s, Nat.zero_add, Nat.reduceAdd, Nat.reduceMul, Nat.add_zero, List.length_cons, List.length_nil, List.drop_zero, List.drop_succ_cons, List.take_succ_cons, List.take_zero, List.take_nil, true_and, and_true, Int.toNat_natCast, List.append_nil, List.nil_append, List.cons_append]
        exact askW hN g15 hp (B12.from g12.fresh k15) hk2 x (k15.box b112 (by omega)) _ fun h' s' g' c' => hk h' s' L9 g' ((B12.from g12.fresh k15).from g15.fresh c')
end
end Go.Ev.R
namespace Go.Ev.R
open Go Go.RowKit
theorem D_26 (N d : Nat) (K : KV) (s : Nat) : D N (d + 1) 26 [] K s = K (.bool true) s := by kernel_rfl
section
variable {N d : Nat} {h : T} {s : Nat} (hf : ∀ n, s ≤ n → h.get n = none)
include hf
theorem s27n (n : Int) (hn : ¬ (1 ≤ n ∧ n ≤ 200)) : ValS (D N (d + 1)) 27 [vi n] h s (.tuple ⟨[.pointer none, vi 2]⟩) := by
  refine ValS.of hf fun K pw Z g hp hk => ?_
  rw [D_27]; unfold F27; rw [app1_eq]
  by_cases h1 : n < 1
  · try simp (disch := first | assumption | omega | (simp only [Int.ofNat_eq_natCast, neg_one]; done) | (simp only [Int.ofNat_eq_natCast, neg_one]; omega)) only [tysW, w_bindJ, w_logJ, w_ct, w_cf, w_gtt, w_gft, w_gtf, w_gff, w_pt, w_pf, w_lret, w_e0, w_e1, w_e2, w_nil, w_fun, w_nt, w_nf, w_add, w_sub, w_eqt, w_eqf, w_net, w_nef, w_ltt, w_ltf, w_let, w_lef, w_gtt', w_gtf', w_get, w_gef, toNat_of, of_add, cast_add, nth_0, nth_s, Nat.zero_add, Nat.reduceAdd, Nat.reduceMul, Nat.add_zero, List.length_cons, List.length_nil, List.drop_zero, List.drop_succ_cons, List.take_succ_cons, List.take_zero, List.take_nil, true_and, and_true, Int.toNat_natCast, List.append_nil, List.nil_append, List.cons_append]
    exact hk _ _ g
  · try simp (disch := first | assumption | omega | (simp only [Int.ofNat_eq_natCast, neg_one]; done) | (simp only [Int.ofNat_eq_natCast, neg_one]; omega)) only [tysW, w_bindJ, w_logJ, w_ct, w_cf, w_gtt, w_gft, w_gtf, w_gff, w_pt, w_pf, w_lret, w_e0, w_e1, w_e2, w_nil, w_fun, w_nt, w_nf, w_add, w_sub, w_eqt, w_eqf, w_net, w_nef, w_ltt, w_ltf, w_let, w_lef, w_gtt', w_gtf', w_get, w_gef, toNat_of, of_add, cast_add, nth_0, nth_s, Nat.zero_add, Nat.reduceAdd, Nat.reduceMul, Nat.add_zero, List.length_cons, List.length_nil, List.drop_zero, List.drop_succ_cons, List.take_succ_cons, List.take_zero, List.take_nil, true_and, and_true, Int.toNat_natCast, List.append_nil, List.nil_append, List.cons_append]
    exact hk _ _ g
theorem s38n (n : Int) (hn : ¬ (1 ≤ n ∧ n ≤ 200)) : ValS (D N (d + 1)) 38 [vi n] h s (.tuple ⟨[.pointer none, vi 2]⟩) := by
  refine ValS.of hf fun K pw Z g hp hk => ?_
  rw [D_38]; unfold F38; rw [app1_eq]
  by_cases h1 : n < 1
  · try simp (disch := first | assumption | omega | (simp only [Int.ofNat_eq_natCast, neg_one]; done) | (simp only [Int.ofNat_eq_natCast, neg_one]; omega)) only [tysW, w_bindJ, w_logJ, w_ct, w_cf, w_gtt, w_gft, w_gtf, w_gff, w_pt, w_pf, w_lret, w_e0, w_e1, w_e2, w_nil, w_fun, w_nt, w_nf, w_add, w_sub, w_eqt, w_eqf, w_net, w_nef, w_ltt, w_ltf, w_let, w_lef, w_gtt', w_gtf', w_get, w_gef, toNat_of, of_add, cast_add, nth_0, nth_s, Nat.zero_add, Nat.reduceAdd, Nat.reduceMul, Nat.add_zero, List.length_cons, List.length_nil, List.drop_zero, List.drop_succ_cons, List.take_succ_cons, List.take_zero, List.take_nil, true_and, and_true, Int.toNat_natCast, List.append_nil, List.nil_append, List.cons_append]
    exact hk _ _ g
  · try simp (disch := first | assumption | omega | (simp only [Int.ofNat_eq_natCast, neg_one]; done) | (simp only [Int.ofNat_eq_natCast, neg_one]; omega)) only [tysW, w_bindJ, w_logJ, w_ct, w_cf, w_gtt, w_gft, w_gtf, w_gff, w_pt, w_pf, w_lret, w_e0, w_e1, w_e2, w_nil, w_fun, w_nt, w_nf, w_add, w_sub, w_eqt, w_eqf, w_net, w_nef, w_ltt, w_ltf, w_let, w_lef, w_gtt', w_gtf', w_get, w_gef, toNat_of, of_add, cast_add, nth_0, nth_s, Nat.zero_add, Nat.reduceAdd, Nat.reduceMul, Nat.add_zero, List.length_cons, List.length_nil, List.drop_zero, List.drop_succ_cons, List.take_succ_cons, List.take_zero, List.take_nil, true_and, and_true, Int.toNat_natCast, List.append_nil, List.nil_append, List.cons_append]
    exact hk _ _ g
end
theorem turnA {h : T} {p : Option Addr} {len : Nat} {l : List TV} (r : Row ET h p len l) {i : Nat} {x : TV} (hx : l[i]? = some x) {pw : Nat → Prop} {Z : Value → T → Prop} (k : List Value → Nat → AM) (s : Nat) : (acells (blk p) (off p + i * 7) 7 k s).wp pw Z h = (k (tv x) s).wp pw Z h := r.ld hx k s
section
variable {N d : Nat} (hN : 100000 ≤ N) {h : T} {s : Nat} (hf : ∀ n, s ≤ n → h.get n = none)
include hN hf
set_option maxHeartbeats 1000000 in
theorem s9 (keep : Int) {pl : Option Addr} {ln cl : Nat} {l : List TV} (rl : Row ET h pl ln l) (hD : ∀ x ∈ l, ∃ dt : List Int, x.e.n = dt.length ∧ Sl EI h x.e.p x.e.n x.e.c dt) : ValS (D N (d + 13)) 9 [vi keep, .slice pl ln cl] h s (.bool true) := by
  refine ValS.of hf fun K pw Z g hp hk => ?_
  rw [D_9]; unfold F9; rw [app2_eq]
  have done_ : ∀ h' s', From s h h' s' → (K (.bool true) s').wp pw Z h' := fun h' s' g' => hk _ _ g'
  unfold X9_6
  by_cases hkp : 1 ≤ keep ∧ keep ≤ 200
  · obtain ⟨kn, rfl⟩ := Int.eq_ofNat_of_zero_le (show 0 ≤ keep by omega)
    refine PureS.go g hp (s27 (d := d + 11) g.fresh kn (by omega) (by omega)) fun v h1 s1 g1 c1 hv => ?_
    obtain ⟨rb, q, rfl, hrb, hq, r1⟩ := hv
    have l1 := g1.le
    try simp (disch := first | assumption | omega | (simp only [Int.ofNat_eq_natCast, neg_one]; done) | (simp only [Int.ofNat_eq_natCast, neg_one]; omega)) only [tysW, w_bindJ, w_logJ, w_ct, w_cf, w_gtt, w_gft, w_gtf, w_gff, w_pt, w_pf, w_lret, w_e0, w_e1, w_e2, w_nil, w_fun, w_nt, w_nf, w_add, w_sub, w_eqt, w_eqf, w_net, w_nef, w_ltt, w_ltf, w_let, w_lef, w_gtt', w_gtf', w_get, w_gef, toNat_of, of_add, cast_add, nth_0, nth_s, Nat.zero_add, Nat.reduceAdd, Nat.reduceMul, Nat.add_zero, List.length_cons, List.length_nil, List.drop_zero, List.drop_succ_cons, List.take_succ_cons, List.take_zero, List.take_nil, true_and, and_true, Int.toNat_natCast, List.append_nil, List.nil_append, List.cons_append]
    refine PureS.go g1 hp (s38 (d := d + 11) g1.fresh kn (by omega) (by omega)) fun v h2 s2 g2 c2 hv => ?_
    obtain ⟨wb, rfl, hwb, w2⟩ := hv
    have l2 := g2.le
    have hrs : rb < s1 := lt_of_some g1.fresh ⟨_, r1.box⟩
    have hqs : q < s1 := by obtain ⟨cs, y1, _⟩ := r1.row; exact lt_of_some g1.fresh ⟨_, y1⟩
    have B2 : Both h2 rb q wb kn [] := ⟨⟨0, [], r1.from g1.fresh c2, fun i b hb => by simp at hb⟩, ⟨none, 0, [], w2, fun h => absurd rfl h, fun x hx => by simp at hx⟩, rfl, fun e he => by simp at he, by omega, Nat.zero_le _⟩
    try simp (disch := first | assumption | omega | (simp only [Int.ofNat_eq_natCast, neg_one]; done) | (simp only [Int.ofNat_eq_natCast, neg_one]; omega)) only [tysW, w_bindJ, w_logJ, w_ct, w_cf, w_gtt, w_gft, w_gtf, w_gff, w_pt, w_pf, w_lret, w_e0, w_e1, w_e2, w_nil, w_fun, w_nt, w_nf, w_add, w_sub, w_eqt, w_eqf, w_net, w_nef, w_ltt, w_ltf, w_let, w_lef, w_gtt', w_gtf', w_get, w_gef, toNat_of, of_add, cast_add, nth_0, nth_s, Nat.zero_add, Nat.reduceAdd, Nat.reduceMul, Nat.add_zero, List.length_cons, List.length_nil, List.drop_zero, List.drop_succ_cons, List.take_succ_cons, List.take_zero, List.take_nil, true_and, and_true, Int.toNat_natCast, List.append_nil, List.nil_append, List.cons_append]
    have loop : ∀ (J : Nat → AM) (hJ : ∀ h5 s5, From s h h5 s5 → (J s5).wp pw Z h5) (B : (Value → Value → Nat → AM) → Value → Value → Nat → AM) (hB : ∀ H u i s', B H u i s' = X9_5 N (D N (d + 12)) K (ptr wb) (.slice pl ln cl) (ptr rb) J H u i s') (m i : Nat) (u : Value) (h5 : T) (s5 : Nat) (L : List EN), 61 - i < m → i ≤ ln → i ≤ 60 → From s h h5 s5 → Both h5 rb q wb kn L →
        (loopJ m 2 (fun _ _ _ => AM.fail) B u (vi i) s5).wp pw Z h5 := by
      intro J hJ B hB m
      induction m with
      | zero => intro i u h5 s5 L hm; omega
      | succ m ih =>
        intro i u h5 s5 L hm hil hi6 g5 b5
        have rl5 := g5.row hf rl
        have hle := b5.le
        rw [loopJ_succ, hB]
        unfold X9_5
        try simp (disch := first | assumption | omega | (simp only [Int.ofNat_eq_natCast, neg_one]; done) | (simp only [Int.ofNat_eq_natCast, neg_one]; omega)) only [tysW, w_bindJ, w_logJ, w_ct, w_cf, w_gtt, w_gft, w_gtf, w_gff, w_pt, w_pf, w_lret, w_e0, w_e1, w_e2, w_nil, w_fun, w_nt, w_nf, w_add, w_sub, w_eqt, w_eqf, w_net, w_nef, w_ltt, w_ltf, w_let, w_lef, w_gtt', w_gtf', w_get, w_gef, toNat_of, of_add, cast_add, nth_0, nth_s, Nat.zero_add, Nat.reduceAdd, Nat.reduceMul, Nat.add_zero, List.length_cons, List.length_nil, List.drop_zero, List.drop_succ_cons, List.take_succ_cons, List.take_zero, List.take_nil, true_and, and_true, Int.toNat_natCast, List.append_nil, List.nil_append, List.cons_append]
        refine PureS.go g5 hp (s39 (d := d + 11) hN g5.fresh rl5) fun v h6 s6 g6 c6 hv => ?_
        obtain ⟨lb, rfl, hlb⟩ := hv
        have b6 := b5.from g5.fresh c6
        have rl6 := g6.row hf rl
        cases lb with
        | true =>
          try simp (disch := first | assumption | omega | (simp only [Int.ofNat_eq_natCast, neg_one]; done) | (simp only [Int.ofNat_eq_natCast, neg_one]; omega)) only [tysW, w_bindJ, w_logJ, w_ct, w_cf, w_gtt, w_gft, w_gtf, w_gff, w_pt, w_pf, w_lret, w_e0, w_e1, w_e2, w_nil, w_fun, w_nt, w_nf, w_add, w_sub, w_eqt, w_eqf, w_net, w_nef, w_ltt, w_ltf, w_let, w_lef, w_gtt', w_gtf', w_get, w_gef, toNat_of, of_add, cast_add, nth_0, nth_s, Nat.zero_add, Nat.reduceAdd, Nat.reduceMul, Nat.add_zero, List.length_cons, List.length_nil, List.drop_zero, List.drop_succ_cons, List.take_succ_cons, List.take_zero, List.take_nil, true_and, and_true, Int.toNat_natCast, List.append_nil, List.nil_append, List.cons_append]
          unfold X9_4
          try simp (disch := first | assumption | omega | (simp only [Int.ofNat_eq_natCast, neg_one]; done) | (simp only [Int.ofNat_eq_natCast, neg_one]; omega)) only [tysW, w_bindJ, w_logJ, w_ct, w_cf, w_gtt, w_gft, w_gtf, w_gff, w_pt, w_pf, w_lret, w_e0, w_e1, w_e2, w_nil, w_fun, w_nt, w_nf, w_add, w_sub, w_eqt, w_eqf, w_net, w_nef, w_ltt, w_ltf, w_let, w_lef, w_gtt', w_gtf', w_get, w_gef, toNat_of, of_add, cast_add, nth_0, nth_s, Nat.zero_add, Nat.reduceAdd, Nat.reduceMul, Nat.add_zero, List.length_cons, List.length_nil, List.drop_zero, List.drop_succ_cons, List.take_succ_cons, List.take_zero, List.take_nil, true_and, and_true, Int.toNat_natCast, List.append_nil, List.nil_append, List.cons_append]
          exact hJ h6 s6 g6
        | false =>
          obtain ⟨h60, h20⟩ := hlb rfl
          by_cases hlt : i < ln
          · obtain ⟨x, hx⟩ := get_some (l := l) (i := i) (by rw [rl.1]; omega)
            obtain ⟨dt, hn, sl⟩ := hD x (List.mem_of_getElem? hx)
            have hxn := h20 x (List.mem_of_getElem? hx)
            try simp (disch := first | assumption | omega | (simp only [Int.ofNat_eq_natCast, neg_one]; done) | (simp only [Int.ofNat_eq_natCast, neg_one]; omega)) only [tysW, w_bindJ, w_logJ, w_ct, w_cf, w_gtt, w_gft, w_gtf, w_gff, w_pt, w_pf, w_lret, w_e0, w_e1, w_e2, w_nil, w_fun, w_nt, w_nf, w_add, w_sub, w_eqt, w_eqf, w_net, w_nef, w_ltt, w_ltf, w_let, w_lef, w_gtt', w_gtf', w_get, w_gef, toNat_of, of_add, cast_add, nth_0, nth_s, Nat.zero_add, Nat.reduceAdd, Nat.reduceMul, Nat.add_zero, List.length_cons, List.length_nil, List.drop_zero, List.drop_succ_cons, List.take_succ_cons, List.take_zero, List.take_nil, true_and, and_true, Int.toNat_natCast, List.append_nil, List.nil_append, List.cons_append]
            unfold X9_4
            try simp (disch := first | assumption | omega | (simp only [Int.ofNat_eq_natCast, neg_one]; done) | (simp only [Int.ofNat_eq_natCast, neg_one]; omega)) only [tysW, w_bindJ, w_logJ, w_ct, w_cf, w_gtt, w_gft, w_gtf, w_gff, w_pt, w_pf, w_lret, w_e0, w_e1, w_e2, w_nil, w_fun, w_nt, w_nf, w_add, w_sub, w_eqt, w_eqf, w_net, w_nef, w_ltt, w_ltf, w_let, w_lef, w_gtt', w_gtf', w_get, w_gef, toNat_of, of_add, cast_add, nth_0, nth_s, Nat.zero_add, Nat.reduceAdd, Nat.reduceMul, Nat.add_zero, List.length_cons, List.length_nil, List.drop_zero, List.drop_succ_cons, List.take_succ_cons, List.take_zero, List.take_nil, true_and, and_true, Int.toNat_natCast, List.append_nil, List.nil_append, List.cons_append, xaT rl6 (j := (i : Int)) (by omega) (by omega), turnA rl6 hx]
            have rx : Rel h6 x.e ⟨x.e.k, x.e.inp, dt⟩ := Rel.from (h := h) ⟨rfl, rfl, hn, sl⟩ hf g6
            refine s40 (d := d + 1) hN g6 hp hrb hq (by omega) b6 (by omega) x ⟨x.e.k, x.e.inp, dt⟩ rx (fun hc => sl.lt hf hc) (by show dt.length ≤ 20; omega) fun h7 s7 L7 g7 b7 => ?_
            have hle7 := b7.le
            obtain ⟨first, bs, r7, _⟩ := b7.ring
            try simp (disch := first | assumption | omega | (simp only [Int.ofNat_eq_natCast, neg_one]; done) | (simp only [Int.ofNat_eq_natCast, neg_one]; omega)) only [tysW, w_bindJ, w_logJ, w_ct, w_cf, w_gtt, w_gft, w_gtf, w_gff, w_pt, w_pf, w_lret, w_e0, w_e1, w_e2, w_nil, w_fun, w_nt, w_nf, w_add, w_sub, w_eqt, w_eqf, w_net, w_nef, w_ltt, w_ltf, w_let, w_lef, w_gtt', w_gtf', w_get, w_gef, toNat_of, of_add, cast_add, nth_0, nth_s, Nat.zero_add, Nat.reduceAdd, Nat.reduceMul, Nat.add_zero, List.length_cons, List.length_nil, List.drop_zero, List.drop_succ_cons, List.take_succ_cons, List.take_zero, List.take_nil, true_and, and_true, Int.toNat_natCast, List.append_nil, List.nil_append, List.cons_append]
            refine PureS.go g7 hp (s41 (d := d + 10) hN g7.fresh r7 (by omega)) fun v h8 s8 g8 c8 hv => ?_
            obtain ⟨p8, rfl, o8⟩ := hv
            have b8 := b7.from g7.fresh c8
            obtain ⟨p, cap, lr, w8, _⟩ := b8.ref
            try simp (disch := first | assumption | omega | (simp only [Int.ofNat_eq_natCast, neg_one]; done) | (simp only [Int.ofNat_eq_natCast, neg_one]; omega)) only [tysW, w_bindJ, w_logJ, w_ct, w_cf, w_gtt, w_gft, w_gtf, w_gff, w_pt, w_pf, w_lret, w_e0, w_e1, w_e2, w_nil, w_fun, w_nt, w_nf, w_add, w_sub, w_eqt, w_eqf, w_net, w_nef, w_ltt, w_ltf, w_let, w_lef, w_gtt', w_gtf', w_get, w_gef, toNat_of, of_add, cast_add, nth_0, nth_s, Nat.zero_add, Nat.reduceAdd, Nat.reduceMul, Nat.add_zero, List.length_cons, List.length_nil, List.drop_zero, List.drop_succ_cons, List.take_succ_cons, List.take_zero, List.take_nil, true_and, and_true, Int.toNat_natCast, List.append_nil, List.nil_append, List.cons_append]
            refine PureS.goL g8 hp (s42 (d := d + 10) hN g8.fresh w8 (by omega)) fun v h9 s9 ts9 ws9 g9 c9 hv hw9 ht9 => ?_
            obtain ⟨p9, rfl, o9⟩ := hv
            have o89 := o8.from g8.fresh c9
            try simp (disch := first | assumption | omega | (simp only [Int.ofNat_eq_natCast, neg_one]; done) | (simp only [Int.ofNat_eq_natCast, neg_one]; omega)) only [tysW, w_bindJ, w_logJ, w_ct, w_cf, w_gtt, w_gft, w_gtf, w_gff, w_pt, w_pf, w_lret, w_e0, w_e1, w_e2, w_nil, w_fun, w_nt, w_nf, w_add, w_sub, w_eqt, w_eqf, w_net, w_nef, w_ltt, w_ltf, w_let, w_lef, w_gtt', w_gtf', w_get, w_gef, toNat_of, of_add, cast_add, nth_0, nth_s, Nat.zero_add, Nat.reduceAdd, Nat.reduceMul, Nat.add_zero, List.length_cons, List.length_nil, List.drop_zero, List.drop_succ_cons, List.take_succ_cons, List.take_zero, List.take_nil, true_and, and_true, Int.toNat_natCast, List.append_nil, List.nil_append, List.cons_append]
            refine ValS.goL g9 hp (s23 (d := d + 11) hN g9.fresh o89.sl.row o9.sl.row (by omega)) fun h10 s10 ts10 ws10 g10 c10 hw10 ht10 => ?_
            have b10 := b8.from g8.fresh (c9.trans c10)
            obtain ⟨first, bs, r10, _⟩ := b10.ring
            try simp (disch := first | assumption | omega | (simp only [Int.ofNat_eq_natCast, neg_one]; done) | (simp only [Int.ofNat_eq_natCast, neg_one]; omega)) only [tysW, w_bindJ, w_logJ, w_ct, w_cf, w_gtt, w_gft, w_gtf, w_gff, w_pt, w_pf, w_lret, w_e0, w_e1, w_e2, w_nil, w_fun, w_nt, w_nf, w_add, w_sub, w_eqt, w_eqf, w_net, w_nef, w_ltt, w_ltf, w_let, w_lef, w_gtt', w_gtf', w_get, w_gef, toNat_of, of_add, cast_add, nth_0, nth_s, Nat.zero_add, Nat.reduceAdd, Nat.reduceMul, Nat.add_zero, List.length_cons, List.length_nil, List.drop_zero, List.drop_succ_cons, List.take_succ_cons, List.take_zero, List.take_nil, true_and, and_true, Int.toNat_natCast, List.append_nil, List.nil_append, List.cons_append]
            unfold X9_3 X9_2 X9_1
            try simp (disch := first | assumption | omega | (simp only [Int.ofNat_eq_natCast, neg_one]; done) | (simp only [Int.ofNat_eq_natCast, neg_one]; omega)) only [tysW, w_bindJ, w_logJ, w_ct, w_cf, w_gtt, w_gft, w_gtf, w_gff, w_pt, w_pf, w_lret, w_e0, w_e1, w_e2, w_nil, w_fun, w_nt, w_nf, w_add, w_sub, w_eqt, w_eqf, w_net, w_nef, w_ltt, w_ltf, w_let, w_lef, w_gtt', w_gtf', w_get, w_gef, toNat_of, of_add, cast_add, nth_0, nth_s, Nat.zero_add, Nat.reduceAdd, Nat.reduceMul, Nat.add_zero, List.length_cons, List.length_nil, List.drop_zero, List.drop_succ_cons, List.take_succ_cons, List.take_zero, List.take_nil, true_and, and_true, Int.toNat_natCast, List.append_nil, List.nil_append, List.cons_append]
            refine ValS.goL g10 hp (s31 (d := d + 10) g10.fresh r10) fun h11 s11 ts11 ws11 g11 c11 hw11 ht11 => ?_
            have b11 := b10.from g10.fresh c11
            obtain ⟨p, cap, lr, w11, _⟩ := b11.ref
            have wx := w11.box
            have hwx : wb < s10 := by
              obtain ⟨p, cap, lr, w10, _⟩ := b10.ref
              exact lt_of_some g10.fresh ⟨_, w10.box⟩
            try simp (disch := first | assumption | omega | (simp only [Int.ofNat_eq_natCast, neg_one]; done) | (simp only [Int.ofNat_eq_natCast, neg_one]; omega)) only [tysW, w_bindJ, w_logJ, w_ct, w_cf, w_gtt, w_gft, w_gtf, w_gff, w_pt, w_pf, w_lret, w_e0, w_e1, w_e2, w_nil, w_fun, w_nt, w_nf, w_add, w_sub, w_eqt, w_eqf, w_net, w_nef, w_ltt, w_ltf, w_let, w_lef, w_gtt', w_gtf', w_get, w_gef, toNat_of, of_add, cast_add, nth_0, nth_s, Nat.zero_add, Nat.reduceAdd, Nat.reduceMul, Nat.add_zero, List.length_cons, List.length_nil, List.drop_zero, List.drop_succ_cons, List.take_succ_cons, List.take_zero, List.take_nil, true_and, and_true, Int.toNat_natCast, List.append_nil, List.nil_append, List.cons_append, ldB wx, clB wx, ldBL wx, clBL wx]
            rw [wp_guard, if_pos (by repeat' (first | exact dynOk_nil _ _ | refine dyn_skip' ?_ | refine dyn_cons ?_ ?_ | exact allF_nil _ _ | refine allF_cons ?_ ?_ | exact disj_below hw11 (by omega) | exact disjA hw11 (by omega) | exact disjB hw11 (by omega) | exact disjC hw11 (by assumption) | exact disjD (fun m hm => by have := hw11 m hm; omega) | exact disj_below ht11 (by omega) | exact disjA ht11 (by omega) | exact disjB ht11 (by omega) | exact disjC ht11 (by assumption) | exact disjD (fun m hm => by have := ht11 m hm; omega) | exact disjN _ | exact disj1 (by omega) | exact disj2 (by omega) | exact disj3 (by assumption) | exact disjC hw11 (fun m hm => by have := ht11 m hm; omega) | exact disjC ht11 (fun m hm => by have := hw11 m hm; omega)))]
            try simp (disch := first | assumption | omega | (simp only [Int.ofNat_eq_natCast, neg_one]; done) | (simp only [Int.ofNat_eq_natCast, neg_one]; omega)) only [tysW, w_bindJ, w_logJ, w_ct, w_cf, w_gtt, w_gft, w_gtf, w_gff, w_pt, w_pf, w_lret, w_e0, w_e1, w_e2, w_nil, w_fun, w_nt, w_nf, w_add, w_sub, w_eqt, w_eqf, w_net, w_nef, w_ltt, w_ltf, w_let, w_lef, w_gtt', w_gtf', w_get, w_gef, toNat_of, of_add, cast_add, nth_0, nth_s, Nat.zero_add, Nat.reduceAdd, Nat.reduceMul, Nat.add_zero, List.length_cons, List.length_nil, List.drop_zero, List.drop_succ_cons, List.take_succ_cons, List.take_zero, List.take_nil, true_and, and_true, Int.toNat_natCast, List.append_nil, List.nil_append, List.cons_append]
            have o11 := o8.from g8.fresh (c9.trans (c10.trans c11))
            refine s43 (d := d + 11) (c8.trans (c9.trans (c10.trans c11))) (fun n hn => hp n (by have := g7.le; omega)) hN o11 (by omega) fun h12 g12 e12 => ?_
            try simp (disch := first | assumption | omega | (simp only [Int.ofNat_eq_natCast, neg_one]; done) | (simp only [Int.ofNat_eq_natCast, neg_one]; omega)) only [tysW, w_bindJ, w_logJ, w_ct, w_cf, w_gtt, w_gft, w_gtf, w_gff, w_pt, w_pf, w_lret, w_e0, w_e1, w_e2, w_nil, w_fun, w_nt, w_nf, w_add, w_sub, w_eqt, w_eqf, w_net, w_nef, w_ltt, w_ltf, w_let, w_lef, w_gtt', w_gtf', w_get, w_gef, toNat_of, of_add, cast_add, nth_0, nth_s, Nat.zero_add, Nat.reduceAdd, Nat.reduceMul, Nat.add_zero, List.length_cons, List.length_nil, List.drop_zero, List.drop_succ_cons, List.take_succ_cons, List.take_zero, List.take_nil, true_and, and_true, Int.toNat_natCast, List.append_nil, List.nil_append, List.cons_append]
            exact ih (i + 1) u h12 s11 L7 (by omega) (by omega) (by omega) (g7.trans g12) (b7.from g7.fresh g12)
          · obtain rfl : i = ln := by omega
            try simp (disch := first | assumption | omega | (simp only [Int.ofNat_eq_natCast, neg_one]; done) | (simp only [Int.ofNat_eq_natCast, neg_one]; omega)) only [tysW, w_bindJ, w_logJ, w_ct, w_cf, w_gtt, w_gft, w_gtf, w_gff, w_pt, w_pf, w_lret, w_e0, w_e1, w_e2, w_nil, w_fun, w_nt, w_nf, w_add, w_sub, w_eqt, w_eqf, w_net, w_nef, w_ltt, w_ltf, w_let, w_lef, w_gtt', w_gtf', w_get, w_gef, toNat_of, of_add, cast_add, nth_0, nth_s, Nat.zero_add, Nat.reduceAdd, Nat.reduceMul, Nat.add_zero, List.length_cons, List.length_nil, List.drop_zero, List.drop_succ_cons, List.take_succ_cons, List.take_zero, List.take_nil, true_and, and_true, Int.toNat_natCast, List.append_nil, List.nil_append, List.cons_append]
            unfold X9_4
            try simp (disch := first | assumption | omega | (simp only [Int.ofNat_eq_natCast, neg_one]; done) | (simp only [Int.ofNat_eq_natCast, neg_one]; omega)) only [tysW, w_bindJ, w_logJ, w_ct, w_cf, w_gtt, w_gft, w_gtf, w_gff, w_pt, w_pf, w_lret, w_e0, w_e1, w_e2, w_nil, w_fun, w_nt, w_nf, w_add, w_sub, w_eqt, w_eqf, w_net, w_nef, w_ltt, w_ltf, w_let, w_lef, w_gtt', w_gtf', w_get, w_gef, toNat_of, of_add, cast_add, nth_0, nth_s, Nat.zero_add, Nat.reduceAdd, Nat.reduceMul, Nat.add_zero, List.length_cons, List.length_nil, List.drop_zero, List.drop_succ_cons, List.take_succ_cons, List.take_zero, List.take_nil, true_and, and_true, Int.toNat_natCast, List.append_nil, List.nil_append, List.cons_append]
            exact hJ h6 s6 g6
    refine loop _ (fun h5 s5 g5 => ?_) _ (fun _ _ _ _ => rfl) N 0 _ h2 s2 [] (by omega) (by omega) (by omega) g2 B2
    rw [D_26]
    exact done_ _ _ g5
  · refine ValS.go g hp (s27n (d := d + 11) g.fresh keep hkp) fun h1 s1 g1 c1 => ?_
    try simp (disch := first | assumption | omega | (simp only [Int.ofNat_eq_natCast, neg_one]; done) | (simp only [Int.ofNat_eq_natCast, neg_one]; omega)) only [tysW, w_bindJ, w_logJ, w_ct, w_cf, w_gtt, w_gft, w_gtf, w_gff, w_pt, w_pf, w_lret, w_e0, w_e1, w_e2, w_nil, w_fun, w_nt, w_nf, w_add, w_sub, w_eqt, w_eqf, w_net, w_nef, w_ltt, w_ltf, w_let, w_lef, w_gtt', w_gtf', w_get, w_gef, toNat_of, of_add, cast_add, nth_0, nth_s, Nat.zero_add, Nat.reduceAdd, Nat.reduceMul, Nat.add_zero, List.length_cons, List.length_nil, List.drop_zero, List.drop_succ_cons, List.take_succ_cons, List.take_zero, List.take_nil, true_and, and_true, Int.toNat_natCast, List.append_nil, List.nil_append, List.cons_append]
    refine ValS.go g1 hp (s38n (d := d + 11) g1.fresh keep hkp) fun h2 s2 g2 c2 => ?_
    obtain ⟨m, rfl⟩ : ∃ m, N = m + 1 := ⟨N - 1, by omega⟩
    try simp (disch := first | assumption | omega | (simp only [Int.ofNat_eq_natCast, neg_one]; done) | (simp only [Int.ofNat_eq_natCast, neg_one]; omega)) only [tysW, w_bindJ, w_logJ, w_ct, w_cf, w_gtt, w_gft, w_gtf, w_gff, w_pt, w_pf, w_lret, w_e0, w_e1, w_e2, w_nil, w_fun, w_nt, w_nf, w_add, w_sub, w_eqt, w_eqf, w_net, w_nef, w_ltt, w_ltf, w_let, w_lef, w_gtt', w_gtf', w_get, w_gef, toNat_of, of_add, cast_add, nth_0, nth_s, Nat.zero_add, Nat.reduceAdd, Nat.reduceMul, Nat.add_zero, List.length_cons, List.length_nil, List.drop_zero, List.drop_succ_cons, List.take_succ_cons, List.take_zero, List.take_nil, true_and, and_true, Int.toNat_natCast, List.append_nil, List.nil_append, List.cons_append, neb_4]
    rw [loopJ_succ]
    unfold X9_5
    try simp (disch := first | assumption | omega | (simp only [Int.ofNat_eq_natCast, neg_one]; done) | (simp only [Int.ofNat_eq_natCast, neg_one]; omega)) only [tysW, w_bindJ, w_logJ, w_ct, w_cf, w_gtt, w_gft, w_gtf, w_gff, w_pt, w_pf, w_lret, w_e0, w_e1, w_e2, w_nil, w_fun, w_nt, w_nf, w_add, w_sub, w_eqt, w_eqf, w_net, w_nef, w_ltt, w_ltf, w_let, w_lef, w_gtt', w_gtf', w_get, w_gef, toNat_of, of_add, cast_add, nth_0, nth_s, Nat.zero_add, Nat.reduceAdd, Nat.reduceMul, Nat.add_zero, List.length_cons, List.length_nil, List.drop_zero, List.drop_succ_cons, List.take_succ_cons, List.take_zero, List.take_nil, true_and, and_true, Int.toNat_natCast, List.append_nil, List.nil_append, List.cons_append]
    unfold X9_4
    try simp (disch := first | assumption | omega | (simp only [Int.ofNat_eq_natCast, neg_one]; done) | (simp only [Int.ofNat_eq_natCast, neg_one]; omega)) only [tysW, w_bindJ, w_logJ, w_ct, w_cf, w_gtt, w_gft, w_gtf, w_gff, w_pt, w_pf, w_lret, w_e0, w_e1, w_e2, w_nil, w_fun, w_nt, w_nf, w_add, w_sub, w_eqt, w_eqf, w_net, w_nef, w_ltt, w_ltf, w_let, w_lef, w_gtt', w_gtf', w_get, w_gef, toNat_of, of_add, cast_add, nth_0, nth_s, Nat.zero_add, Nat.reduceAdd, Nat.reduceMul, Nat.add_zero, List.length_cons, List.length_nil, List.drop_zero, List.drop_succ_cons, List.take_succ_cons, List.take_zero, List.take_nil, true_and, and_true, Int.toNat_natCast, List.append_nil, List.nil_append, List.cons_append]
    rw [D_26]
    exact done_ _ _ g2
end
end Go.Ev.R

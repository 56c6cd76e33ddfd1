/- The law RingUntil, part 3: what the functions answer, by their terms. No condition. -/
import Derived.Test.YtgadiajhhjfmbaaRingUntilP2
set_option linter.unusedVariables false
set_option linter.unusedSimpArgs false
set_option maxRecDepth 100000
namespace Go.Ev.R
open Go Go.RowKit
theorem less_le {x y : K3} (h : lessK x y = true) : x.a ≤ y.a := by
  unfold lessK at h
  split at h
  · omega
  · simp at h; omega
theorem ins_rising {keep : Nat} {e : EN} {L : List EN} (h : risingK (ksE L) = true) : risingK (ksE (insE keep e L).1) = true := by
  unfold insE
  split
  · exact h
  · rename_i hat
    split
    · exact h
    · have h1 : ksE (L.take (plK e.k (ksE L)) ++ e :: L.drop (plK e.k (ksE L))) = insK e.k (ksE L) := by unfold ksE insK; simp [List.map_take, List.map_drop]
      dsimp only
      rw [h1]
      exact ins_rise h (by simpa using hat)
theorem ins_len {keep : Nat} {e : EN} {L : List EN} : (insE keep e L).1.length ≤ L.length + 1 := by
  unfold insE
  split
  · exact Nat.le_succ _
  · split
    · exact Nat.le_succ _
    · have := pl_le e.k (ksE L)
      rw [ks_len] at this
      simp; omega
theorem mk_70 (n : Nat) (hn : n ≤ 1000000) (k : Value → Nat → AM) (s : Nat) : amakeSlice P 70 (.int .i64 (n : Int)) (.int .i64 (n : Int)) k s = anew (.cells ⟨replL [.pointer none] n⟩ 91 (0, 0)) (fun b => k (.slice (some ⟨b, 0, none⟩) n n)) s := by
  have hz : zeroT P 91 = some (.pointer none) := by kernel_rfl
  have hi : (P.info? 91).map (fun i => (i.size, Nat.ble i.bytes 100000)) = some (1, true) := by kernel_rfl
  unfold amakeSlice
  rw [show P.underlying 70 = some (.slice 91) by kernel_rfl]
  dsimp only
  rw [hz]
  cases hinf : P.info? 91 with
  | none => rw [hinf] at hi; cases hi
  | some inf =>
    rw [hinf] at hi
    obtain ⟨h1, h2⟩ := Prod.mk.inj (Option.some.inj hi)
    dsimp only
    rw [h1, h2, decide_eq_true (show (0 : Int) ≤ (n : Int) by omega), decide_eq_true (show (n : Int) ≤ (n : Int) by omega), decide_eq_true (show (n : Int) ≤ 1000000 by omega)]
    rfl
theorem rep_len (n : Nat) : (replL [.pointer none] n).length = n := by
  induction n with
  | zero => rfl
  | succ n ih => show ([Value.pointer none] ++ replL [.pointer none] n).length = _; rw [List.length_append, ih]; simp; omega
/-- Where the first entry of a sensor's number stands. -/
def IsTw (L : List EN) (b c r : Int) : Prop := (r = -1 ∧ ∀ (j : Nat) (e : EN), L[j]? = some e → ¬ (e.k.b = b ∧ e.k.c = c)) ∨ ∃ i : Nat, r = i ∧ (∃ e : EN, L[i]? = some e ∧ e.k.b = b ∧ e.k.c = c) ∧ ∀ (j : Nat) (e : EN), j < i → L[j]? = some e → ¬ (e.k.b = b ∧ e.k.c = c)
section
variable {N d : Nat} (hN : 100000 ≤ N) {h : T} {s : Nat} (hf : ∀ n, s ≤ n → h.get n = none)
include hf
theorem s27 (n : Nat) (h1 : 1 ≤ n) (h2 : n ≤ 200) : PureS (D N (d + 1)) 27 [vi n] h s (fun v h' s' => ∃ rb q, v = .tuple ⟨[ptr rb, vi 0]⟩ ∧ s ≤ rb ∧ s ≤ q ∧ RingAt h' rb q n 0 [] []) := by
  refine PureS.of hf fun K pw Z g hp hk => ?_
  rw [D_27]; unfold F27; rw [app1_eq]
  try simp (disch := first | assumption | omega | (simp only [Int.ofNat_eq_natCast, neg_one]; done) | (simp only [Int.ofNat_eq_natCast, neg_one]; omega)) only [tysW, w_bindJ, w_logJ, w_ct, w_cf, w_gtt, w_gft, w_gtf, w_gff, w_pt, w_pf, w_lret, w_e0, w_e1, w_e2, w_nil, w_fun, w_nt, w_nf, w_add, w_sub, w_eqt, w_eqf, w_net, w_nef, w_ltt, w_ltf, w_let, w_lef, w_gtt', w_gtf', w_get, w_gef, toNat_of, of_add, cast_add, nth_0, nth_s, Nat.zero_add, Nat.reduceAdd, Nat.reduceMul, Nat.add_zero, List.length_cons, List.length_nil, List.drop_zero, List.drop_succ_cons, List.take_succ_cons, List.take_zero, List.take_nil, true_and, and_true, Int.toNat_natCast, List.append_nil, List.nil_append, List.cons_append]
  rw [mk_70 n (by omega)]
  refine wp_newF g hp fun h3 g3 c3 b3 => ?_
  try simp (disch := first | assumption | omega | (simp only [Int.ofNat_eq_natCast, neg_one]; done) | (simp only [Int.ofNat_eq_natCast, neg_one]; omega)) only [tysW, w_bindJ, w_logJ, w_ct, w_cf, w_gtt, w_gft, w_gtf, w_gff, w_pt, w_pf, w_lret, w_e0, w_e1, w_e2, w_nil, w_fun, w_nt, w_nf, w_add, w_sub, w_eqt, w_eqf, w_net, w_nef, w_ltt, w_ltf, w_let, w_lef, w_gtt', w_gtf', w_get, w_gef, toNat_of, of_add, cast_add, nth_0, nth_s, Nat.zero_add, Nat.reduceAdd, Nat.reduceMul, Nat.add_zero, List.length_cons, List.length_nil, List.drop_zero, List.drop_succ_cons, List.take_succ_cons, List.take_zero, List.take_nil, true_and, and_true, Int.toNat_natCast, List.append_nil, List.nil_append, List.cons_append]
  refine wp_boxA g3 hp fun h4 g4 c4 b4 => ?_
  replace b3 := c4.box b3 (by omega)
  try simp (disch := first | assumption | omega | (simp only [Int.ofNat_eq_natCast, neg_one]; done) | (simp only [Int.ofNat_eq_natCast, neg_one]; omega)) only [tysW, w_bindJ, w_logJ, w_ct, w_cf, w_gtt, w_gft, w_gtf, w_gff, w_pt, w_pf, w_lret, w_e0, w_e1, w_e2, w_nil, w_fun, w_nt, w_nf, w_add, w_sub, w_eqt, w_eqf, w_net, w_nef, w_ltt, w_ltf, w_let, w_lef, w_gtt', w_gtf', w_get, w_gef, toNat_of, of_add, cast_add, nth_0, nth_s, Nat.zero_add, Nat.reduceAdd, Nat.reduceMul, Nat.add_zero, List.length_cons, List.length_nil, List.drop_zero, List.drop_succ_cons, List.take_succ_cons, List.take_zero, List.take_nil, true_and, and_true, Int.toNat_natCast, List.append_nil, List.nil_append, List.cons_append]
  exact hk _ _ _ g4 ⟨s + 1, s, rfl, by omega, Nat.le_refl _, b4, ⟨_, b3, rep_len n, fun i b hb => by simp at hb⟩, by omega, by omega, by omega, Nat.zero_le _, rfl, fun i b hb => by simp at hb⟩
theorem s31 {rb q keep first : Nat} {bs : List Nat} {L : List EN} (r : RingAt h rb q keep first bs L) : ValS (D N (d + 2)) 31 [ptr rb] h s (vi L.length) := by
  refine ValS.of hf fun K pw Z g hp hk => ?_
  rw [D_31]; unfold F31; rw [app1_eq]
  refine ValS.go g hp (s57 (d := d) g.fresh r) fun h2 s2 g2 c2 => ?_
  have r2 := (r.from hf g2).box
  rw [r.len] at r2
  try simp (disch := first | assumption | omega | (simp only [Int.ofNat_eq_natCast, neg_one]; done) | (simp only [Int.ofNat_eq_natCast, neg_one]; omega)) only [tysW, w_bindJ, w_logJ, w_ct, w_cf, w_gtt, w_gft, w_gtf, w_gff, w_pt, w_pf, w_lret, w_e0, w_e1, w_e2, w_nil, w_fun, w_nt, w_nf, w_add, w_sub, w_eqt, w_eqf, w_net, w_nef, w_ltt, w_ltf, w_let, w_lef, w_gtt', w_gtf', w_get, w_gef, toNat_of, of_add, cast_add, nth_0, nth_s, Nat.zero_add, Nat.reduceAdd, Nat.reduceMul, Nat.add_zero, List.length_cons, List.length_nil, List.drop_zero, List.drop_succ_cons, List.take_succ_cons, List.take_zero, List.take_nil, true_and, and_true, Int.toNat_natCast, List.append_nil, List.nil_append, List.cons_append, ldB r2, clB r2, ldBL r2, clBL r2]
  exact hk _ _ g2
include hN
theorem s29 {rb q keep first : Nat} {bs : List Nat} {L : List EN} (r : RingAt h rb q keep first bs L) (hk2 : keep ≤ 1000) (t : Int) : PureS (D N (d + 10)) 29 [ptr rb, vi t] h s (fun v _ _ => ∃ i : Nat, v = vi i ∧ i ≤ L.length ∧ (∀ (j : Nat) (e : EN), j + 1 = i → L[j]? = some e → e.k.a ≤ t) ∧ (∀ e : EN, L[i]? = some e → ¬ e.k.a ≤ t)) := by
  refine PureS.of hf fun K pw Z g hp hk => ?_
  rw [D_29]; unfold F29; rw [app2_eq]
  refine wp_box1 (v := vi t) rfl g hp fun h1 g1 c1 b1 => ?_
  try simp (disch := first | assumption | omega | (simp only [Int.ofNat_eq_natCast, neg_one]; done) | (simp only [Int.ofNat_eq_natCast, neg_one]; omega)) only [tysW, w_bindJ, w_logJ, w_ct, w_cf, w_gtt, w_gft, w_gtf, w_gff, w_pt, w_pf, w_lret, w_e0, w_e1, w_e2, w_nil, w_fun, w_nt, w_nf, w_add, w_sub, w_eqt, w_eqf, w_net, w_nef, w_ltt, w_ltf, w_let, w_lef, w_gtt', w_gtf', w_get, w_gef, toNat_of, of_add, cast_add, nth_0, nth_s, Nat.zero_add, Nat.reduceAdd, Nat.reduceMul, Nat.add_zero, List.length_cons, List.length_nil, List.drop_zero, List.drop_succ_cons, List.take_succ_cons, List.take_zero, List.take_nil, true_and, and_true, Int.toNat_natCast, List.append_nil, List.nil_append, List.cons_append]
  refine ValS.go g1 hp (s57 (d := d + 8) g1.fresh (r.from hf g1)) fun h2 s2 g2 c2 => ?_
  have l2 := c2.le
  replace b1 := c2.box b1 (by omega)
  try simp (disch := first | assumption | omega | (simp only [Int.ofNat_eq_natCast, neg_one]; done) | (simp only [Int.ofNat_eq_natCast, neg_one]; omega)) only [tysW, w_bindJ, w_logJ, w_ct, w_cf, w_gtt, w_gft, w_gtf, w_gff, w_pt, w_pf, w_lret, w_e0, w_e1, w_e2, w_nil, w_fun, w_nt, w_nf, w_add, w_sub, w_eqt, w_eqf, w_net, w_nef, w_ltt, w_ltf, w_let, w_lef, w_gtt', w_gtf', w_get, w_gef, toNat_of, of_add, cast_add, nth_0, nth_s, Nat.zero_add, Nat.reduceAdd, Nat.reduceMul, Nat.add_zero, List.length_cons, List.length_nil, List.drop_zero, List.drop_succ_cons, List.take_succ_cons, List.take_zero, List.take_nil, true_and, and_true, Int.toNat_natCast, List.append_nil, List.nil_append, List.cons_append]
  refine PureS.go g2 hp (s58 (d := d + 5) hN g2.fresh (r.from hf g2) hk2 (fn := 62) (caps := [ptr s]) (a := fun x => decide (x.k.a ≤ t)) (fun C xs ys args k s => iv_62 C xs ys args k s) (fun e' p' c' h' s' g' => s62 (d := d + 5) g'.fresh e' p' c' (g'.box b1 (by omega)))) fun v h6 s6 g6 c6 hv => ?_
  obtain ⟨i, rfl, hi, hi1, hi2⟩ := hv
  exact hk _ _ _ g6 ⟨i, rfl, hi, fun j e hj he => by simpa using hi1 j e hj he, fun e he => by simpa using hi2 e he⟩
theorem s30 {rb q keep first : Nat} {bs : List Nat} {L : List EN} (r : RingAt h rb q keep first bs L) (hk2 : keep ≤ 1000) (b c : Int) : PureS (D N (d + 3)) 30 [ptr rb, vi b, vi c] h s (fun v _ _ => ∃ x : Int, v = vi x ∧ IsTw L b c x) := by
  refine PureS.of hf fun K pw Z g hp hk => ?_
  rw [D_30]; unfold F30; rw [app3_eq]
  refine ValS.go g hp (s57 (d := d + 1) g.fresh r) fun h2 s2 g2 c2 => ?_
  have r2 := (r.from hf g2).box
  have hlen := r.len
  have hle := r.le
  try simp (disch := first | assumption | omega | (simp only [Int.ofNat_eq_natCast, neg_one]; done) | (simp only [Int.ofNat_eq_natCast, neg_one]; omega)) only [tysW, w_bindJ, w_logJ, w_ct, w_cf, w_gtt, w_gft, w_gtf, w_gff, w_pt, w_pf, w_lret, w_e0, w_e1, w_e2, w_nil, w_fun, w_nt, w_nf, w_add, w_sub, w_eqt, w_eqf, w_net, w_nef, w_ltt, w_ltf, w_let, w_lef, w_gtt', w_gtf', w_get, w_gef, toNat_of, of_add, cast_add, nth_0, nth_s, Nat.zero_add, Nat.reduceAdd, Nat.reduceMul, Nat.add_zero, List.length_cons, List.length_nil, List.drop_zero, List.drop_succ_cons, List.take_succ_cons, List.take_zero, List.take_nil, true_and, and_true, Int.toNat_natCast, List.append_nil, List.nil_append, List.cons_append, ldB r2, clB r2, ldBL r2, clBL r2]
  have loop : ∀ (B : (Value → Value → Nat → AM) → Value → Value → Nat → AM) (hB : ∀ H u i s', B H u i s' = X30_1 N (D N (d + 2)) K (vi bs.length) (ptr rb) (vi b) (vi c) (fun s => K (.int .i64 (.negSucc 0)) s) H u i s') (m i : Nat) (u : Value) (h1 : T) (s1 : Nat), bs.length - i < m → i ≤ bs.length → (∀ (j : Nat) (e : EN), j < i → L[j]? = some e → ¬ (e.k.b = b ∧ e.k.c = c)) → From s h h1 s1 →
      (loopJ m 2 (fun _ _ _ => AM.fail) B u (vi i) s1).wp pw Z h1 := by
    intro B hB m
    induction m with
    | zero => intro i u h1 s1 hm; omega
    | succ m ih =>
      intro i u h1 s1 hm hil hno g1
      have r1 := r.from hf g1
      rw [loopJ_succ, hB]
      unfold X30_1
      by_cases hlt : i < bs.length
      · obtain ⟨e, he⟩ := get_some (l := L) (i := i) (by omega)
        obtain ⟨bb, hbb, pp, cc, e1, e2, e3⟩ := r1.ent' he
        obtain ⟨cs, q1, q2, q3⟩ := r1.row
        try simp (disch := first | assumption | omega | (simp only [Int.ofNat_eq_natCast, neg_one]; done) | (simp only [Int.ofNat_eq_natCast, neg_one]; omega)) only [tysW, w_bindJ, w_logJ, w_ct, w_cf, w_gtt, w_gft, w_gtf, w_gff, w_pt, w_pf, w_lret, w_e0, w_e1, w_e2, w_nil, w_fun, w_nt, w_nf, w_add, w_sub, w_eqt, w_eqf, w_net, w_nef, w_ltt, w_ltf, w_let, w_lef, w_gtt', w_gtf', w_get, w_gef, toNat_of, of_add, cast_add, nth_0, nth_s, Nat.zero_add, Nat.reduceAdd, Nat.reduceMul, Nat.add_zero, List.length_cons, List.length_nil, List.drop_zero, List.drop_succ_cons, List.take_succ_cons, List.take_zero, List.take_nil, true_and, and_true, Int.toNat_natCast, List.append_nil, List.nil_append, List.cons_append]
        refine ValS.go g1 hp (s60 (d := d + 1) g1.fresh r1 hk2 (i := i) (by omega)) fun h3 s3 g3 c3 => ?_
        have q1' := c3.box q1 (lt_of_some g1.fresh ⟨_, q1⟩)
        have e1' := c3.box e1 (lt_of_some g1.fresh ⟨_, e1⟩)
        simp only [ev] at e1'
        try simp (disch := first | assumption | omega | (simp only [Int.ofNat_eq_natCast, neg_one]; done) | (simp only [Int.ofNat_eq_natCast, neg_one]; omega)) only [tysW, w_bindJ, w_logJ, w_ct, w_cf, w_gtt, w_gft, w_gtf, w_gff, w_pt, w_pf, w_lret, w_e0, w_e1, w_e2, w_nil, w_fun, w_nt, w_nf, w_add, w_sub, w_eqt, w_eqf, w_net, w_nef, w_ltt, w_ltf, w_let, w_lef, w_gtt', w_gtf', w_get, w_gef, toNat_of, of_add, cast_add, nth_0, nth_s, Nat.zero_add, Nat.reduceAdd, Nat.reduceMul, Nat.add_zero, List.length_cons, List.length_nil, List.drop_zero, List.drop_succ_cons, List.take_succ_cons, List.take_zero, List.take_nil, true_and, and_true, Int.toNat_natCast, List.append_nil, List.nil_append, List.cons_append]
        rw [ldB q1', nth_eq, q3 i bb hbb]
        dsimp only
        try simp (disch := first | assumption | omega | (simp only [Int.ofNat_eq_natCast, neg_one]; done) | (simp only [Int.ofNat_eq_natCast, neg_one]; omega)) only [tysW, w_bindJ, w_logJ, w_ct, w_cf, w_gtt, w_gft, w_gtf, w_gff, w_pt, w_pf, w_lret, w_e0, w_e1, w_e2, w_nil, w_fun, w_nt, w_nf, w_add, w_sub, w_eqt, w_eqf, w_net, w_nef, w_ltt, w_ltf, w_let, w_lef, w_gtt', w_gtf', w_get, w_gef, toNat_of, of_add, cast_add, nth_0, nth_s, Nat.zero_add, Nat.reduceAdd, Nat.reduceMul, Nat.add_zero, List.length_cons, List.length_nil, List.drop_zero, List.drop_succ_cons, List.take_succ_cons, List.take_zero, List.take_nil, true_and, and_true, Int.toNat_natCast, List.append_nil, List.nil_append, List.cons_append, ldB e1', clB e1', ldBL e1', clBL e1']
        by_cases h4 : e.k.b = b
        · try simp (disch := first | assumption | omega | (simp only [Int.ofNat_eq_natCast, neg_one]; done) | (simp only [Int.ofNat_eq_natCast, neg_one]; omega)) only [tysW, w_bindJ, w_logJ, w_ct, w_cf, w_gtt, w_gft, w_gtf, w_gff, w_pt, w_pf, w_lret, w_e0, w_e1, w_e2, w_nil, w_fun, w_nt, w_nf, w_add, w_sub, w_eqt, w_eqf, w_net, w_nef, w_ltt, w_ltf, w_let, w_lef, w_gtt', w_gtf', w_get, w_gef, toNat_of, of_add, cast_add, nth_0, nth_s, Nat.zero_add, Nat.reduceAdd, Nat.reduceMul, Nat.add_zero, List.length_cons, List.length_nil, List.drop_zero, List.drop_succ_cons, List.take_succ_cons, List.take_zero, List.take_nil, true_and, and_true, Int.toNat_natCast, List.append_nil, List.nil_append, List.cons_append, ldB e1', clB e1', ldBL e1', clBL e1']
          by_cases h5 : e.k.c = c
          · try simp (disch := first | assumption | omega | (simp only [Int.ofNat_eq_natCast, neg_one]; done) | (simp only [Int.ofNat_eq_natCast, neg_one]; omega)) only [tysW, w_bindJ, w_logJ, w_ct, w_cf, w_gtt, w_gft, w_gtf, w_gff, w_pt, w_pf, w_lret, w_e0, w_e1, w_e2, w_nil, w_fun, w_nt, w_nf, w_add, w_sub, w_eqt, w_eqf, w_net, w_nef, w_ltt, w_ltf, w_let, w_lef, w_gtt', w_gtf', w_get, w_gef, toNat_of, of_add, cast_add, nth_0, nth_s, Nat.zero_add, Nat.reduceAdd, Nat.reduceMul, Nat.add_zero, List.length_cons, List.length_nil, List.drop_zero, List.drop_succ_cons, List.take_succ_cons, List.take_zero, List.take_nil, true_and, and_true, Int.toNat_natCast, List.append_nil, List.nil_append, List.cons_append, ldB e1', clB e1', ldBL e1', clBL e1']
            exact hk _ _ _ g3 ⟨i, rfl, .inr ⟨i, rfl, ⟨e, he, h4, h5⟩, hno⟩⟩
          · try simp (disch := first | assumption | omega | (simp only [Int.ofNat_eq_natCast, neg_one]; done) | (simp only [Int.ofNat_eq_natCast, neg_one]; omega)) only [tysW, w_bindJ, w_logJ, w_ct, w_cf, w_gtt, w_gft, w_gtf, w_gff, w_pt, w_pf, w_lret, w_e0, w_e1, w_e2, w_nil, w_fun, w_nt, w_nf, w_add, w_sub, w_eqt, w_eqf, w_net, w_nef, w_ltt, w_ltf, w_let, w_lef, w_gtt', w_gtf', w_get, w_gef, toNat_of, of_add, cast_add, nth_0, nth_s, Nat.zero_add, Nat.reduceAdd, Nat.reduceMul, Nat.add_zero, List.length_cons, List.length_nil, List.drop_zero, List.drop_succ_cons, List.take_succ_cons, List.take_zero, List.take_nil, true_and, and_true, Int.toNat_natCast, List.append_nil, List.nil_append, List.cons_append, ldB e1', clB e1', ldBL e1', clBL e1']
            exact ih (i + 1) u h3 s3 (by omega) (by omega) (fun j e' hj he' => by
              rcases Nat.lt_or_ge j i with h6 | h6
              · exact hno j e' h6 he'
              · rw [show j = i by omega, he] at he'; cases he'; exact fun h => h5 h.2) g3
        · try simp (disch := first | assumption | omega | (simp only [Int.ofNat_eq_natCast, neg_one]; done) | (simp only [Int.ofNat_eq_natCast, neg_one]; omega)) only [tysW, w_bindJ, w_logJ, w_ct, w_cf, w_gtt, w_gft, w_gtf, w_gff, w_pt, w_pf, w_lret, w_e0, w_e1, w_e2, w_nil, w_fun, w_nt, w_nf, w_add, w_sub, w_eqt, w_eqf, w_net, w_nef, w_ltt, w_ltf, w_let, w_lef, w_gtt', w_gtf', w_get, w_gef, toNat_of, of_add, cast_add, nth_0, nth_s, Nat.zero_add, Nat.reduceAdd, Nat.reduceMul, Nat.add_zero, List.length_cons, List.length_nil, List.drop_zero, List.drop_succ_cons, List.take_succ_cons, List.take_zero, List.take_nil, true_and, and_true, Int.toNat_natCast, List.append_nil, List.nil_append, List.cons_append, ldB e1', clB e1', ldBL e1', clBL e1']
          exact ih (i + 1) u h3 s3 (by omega) (by omega) (fun j e' hj he' => by
            rcases Nat.lt_or_ge j i with h6 | h6
            · exact hno j e' h6 he'
            · rw [show j = i by omega, he] at he'; cases he'; exact fun h => h4 h.1) g3
      · obtain rfl : i = bs.length := by omega
        try simp (disch := first | assumption | omega | (simp only [Int.ofNat_eq_natCast, neg_one]; done) | (simp only [Int.ofNat_eq_natCast, neg_one]; omega)) only [tysW, w_bindJ, w_logJ, w_ct, w_cf, w_gtt, w_gft, w_gtf, w_gff, w_pt, w_pf, w_lret, w_e0, w_e1, w_e2, w_nil, w_fun, w_nt, w_nf, w_add, w_sub, w_eqt, w_eqf, w_net, w_nef, w_ltt, w_ltf, w_let, w_lef, w_gtt', w_gtf', w_get, w_gef, toNat_of, of_add, cast_add, nth_0, nth_s, Nat.zero_add, Nat.reduceAdd, Nat.reduceMul, Nat.add_zero, List.length_cons, List.length_nil, List.drop_zero, List.drop_succ_cons, List.take_succ_cons, List.take_zero, List.take_nil, true_and, and_true, Int.toNat_natCast, List.append_nil, List.nil_append, List.cons_append]
        exact hk _ _ _ g1 ⟨-1, rfl, .inl ⟨rfl, fun j e he => hno j e (by have := (List.getElem?_eq_some_iff.1 he).1; omega) he⟩⟩
  exact loop _ (fun _ _ _ _ => rfl) N 0 _ h2 s2 (by omega) (by omega) (fun j e hj => by omega) g2
omit hN in
theorem s32 {rb q keep first : Nat} {bs : List Nat} {L : List EN} (r : RingAt h rb q keep first bs L) (hk2 : keep ≤ 1000) (hd : ∀ e ∈ L, e.data.length ≤ 100000) (i : Int) : PureS (D N (d + 3)) 32 [ptr rb, vi i] h s (fun v h' s' =>
    if 0 ≤ i ∧ i < L.length then ∃ e p', L[i.toNat]? = some e ∧ v = .tuple ⟨[eval e p' e.data.length, vi 0]⟩ ∧ Sl EI h' p' e.data.length e.data.length e.data ∧ (e.data.length ≠ 0 → s ≤ blk p') else v = .tuple ⟨[.agg ⟨[vi 0, vi 0, vi 0, .bool false, .slice none 0 0]⟩, vi 4]⟩) := by
  refine PureS.of hf fun K pw Z g hp hk => ?_
  rw [D_32]; unfold F32; rw [app2_eq]
  try simp (disch := first | assumption | omega | (simp only [Int.ofNat_eq_natCast, neg_one]; done) | (simp only [Int.ofNat_eq_natCast, neg_one]; omega)) only [tysW, w_bindJ, w_logJ, w_ct, w_cf, w_gtt, w_gft, w_gtf, w_gff, w_pt, w_pf, w_lret, w_e0, w_e1, w_e2, w_nil, w_fun, w_nt, w_nf, w_add, w_sub, w_eqt, w_eqf, w_net, w_nef, w_ltt, w_ltf, w_let, w_lef, w_gtt', w_gtf', w_get, w_gef, toNat_of, of_add, cast_add, nth_0, nth_s, Nat.zero_add, Nat.reduceAdd, Nat.reduceMul, Nat.add_zero, List.length_cons, List.length_nil, List.drop_zero, List.drop_succ_cons, List.take_succ_cons, List.take_zero, List.take_nil, true_and, and_true, Int.toNat_natCast, List.append_nil, List.nil_append, List.cons_append]
  refine wp_boxA g hp fun h1 g1 c1 b1 => ?_
  try simp (disch := first | assumption | omega | (simp only [Int.ofNat_eq_natCast, neg_one]; done) | (simp only [Int.ofNat_eq_natCast, neg_one]; omega)) only [tysW, w_bindJ, w_logJ, w_ct, w_cf, w_gtt, w_gft, w_gtf, w_gff, w_pt, w_pf, w_lret, w_e0, w_e1, w_e2, w_nil, w_fun, w_nt, w_nf, w_add, w_sub, w_eqt, w_eqf, w_net, w_nef, w_ltt, w_ltf, w_let, w_lef, w_gtt', w_gtf', w_get, w_gef, toNat_of, of_add, cast_add, nth_0, nth_s, Nat.zero_add, Nat.reduceAdd, Nat.reduceMul, Nat.add_zero, List.length_cons, List.length_nil, List.drop_zero, List.drop_succ_cons, List.take_succ_cons, List.take_zero, List.take_nil, true_and, and_true, Int.toNat_natCast, List.append_nil, List.nil_append, List.cons_append]
  refine ValS.go g1 hp (s57 (d := d + 1) g1.fresh (r.from hf g1)) fun h2 s2 g2 c2 => ?_
  have l2 := c2.le
  have r2 := r.from hf g2
  have rb2 := r2.box
  have hlen := r.len
  have hle := r.le
  replace b1 := c2.box b1 (by omega)
  by_cases h0 : i < 0
  · try simp (disch := first | assumption | omega | (simp only [Int.ofNat_eq_natCast, neg_one]; done) | (simp only [Int.ofNat_eq_natCast, neg_one]; omega)) only [tysW, w_bindJ, w_logJ, w_ct, w_cf, w_gtt, w_gft, w_gtf, w_gff, w_pt, w_pf, w_lret, w_e0, w_e1, w_e2, w_nil, w_fun, w_nt, w_nf, w_add, w_sub, w_eqt, w_eqf, w_net, w_nef, w_ltt, w_ltf, w_let, w_lef, w_gtt', w_gtf', w_get, w_gef, toNat_of, of_add, cast_add, nth_0, nth_s, Nat.zero_add, Nat.reduceAdd, Nat.reduceMul, Nat.add_zero, List.length_cons, List.length_nil, List.drop_zero, List.drop_succ_cons, List.take_succ_cons, List.take_zero, List.take_nil, true_and, and_true, Int.toNat_natCast, List.append_nil, List.nil_append, List.cons_append, ldB b1, clB b1, ldBL b1, clBL b1, X32_1]
    refine wp_putF g2 hp b1 (Nat.le_refl _) (by exact Nat.le_refl 5) rfl fun h3 g3 b3 e3 => ?_
    simp only [overL] at b3
    try simp (disch := first | assumption | omega | (simp only [Int.ofNat_eq_natCast, neg_one]; done) | (simp only [Int.ofNat_eq_natCast, neg_one]; omega)) only [tysW, w_bindJ, w_logJ, w_ct, w_cf, w_gtt, w_gft, w_gtf, w_gff, w_pt, w_pf, w_lret, w_e0, w_e1, w_e2, w_nil, w_fun, w_nt, w_nf, w_add, w_sub, w_eqt, w_eqf, w_net, w_nef, w_ltt, w_ltf, w_let, w_lef, w_gtt', w_gtf', w_get, w_gef, toNat_of, of_add, cast_add, nth_0, nth_s, Nat.zero_add, Nat.reduceAdd, Nat.reduceMul, Nat.add_zero, List.length_cons, List.length_nil, List.drop_zero, List.drop_succ_cons, List.take_succ_cons, List.take_zero, List.take_nil, true_and, and_true, Int.toNat_natCast, List.append_nil, List.nil_append, List.cons_append, ldB b3, clB b3, ldBL b3, clBL b3]
    refine hk _ _ _ g3 ?_
    rw [if_neg (by omega)]; rfl
  by_cases h4 : (bs.length : Int) ≤ i
  · try simp (disch := first | assumption | omega | (simp only [Int.ofNat_eq_natCast, neg_one]; done) | (simp only [Int.ofNat_eq_natCast, neg_one]; omega)) only [tysW, w_bindJ, w_logJ, w_ct, w_cf, w_gtt, w_gft, w_gtf, w_gff, w_pt, w_pf, w_lret, w_e0, w_e1, w_e2, w_nil, w_fun, w_nt, w_nf, w_add, w_sub, w_eqt, w_eqf, w_net, w_nef, w_ltt, w_ltf, w_let, w_lef, w_gtt', w_gtf', w_get, w_gef, toNat_of, of_add, cast_add, nth_0, nth_s, Nat.zero_add, Nat.reduceAdd, Nat.reduceMul, Nat.add_zero, List.length_cons, List.length_nil, List.drop_zero, List.drop_succ_cons, List.take_succ_cons, List.take_zero, List.take_nil, true_and, and_true, Int.toNat_natCast, List.append_nil, List.nil_append, List.cons_append, ldB b1, clB b1, ldBL b1, clBL b1, ldB rb2, clB rb2, ldBL rb2, clBL rb2, X32_1]
    refine wp_putF g2 hp b1 (Nat.le_refl _) (by exact Nat.le_refl 5) rfl fun h3 g3 b3 e3 => ?_
    simp only [overL] at b3
    try simp (disch := first | assumption | omega | (simp only [Int.ofNat_eq_natCast, neg_one]; done) | (simp only [Int.ofNat_eq_natCast, neg_one]; omega)) only [tysW, w_bindJ, w_logJ, w_ct, w_cf, w_gtt, w_gft, w_gtf, w_gff, w_pt, w_pf, w_lret, w_e0, w_e1, w_e2, w_nil, w_fun, w_nt, w_nf, w_add, w_sub, w_eqt, w_eqf, w_net, w_nef, w_ltt, w_ltf, w_let, w_lef, w_gtt', w_gtf', w_get, w_gef, toNat_of, of_add, cast_add, nth_0, nth_s, Nat.zero_add, Nat.reduceAdd, Nat.reduceMul, Nat.add_zero, List.length_cons, List.length_nil, List.drop_zero, List.drop_succ_cons, List.take_succ_cons, List.take_zero, List.take_nil, true_and, and_true, Int.toNat_natCast, List.append_nil, List.nil_append, List.cons_append, ldB b3, clB b3, ldBL b3, clBL b3]
    refine hk _ _ _ g3 ?_
    rw [if_neg (by omega)]; rfl
  · obtain ⟨n, rfl⟩ := Int.eq_ofNat_of_zero_le (show 0 ≤ i by omega)
    obtain ⟨e, he⟩ := get_some (l := L) (i := n) (by omega)
    obtain ⟨bb, hbb, pp, cc, e1, e2, e3⟩ := r2.ent' he
    obtain ⟨cs, q1, q2, q3⟩ := r2.row
    try simp (disch := first | assumption | omega | (simp only [Int.ofNat_eq_natCast, neg_one]; done) | (simp only [Int.ofNat_eq_natCast, neg_one]; omega)) only [tysW, w_bindJ, w_logJ, w_ct, w_cf, w_gtt, w_gft, w_gtf, w_gff, w_pt, w_pf, w_lret, w_e0, w_e1, w_e2, w_nil, w_fun, w_nt, w_nf, w_add, w_sub, w_eqt, w_eqf, w_net, w_nef, w_ltt, w_ltf, w_let, w_lef, w_gtt', w_gtf', w_get, w_gef, toNat_of, of_add, cast_add, nth_0, nth_s, Nat.zero_add, Nat.reduceAdd, Nat.reduceMul, Nat.add_zero, List.length_cons, List.length_nil, List.drop_zero, List.drop_succ_cons, List.take_succ_cons, List.take_zero, List.take_nil, true_and, and_true, Int.toNat_natCast, List.append_nil, List.nil_append, List.cons_append, ldB rb2, clB rb2, ldBL rb2, clBL rb2]
    unfold X32_1
    try simp (disch := first | assumption | omega | (simp only [Int.ofNat_eq_natCast, neg_one]; done) | (simp only [Int.ofNat_eq_natCast, neg_one]; omega)) only [tysW, w_bindJ, w_logJ, w_ct, w_cf, w_gtt, w_gft, w_gtf, w_gff, w_pt, w_pf, w_lret, w_e0, w_e1, w_e2, w_nil, w_fun, w_nt, w_nf, w_add, w_sub, w_eqt, w_eqf, w_net, w_nef, w_ltt, w_ltf, w_let, w_lef, w_gtt', w_gtf', w_get, w_gef, toNat_of, of_add, cast_add, nth_0, nth_s, Nat.zero_add, Nat.reduceAdd, Nat.reduceMul, Nat.add_zero, List.length_cons, List.length_nil, List.drop_zero, List.drop_succ_cons, List.take_succ_cons, List.take_zero, List.take_nil, true_and, and_true, Int.toNat_natCast, List.append_nil, List.nil_append, List.cons_append]
    refine ValS.go g2 hp (s60 (d := d + 1) g2.fresh r2 hk2 (i := n) (by omega)) fun h3 s3 g3 c3 => ?_
    have l3 := c3.le
    have q1' := c3.box q1 (lt_of_some g2.fresh ⟨_, q1⟩)
    have e1' := c3.box e1 (lt_of_some g2.fresh ⟨_, e1⟩)
    have e2' := e2.from g2.fresh c3
    replace b1 := c3.box b1 (by omega)
    simp only [ev] at e1'
    try simp (disch := first | assumption | omega | (simp only [Int.ofNat_eq_natCast, neg_one]; done) | (simp only [Int.ofNat_eq_natCast, neg_one]; omega)) only [tysW, w_bindJ, w_logJ, w_ct, w_cf, w_gtt, w_gft, w_gtf, w_gff, w_pt, w_pf, w_lret, w_e0, w_e1, w_e2, w_nil, w_fun, w_nt, w_nf, w_add, w_sub, w_eqt, w_eqf, w_net, w_nef, w_ltt, w_ltf, w_let, w_lef, w_gtt', w_gtf', w_get, w_gef, toNat_of, of_add, cast_add, nth_0, nth_s, Nat.zero_add, Nat.reduceAdd, Nat.reduceMul, Nat.add_zero, List.length_cons, List.length_nil, List.drop_zero, List.drop_succ_cons, List.take_succ_cons, List.take_zero, List.take_nil, true_and, and_true, Int.toNat_natCast, List.append_nil, List.nil_append, List.cons_append]
    rw [ldB q1', nth_eq, q3 n bb hbb]
    dsimp only
    try simp (disch := first | assumption | omega | (simp only [Int.ofNat_eq_natCast, neg_one]; done) | (simp only [Int.ofNat_eq_natCast, neg_one]; omega)) only [tysW, w_bindJ, w_logJ, w_ct, w_cf, w_gtt, w_gft, w_gtf, w_gff, w_pt, w_pf, w_lret, w_e0, w_e1, w_e2, w_nil, w_fun, w_nt, w_nf, w_add, w_sub, w_eqt, w_eqf, w_net, w_nef, w_ltt, w_ltf, w_let, w_lef, w_gtt', w_gtf', w_get, w_gef, toNat_of, of_add, cast_add, nth_0, nth_s, Nat.zero_add, Nat.reduceAdd, Nat.reduceMul, Nat.add_zero, List.length_cons, List.length_nil, List.drop_zero, List.drop_succ_cons, List.take_succ_cons, List.take_zero, List.take_nil, true_and, and_true, Int.toNat_natCast, List.append_nil, List.nil_append, List.cons_append, ldB e1', clB e1', ldBL e1', clBL e1']
    refine PureS.go g3 hp (s61 (d := d) g3.fresh e e2' (hd e (List.mem_of_getElem? he))) fun v h5 s5 g5 c5 hv => ?_
    obtain ⟨p', rfl, sl, hb'⟩ := hv
    have l5 := c5.le
    replace b1 := c5.box b1 (by omega)
    simp only [eval, ev]
    try simp (disch := first | assumption | omega | (simp only [Int.ofNat_eq_natCast, neg_one]; done) | (simp only [Int.ofNat_eq_natCast, neg_one]; omega)) only [tysW, w_bindJ, w_logJ, w_ct, w_cf, w_gtt, w_gft, w_gtf, w_gff, w_pt, w_pf, w_lret, w_e0, w_e1, w_e2, w_nil, w_fun, w_nt, w_nf, w_add, w_sub, w_eqt, w_eqf, w_net, w_nef, w_ltt, w_ltf, w_let, w_lef, w_gtt', w_gtf', w_get, w_gef, toNat_of, of_add, cast_add, nth_0, nth_s, Nat.zero_add, Nat.reduceAdd, Nat.reduceMul, Nat.add_zero, List.length_cons, List.length_nil, List.drop_zero, List.drop_succ_cons, List.take_succ_cons, List.take_zero, List.take_nil, true_and, and_true, Int.toNat_natCast, List.append_nil, List.nil_append, List.cons_append]
    refine wp_putF g5 hp b1 (Nat.le_refl _) (by exact Nat.le_refl 5) rfl fun h6 g6 b6 e6 => ?_
    simp only [overL] at b6
    try simp (disch := first | assumption | omega | (simp only [Int.ofNat_eq_natCast, neg_one]; done) | (simp only [Int.ofNat_eq_natCast, neg_one]; omega)) only [tysW, w_bindJ, w_logJ, w_ct, w_cf, w_gtt, w_gft, w_gtf, w_gff, w_pt, w_pf, w_lret, w_e0, w_e1, w_e2, w_nil, w_fun, w_nt, w_nf, w_add, w_sub, w_eqt, w_eqf, w_net, w_nef, w_ltt, w_ltf, w_let, w_lef, w_gtt', w_gtf', w_get, w_gef, toNat_of, of_add, cast_add, nth_0, nth_s, Nat.zero_add, Nat.reduceAdd, Nat.reduceMul, Nat.add_zero, List.length_cons, List.length_nil, List.drop_zero, List.drop_succ_cons, List.take_succ_cons, List.take_zero, List.take_nil, true_and, and_true, Int.toNat_natCast, List.append_nil, List.nil_append, List.cons_append, ldB b6, clB b6, ldBL b6, clBL b6]
    refine hk _ _ _ g6 ?_
    rw [if_pos (by omega)]
    exact ⟨e, p', he, rfl, sl.but fun hc => e6 _ (by have := hb' hc; omega), fun hc => by have := hb' hc; omega⟩
end
end Go.Ev.R
namespace Go.Ev.R
open Go Go.RowKit
theorem D_26 (N d : Nat) (K : KV) (s : Nat) : D N (d + 1) 26 [] K s = K (.bool true) s := by kernel_rfl
theorem neb_4 (a : Bool) (k : Value → Nat → AM) (s : Nat) : neX P 4 4 false false (.bool a) (.bool a) k s = k (.bool false) s := by cases a <;> kernel_rfl
theorem IsTw.one {L : List EN} {b c x y : Int} (h1 : IsTw L b c x) (h2 : IsTw L b c y) : x = y := by
  rcases h1 with ⟨rfl, n1⟩ | ⟨i, rfl, ⟨e, he, hb, hc⟩, n1⟩
  · rcases h2 with ⟨rfl, _⟩ | ⟨j, rfl, ⟨e', he', hb', hc'⟩, n2⟩
    · rfl
    · exact absurd ⟨hb', hc'⟩ (n1 j e' he')
  · rcases h2 with ⟨rfl, n2⟩ | ⟨j, rfl, ⟨e', he', hb', hc'⟩, n2⟩
    · exact absurd ⟨hb, hc⟩ (n2 i e he)
    · rcases Nat.lt_trichotomy i j with h | h | h
      · exact absurd ⟨hb, hc⟩ (n2 i e h he)
      · rw [h]
      · exact absurd ⟨hb', hc'⟩ (n1 j e' h he')
/-- An entry as it comes in. -/
structure EV where
  k : K3
  inp : Bool
  p : Option Addr
  n : Nat
  c : Nat
def xv (x : EV) : List Value := [vi x.k.a, vi x.k.b, vi x.k.c, .bool x.inp, .slice x.p x.n x.c]
def EE : Enc EV := ⟨5, xv, by decide, fun _ => rfl⟩
theorem Row.fld {α : Type} {E : Enc α} {l : List α} {i j : Nat} {x : α} {v : Value} (hx : l[i]? = some x) (hj : (E.f x)[j]? = some v) : (l.flatMap E.f)[i * E.z + j]? = some v := by
  have h1 := E.flat_at l i x hx
  have hlt : j < E.z := by rw [← E.len x]; exact (List.getElem?_eq_some_iff.1 hj).1
  rw [← h1, List.getElem?_take, if_pos hlt, List.getElem?_drop] at hj
  exact hj
section
variable {h : T} {p : Option Addr} {len : Nat} {l : List EV} (r : Row EE h p len l) {i : Nat} {x : EV} (hx : l[i]? = some x) {pw : Nat → Prop} {Z : Value → T → Prop}
include r hx
theorem entD (k : Value → Nat → AM) (s : Nat) : (aload (blk p) (off p + i * 5 + 4) k s).wp pw Z h = (k (.slice x.p x.n x.c) s).wp pw Z h := by
  have := r.2.one (Row.fld (E := EE) (j := 4) hx rfl) k s (pw := pw) (Z := Z)
  rw [← Nat.add_assoc] at this; exact this
theorem entA (k : List Value → Nat → AM) (s : Nat) : (acells (blk p) (off p + i * 5) 5 k s).wp pw Z h = (k (xv x) s).wp pw Z h := r.ld hx k s
end
theorem xaE {h : T} {p : Option Addr} {len : Nat} {l : List EV} (r : Row EE h p len l) {j : Int} (hj0 : 0 ≤ j) (hj : j < (len : Int)) (cap : Nat) (kd : IntKind) (k : Value → Nat → AM) (s : Nat) :
    M.opt (aindexAt P 36 (.slice p len cap) (.int kd j)) k s = k (.pointer (some ⟨blk p, off p + j.toNat * 5, none⟩)) s := r.2.xa (z := 5) xa0_36 (by decide) hj0 hj cap kd k s
section
variable {N d : Nat} (hN : 100000 ≤ N) {h : T} {s : Nat} (hf : ∀ n, s ≤ n → h.get n = none)
include hN hf
set_option maxHeartbeats 1000000 in
theorem s7 {pl : Option Addr} {ln cl : Nat} {l : List EV} (rl : Row EE h pl ln l) (hD : ∀ x ∈ l, ∃ dt : List Int, x.n = dt.length ∧ Sl EI h x.p x.n x.c dt) (t b c : Int) : ValS (D N (d + 12)) 7 [.slice pl ln cl, vi t, vi b, vi c] h s (.bool true) := by
  refine ValS.of hf fun K pw Z g hp hk => ?_
  rw [D_7]; unfold F7; rw [app4_eq]
  have done_ : ∀ h' s', From s h h' s' → (K (.bool true) s').wp pw Z h' := fun h' s' g' => hk _ _ g'
  rw [D_26]
  refine PureS.go g hp (s27 (d := d + 10) g.fresh 40 (by decide) (by decide)) fun v h1 s1 g1 c1 hv => ?_
  obtain ⟨rb, q, rfl, hrb, hq, r1⟩ := hv
  have l1 := g1.le
  have rl1 := g1.row hf rl
  by_cases h40 : (40 : Int) < (ln : Int)
  · try simp (disch := first | assumption | omega | (simp only [Int.ofNat_eq_natCast, neg_one]; done) | (simp only [Int.ofNat_eq_natCast, neg_one]; omega)) only [tysW, w_bindJ, w_logJ, w_ct, w_cf, w_gtt, w_gft, w_gtf, w_gff, w_pt, w_pf, w_lret, w_e0, w_e1, w_e2, w_nil, w_fun, w_nt, w_nf, w_add, w_sub, w_eqt, w_eqf, w_net, w_nef, w_ltt, w_ltf, w_let, w_lef, w_gtt', w_gtf', w_get, w_gef, toNat_of, of_add, cast_add, nth_0, nth_s, Nat.zero_add, Nat.reduceAdd, Nat.reduceMul, Nat.add_zero, List.length_cons, List.length_nil, List.drop_zero, List.drop_succ_cons, List.take_succ_cons, List.take_zero, List.take_nil, true_and, and_true, Int.toNat_natCast, List.append_nil, List.nil_append, List.cons_append]
    exact done_ _ _ g1
  try simp (disch := first | assumption | omega | (simp only [Int.ofNat_eq_natCast, neg_one]; done) | (simp only [Int.ofNat_eq_natCast, neg_one]; omega)) only [tysW, w_bindJ, w_logJ, w_ct, w_cf, w_gtt, w_gft, w_gtf, w_gff, w_pt, w_pf, w_lret, w_e0, w_e1, w_e2, w_nil, w_fun, w_nt, w_nf, w_add, w_sub, w_eqt, w_eqf, w_net, w_nef, w_ltt, w_ltf, w_let, w_lef, w_gtt', w_gtf', w_get, w_gef, toNat_of, of_add, cast_add, nth_0, nth_s, Nat.zero_add, Nat.reduceAdd, Nat.reduceMul, Nat.add_zero, List.length_cons, List.length_nil, List.drop_zero, List.drop_succ_cons, List.take_succ_cons, List.take_zero, List.take_nil, true_and, and_true, Int.toNat_natCast, List.append_nil, List.nil_append, List.cons_append]
  have loop : ∀ (J : Value → Nat → AM) (hJ : ∀ u h2 s2 bs L, From s h h2 s2 → s1 ≤ s2 → RingAt h2 rb q 40 0 bs L → risingK (ksE L) = true → (∀ e ∈ L, e.data.length ≤ 20) → (J u s2).wp pw Z h2) (B : (Value → Value → Nat → AM) → Value → Value → Nat → AM) (hB : ∀ H u i s', B H u i s' = X7_5 N (D N (d + 11)) K (.slice pl ln cl) (.bool true) (ptr rb) J H u i s') (m i : Nat) (u : Value) (h2 : T) (s2 : Nat) (bs : List Nat) (L : List EN), ln - i < m → i ≤ ln → From s h h2 s2 → s1 ≤ s2 → RingAt h2 rb q 40 0 bs L → risingK (ksE L) = true → (∀ e ∈ L, e.data.length ≤ 20) →
      (loopJ m 2 (fun _ _ _ => AM.fail) B u (vi i) s2).wp pw Z h2 := by
    intro J hJ B hB m
    induction m with
    | zero => intro i u h2 s2 bs L hm; omega
    | succ m ih =>
      intro i u h2 s2 bs L hm hil g2 hs2 r2 hr2 hd2
      have rl2 := g2.row hf rl
      rw [loopJ_succ, hB]
      unfold X7_5
      by_cases hlt : i < ln
      · obtain ⟨x, hx⟩ := get_some (l := l) (i := i) (by rw [rl.1]; omega)
        obtain ⟨dt, hn, sl⟩ := hD x (List.mem_of_getElem? hx)
        try simp (disch := first | assumption | omega | (simp only [Int.ofNat_eq_natCast, neg_one]; done) | (simp only [Int.ofNat_eq_natCast, neg_one]; omega)) only [tysW, w_bindJ, w_logJ, w_ct, w_cf, w_gtt, w_gft, w_gtf, w_gff, w_pt, w_pf, w_lret, w_e0, w_e1, w_e2, w_nil, w_fun, w_nt, w_nf, w_add, w_sub, w_eqt, w_eqf, w_net, w_nef, w_ltt, w_ltf, w_let, w_lef, w_gtt', w_gtf', w_get, w_gef, toNat_of, of_add, cast_add, nth_0, nth_s, Nat.zero_add, Nat.reduceAdd, Nat.reduceMul, Nat.add_zero, List.length_cons, List.length_nil, List.drop_zero, List.drop_succ_cons, List.take_succ_cons, List.take_zero, List.take_nil, true_and, and_true, Int.toNat_natCast, List.append_nil, List.nil_append, List.cons_append, xaE rl2 (j := (i : Int)) (by omega) (by omega), entD rl2 hx]
        by_cases h20 : (20 : Int) < (x.n : Int)
        · try simp (disch := first | assumption | omega | (simp only [Int.ofNat_eq_natCast, neg_one]; done) | (simp only [Int.ofNat_eq_natCast, neg_one]; omega)) only [tysW, w_bindJ, w_logJ, w_ct, w_cf, w_gtt, w_gft, w_gtf, w_gff, w_pt, w_pf, w_lret, w_e0, w_e1, w_e2, w_nil, w_fun, w_nt, w_nf, w_add, w_sub, w_eqt, w_eqf, w_net, w_nef, w_ltt, w_ltf, w_let, w_lef, w_gtt', w_gtf', w_get, w_gef, toNat_of, of_add, cast_add, nth_0, nth_s, Nat.zero_add, Nat.reduceAdd, Nat.reduceMul, Nat.add_zero, List.length_cons, List.length_nil, List.drop_zero, List.drop_succ_cons, List.take_succ_cons, List.take_zero, List.take_nil, true_and, and_true, Int.toNat_natCast, List.append_nil, List.nil_append, List.cons_append]
          exact done_ _ _ g2
        try simp (disch := first | assumption | omega | (simp only [Int.ofNat_eq_natCast, neg_one]; done) | (simp only [Int.ofNat_eq_natCast, neg_one]; omega)) only [tysW, w_bindJ, w_logJ, w_ct, w_cf, w_gtt, w_gft, w_gtf, w_gff, w_pt, w_pf, w_lret, w_e0, w_e1, w_e2, w_nil, w_fun, w_nt, w_nf, w_add, w_sub, w_eqt, w_eqf, w_net, w_nef, w_ltt, w_ltf, w_let, w_lef, w_gtt', w_gtf', w_get, w_gef, toNat_of, of_add, cast_add, nth_0, nth_s, Nat.zero_add, Nat.reduceAdd, Nat.reduceMul, Nat.add_zero, List.length_cons, List.length_nil, List.drop_zero, List.drop_succ_cons, List.take_succ_cons, List.take_zero, List.take_nil, true_and, and_true, Int.toNat_natCast, List.append_nil, List.nil_append, List.cons_append, xaE rl2 (j := (i : Int)) (by omega) (by omega), entA rl2 hx]
        have sl2 := sl.from hf g2
        rw [hn] at sl2
        have hxv : Value.agg ⟨xv x⟩ = eval ⟨x.k, x.inp, dt⟩ x.p x.c := by simp only [xv, eval, ev, hn]
        rw [hxv]
        refine s28 (d := d + 1) hN g2 hrb hq hp r2 (by decide) hr2 ⟨x.k, x.inp, dt⟩ sl2 (by show dt.length ≤ 100000; omega) fun h3 s3 bs3 g3 hs3 r3 _ => ?_
        try simp (disch := first | assumption | omega | (simp only [Int.ofNat_eq_natCast, neg_one]; done) | (simp only [Int.ofNat_eq_natCast, neg_one]; omega)) only [tysW, w_bindJ, w_logJ, w_ct, w_cf, w_gtt, w_gft, w_gtf, w_gff, w_pt, w_pf, w_lret, w_e0, w_e1, w_e2, w_nil, w_fun, w_nt, w_nf, w_add, w_sub, w_eqt, w_eqf, w_net, w_nef, w_ltt, w_ltf, w_let, w_lef, w_gtt', w_gtf', w_get, w_gef, toNat_of, of_add, cast_add, nth_0, nth_s, Nat.zero_add, Nat.reduceAdd, Nat.reduceMul, Nat.add_zero, List.length_cons, List.length_nil, List.drop_zero, List.drop_succ_cons, List.take_succ_cons, List.take_zero, List.take_nil, true_and, and_true, Int.toNat_natCast, List.append_nil, List.nil_append, List.cons_append]
        exact ih (i + 1) u h3 s3 bs3 _ (by omega) (by omega) g3 (by omega) r3 (ins_rising hr2) (fun e he => by
          unfold insE at he
          split at he
          · exact hd2 e he
          · split at he
            · exact hd2 e he
            · rcases List.mem_append.1 he with h | h
              · exact hd2 e (List.mem_of_mem_take h)
              · rcases List.mem_cons.1 h with rfl | h
                · show dt.length ≤ 20; omega
                · exact hd2 e (List.mem_of_mem_drop h))
      · obtain rfl : i = ln := by omega
        try simp (disch := first | assumption | omega | (simp only [Int.ofNat_eq_natCast, neg_one]; done) | (simp only [Int.ofNat_eq_natCast, neg_one]; omega)) only [tysW, w_bindJ, w_logJ, w_ct, w_cf, w_gtt, w_gft, w_gtf, w_gff, w_pt, w_pf, w_lret, w_e0, w_e1, w_e2, w_nil, w_fun, w_nt, w_nf, w_add, w_sub, w_eqt, w_eqf, w_net, w_nef, w_ltt, w_ltf, w_let, w_lef, w_gtt', w_gtf', w_get, w_gef, toNat_of, of_add, cast_add, nth_0, nth_s, Nat.zero_add, Nat.reduceAdd, Nat.reduceMul, Nat.add_zero, List.length_cons, List.length_nil, List.drop_zero, List.drop_succ_cons, List.take_succ_cons, List.take_zero, List.take_nil, true_and, and_true, Int.toNat_natCast, List.append_nil, List.nil_append, List.cons_append]
        exact hJ _ _ _ bs L g2 hs2 r2 hr2 hd2
  refine loop _ (fun u h2 s2 bs L g2 hs2 r2 hr2 hd2 => ?_) _ (fun _ _ _ _ => rfl) N 0 _ h1 s1 [] [] (by omega) (by omega) g1 (Nat.le_refl _) r1 rfl (fun e he => by simp at he)
  unfold X7_4
  refine PureS.go g2 hp (s29 (d := d + 1) hN g2.fresh r2 (by decide) t) fun v h3 s3 g3 c3 hv => ?_
  obtain ⟨nn, rfl, hnL, hn1, hn2⟩ := hv
  have r3 := r2.from g2.fresh c3
  try simp (disch := first | assumption | omega | (simp only [Int.ofNat_eq_natCast, neg_one]; done) | (simp only [Int.ofNat_eq_natCast, neg_one]; omega)) only [tysW, w_bindJ, w_logJ, w_ct, w_cf, w_gtt, w_gft, w_gtf, w_gff, w_pt, w_pf, w_lret, w_e0, w_e1, w_e2, w_nil, w_fun, w_nt, w_nf, w_add, w_sub, w_eqt, w_eqf, w_net, w_nef, w_ltt, w_ltf, w_let, w_lef, w_gtt', w_gtf', w_get, w_gef, toNat_of, of_add, cast_add, nth_0, nth_s, Nat.zero_add, Nat.reduceAdd, Nat.reduceMul, Nat.add_zero, List.length_cons, List.length_nil, List.drop_zero, List.drop_succ_cons, List.take_succ_cons, List.take_zero, List.take_nil, true_and, and_true, Int.toNat_natCast, List.append_nil, List.nil_append, List.cons_append]
  refine PureS.go g3 hp (s30 (d := d + 8) hN g3.fresh r3 (by decide) b c) fun v h4 s4 g4 c4 hv => ?_
  obtain ⟨tw, rfl, htw⟩ := hv
  have r4 := r3.from g3.fresh c4
  have hlen := r4.len
  have hle := r4.le
  try simp (disch := first | assumption | omega | (simp only [Int.ofNat_eq_natCast, neg_one]; done) | (simp only [Int.ofNat_eq_natCast, neg_one]; omega)) only [tysW, w_bindJ, w_logJ, w_ct, w_cf, w_gtt, w_gft, w_gtf, w_gff, w_pt, w_pf, w_lret, w_e0, w_e1, w_e2, w_nil, w_fun, w_nt, w_nf, w_add, w_sub, w_eqt, w_eqf, w_net, w_nef, w_ltt, w_ltf, w_let, w_lef, w_gtt', w_gtf', w_get, w_gef, toNat_of, of_add, cast_add, nth_0, nth_s, Nat.zero_add, Nat.reduceAdd, Nat.reduceMul, Nat.add_zero, List.length_cons, List.length_nil, List.drop_zero, List.drop_succ_cons, List.take_succ_cons, List.take_zero, List.take_nil, true_and, and_true, Int.toNat_natCast, List.append_nil, List.nil_append, List.cons_append]
  have st : ∀ (j : Nat) (e : EN), L[j]? = some e → (e.k.a ≤ t ↔ j < nn) := by
    intro j e he
    have hj := (List.getElem?_eq_some_iff.1 he).1
    have key : ∀ (i j : Nat) (a b : EN), i < j → L[i]? = some a → L[j]? = some b → a.k.a ≤ b.k.a := fun i j a b hij ha hb => less_le (rise_lt (l := ksE L) hr2 (i := i) (by rw [ks_get, ha]; rfl) hij (by rw [ks_get, hb]; rfl))
    constructor
    · intro h1
      rcases Nat.lt_or_ge j nn with h2 | h2
      · exact h2
      · exfalso
        obtain ⟨y, hy⟩ := get_some (l := L) (i := nn) (by omega)
        have h3 := hn2 y hy
        rcases Nat.eq_or_lt_of_le h2 with h4 | h4
        · subst h4; rw [hy] at he; cases he; exact h3 h1
        · have := key nn j y e h4 hy he; omega
    · intro h1
      obtain ⟨y, hy⟩ := get_some (l := L) (i := nn - 1) (by omega)
      have h3 := hn1 (nn - 1) y (by omega) hy
      rcases Nat.eq_or_lt_of_le (show j ≤ nn - 1 by omega) with h4 | h4
      · subst h4; rw [hy] at he; cases he; exact h3
      · have := key j (nn - 1) e y h4 he hy; omega
  have loop2 : ∀ (J : Value → Nat → AM) (hJ : ∀ x h5 s5, From s h h5 s5 → RingAt h5 rb q 40 0 bs L → IsTw L b c x → (J (vi x) s5).wp pw Z h5) (B : (Value → Value → Value → Nat → AM) → Value → Value → Value → Nat → AM) (hB : ∀ H u f i s', B H u f i s' = X7_3 N (D N (d + 11)) K (ptr rb) (vi c) (vi b) (vi t) (vi nn) J H u f i s') (m i : Nat) (u : Value) (f : Int) (h5 : T) (s5 : Nat), L.length - i < m → i ≤ L.length → From s h h5 s5 → RingAt h5 rb q 40 0 bs L →
      ((f = -1 ∧ ∀ (j : Nat) (e : EN), j < i → L[j]? = some e → ¬ (e.k.b = b ∧ e.k.c = c)) ∨ (0 ≤ f ∧ IsTw L b c f)) → (loopJ m 3 (fun _ _ _ _ => AM.fail) B u (vi f) (vi i) s5).wp pw Z h5 := by
    intro J hJ B hB m
    induction m with
    | zero => intro i u f h5 s5 hm; omega
    | succ m ih =>
      intro i u f h5 s5 hm hil g5 r5 hfi
      rw [loopJ_succ, hB]
      unfold X7_3
      refine ValS.go g5 hp (s31 (d := d + 9) g5.fresh r5) fun h6 s6 g6 c6 => ?_
      have r6 := r5.from g5.fresh c6
      by_cases hlt : i < L.length
      · try simp (disch := first | assumption | omega | (simp only [Int.ofNat_eq_natCast, neg_one]; done) | (simp only [Int.ofNat_eq_natCast, neg_one]; omega)) only [tysW, w_bindJ, w_logJ, w_ct, w_cf, w_gtt, w_gft, w_gtf, w_gff, w_pt, w_pf, w_lret, w_e0, w_e1, w_e2, w_nil, w_fun, w_nt, w_nf, w_add, w_sub, w_eqt, w_eqf, w_net, w_nef, w_ltt, w_ltf, w_let, w_lef, w_gtt', w_gtf', w_get, w_gef, toNat_of, of_add, cast_add, nth_0, nth_s, Nat.zero_add, Nat.reduceAdd, Nat.reduceMul, Nat.add_zero, List.length_cons, List.length_nil, List.drop_zero, List.drop_succ_cons, List.take_succ_cons, List.take_zero, List.take_nil, true_and, and_true, Int.toNat_natCast, List.append_nil, List.nil_append, List.cons_append]
        refine PureS.go g6 hp (s32 (d := d + 8) g6.fresh r6 (by decide) (fun e he => by have := hd2 e he; omega) (i : Int)) fun v h7 s7 g7 c7 hv => ?_
        rw [if_pos (by omega)] at hv
        obtain ⟨e, p', he, rfl, _, _⟩ := hv
        have he : L[i]? = some e := by simpa using he
        have r7 := r6.from g6.fresh c7
        simp only [eval, ev]
        try simp (disch := first | assumption | omega | (simp only [Int.ofNat_eq_natCast, neg_one]; done) | (simp only [Int.ofNat_eq_natCast, neg_one]; omega)) only [tysW, w_bindJ, w_logJ, w_ct, w_cf, w_gtt, w_gft, w_gtf, w_gff, w_pt, w_pf, w_lret, w_e0, w_e1, w_e2, w_nil, w_fun, w_nt, w_nf, w_add, w_sub, w_eqt, w_eqf, w_net, w_nef, w_ltt, w_ltf, w_let, w_lef, w_gtt', w_gtf', w_get, w_gef, toNat_of, of_add, cast_add, nth_0, nth_s, Nat.zero_add, Nat.reduceAdd, Nat.reduceMul, Nat.add_zero, List.length_cons, List.length_nil, List.drop_zero, List.drop_succ_cons, List.take_succ_cons, List.take_zero, List.take_nil, true_and, and_true, Int.toNat_natCast, List.append_nil, List.nil_append, List.cons_append]
        refine wp_boxA g7 hp fun h8 g8 c8 b8 => ?_
        try simp (disch := first | assumption | omega | (simp only [Int.ofNat_eq_natCast, neg_one]; done) | (simp only [Int.ofNat_eq_natCast, neg_one]; omega)) only [tysW, w_bindJ, w_logJ, w_ct, w_cf, w_gtt, w_gft, w_gtf, w_gff, w_pt, w_pf, w_lret, w_e0, w_e1, w_e2, w_nil, w_fun, w_nt, w_nf, w_add, w_sub, w_eqt, w_eqf, w_net, w_nef, w_ltt, w_ltf, w_let, w_lef, w_gtt', w_gtf', w_get, w_gef, toNat_of, of_add, cast_add, nth_0, nth_s, Nat.zero_add, Nat.reduceAdd, Nat.reduceMul, Nat.add_zero, List.length_cons, List.length_nil, List.drop_zero, List.drop_succ_cons, List.take_succ_cons, List.take_zero, List.take_nil, true_and, and_true, Int.toNat_natCast, List.append_nil, List.nil_append, List.cons_append]
        refine wp_putF g8 hp b8 g7.le (by exact Nat.le_refl 5) rfl fun h9 g9 b9 e9 => ?_
        simp only [overL] at b9
        have r9 : RingAt h9 rb q 40 0 bs L := r7.from g7.fresh ⟨by omega, fun n hn => by rw [e9 n (by omega), c8.keep n hn], g9.fresh⟩
        have hst := st i e he
        have nx : ∀ f', ((f' = -1 ∧ ∀ (j : Nat) (e : EN), j < i + 1 → L[j]? = some e → ¬ (e.k.b = b ∧ e.k.c = c)) ∨ (0 ≤ f' ∧ IsTw L b c f')) → (loopJ m 3 (fun _ _ _ _ => AM.fail) B u (vi f') (vi ((i + 1 : Nat) : Int)) (s7 + 1)).wp pw Z h9 := fun f' hf' => ih (i + 1) u f' h9 _ (by omega) (by omega) g9 r9 hf'
        have split_ : e.k.a ≤ t ∧ (i : Int) < nn ∨ ¬ e.k.a ≤ t ∧ ¬ (i : Int) < nn := by
          by_cases h1 : e.k.a ≤ t
          · exact .inl ⟨h1, by have := hst.1 h1; omega⟩
          · exact .inr ⟨h1, fun h2 => h1 (hst.2 (by omega))⟩
        have fin : (X7_2 N (D N (d + 11)) K (.bool false) (vi f) (fun v38 v39 s => addX P 3 3 false true (vi i) (i64 1) (fun v40 s => loopJ m 3 (fun _ _ _ _ => AM.fail) B v38 v39 v40 s) s) u (vi i) (ptr s7) (vi c) (vi b) (.bool false) (s7 + 1)).wp pw Z h9 := by
          unfold X7_2
          by_cases hf0 : f < 0
          · have hff : f = -1 := by rcases hfi with ⟨h, _⟩ | ⟨h, _⟩ <;> omega
            have hno : ∀ (j : Nat) (e : EN), j < i → L[j]? = some e → ¬ (e.k.b = b ∧ e.k.c = c) := by
              rcases hfi with ⟨_, h⟩ | ⟨h, _⟩
              · exact h
              · omega
            by_cases hb : e.k.b = b
            · by_cases hc : e.k.c = c
              · try simp (disch := first | assumption | omega | (simp only [Int.ofNat_eq_natCast, neg_one]; done) | (simp only [Int.ofNat_eq_natCast, neg_one]; omega)) only [tysW, w_bindJ, w_logJ, w_ct, w_cf, w_gtt, w_gft, w_gtf, w_gff, w_pt, w_pf, w_lret, w_e0, w_e1, w_e2, w_nil, w_fun, w_nt, w_nf, w_add, w_sub, w_eqt, w_eqf, w_net, w_nef, w_ltt, w_ltf, w_let, w_lef, w_gtt', w_gtf', w_get, w_gef, toNat_of, of_add, cast_add, nth_0, nth_s, Nat.zero_add, Nat.reduceAdd, Nat.reduceMul, Nat.add_zero, List.length_cons, List.length_nil, List.drop_zero, List.drop_succ_cons, List.take_succ_cons, List.take_zero, List.take_nil, true_and, and_true, Int.toNat_natCast, List.append_nil, List.nil_append, List.cons_append, ldB b9, clB b9, ldBL b9, clBL b9]
                exact nx i (.inr ⟨by omega, .inr ⟨i, rfl, ⟨e, he, hb, hc⟩, hno⟩⟩)
              · try simp (disch := first | assumption | omega | (simp only [Int.ofNat_eq_natCast, neg_one]; done) | (simp only [Int.ofNat_eq_natCast, neg_one]; omega)) only [tysW, w_bindJ, w_logJ, w_ct, w_cf, w_gtt, w_gft, w_gtf, w_gff, w_pt, w_pf, w_lret, w_e0, w_e1, w_e2, w_nil, w_fun, w_nt, w_nf, w_add, w_sub, w_eqt, w_eqf, w_net, w_nef, w_ltt, w_ltf, w_let, w_lef, w_gtt', w_gtf', w_get, w_gef, toNat_of, of_add, cast_add, nth_0, nth_s, Nat.zero_add, Nat.reduceAdd, Nat.reduceMul, Nat.add_zero, List.length_cons, List.length_nil, List.drop_zero, List.drop_succ_cons, List.take_succ_cons, List.take_zero, List.take_nil, true_and, and_true, Int.toNat_natCast, List.append_nil, List.nil_append, List.cons_append, ldB b9, clB b9, ldBL b9, clBL b9]
                exact nx f (.inl ⟨hff, fun j e' hj he' => by
                  rcases Nat.lt_or_ge j i with h6 | h6
                  · exact hno j e' h6 he'
                  · rw [show j = i by omega, he] at he'; cases he'; exact fun h => hc h.2⟩)
            · try simp (disch := first | assumption | omega | (simp only [Int.ofNat_eq_natCast, neg_one]; done) | (simp only [Int.ofNat_eq_natCast, neg_one]; omega)) only [tysW, w_bindJ, w_logJ, w_ct, w_cf, w_gtt, w_gft, w_gtf, w_gff, w_pt, w_pf, w_lret, w_e0, w_e1, w_e2, w_nil, w_fun, w_nt, w_nf, w_add, w_sub, w_eqt, w_eqf, w_net, w_nef, w_ltt, w_ltf, w_let, w_lef, w_gtt', w_gtf', w_get, w_gef, toNat_of, of_add, cast_add, nth_0, nth_s, Nat.zero_add, Nat.reduceAdd, Nat.reduceMul, Nat.add_zero, List.length_cons, List.length_nil, List.drop_zero, List.drop_succ_cons, List.take_succ_cons, List.take_zero, List.take_nil, true_and, and_true, Int.toNat_natCast, List.append_nil, List.nil_append, List.cons_append, ldB b9, clB b9, ldBL b9, clBL b9]
              exact nx f (.inl ⟨hff, fun j e' hj he' => by
                rcases Nat.lt_or_ge j i with h6 | h6
                · exact hno j e' h6 he'
                · rw [show j = i by omega, he] at he'; cases he'; exact fun h => hb h.1⟩)
          · try simp (disch := first | assumption | omega | (simp only [Int.ofNat_eq_natCast, neg_one]; done) | (simp only [Int.ofNat_eq_natCast, neg_one]; omega)) only [tysW, w_bindJ, w_logJ, w_ct, w_cf, w_gtt, w_gft, w_gtf, w_gff, w_pt, w_pf, w_lret, w_e0, w_e1, w_e2, w_nil, w_fun, w_nt, w_nf, w_add, w_sub, w_eqt, w_eqf, w_net, w_nef, w_ltt, w_ltf, w_let, w_lef, w_gtt', w_gtf', w_get, w_gef, toNat_of, of_add, cast_add, nth_0, nth_s, Nat.zero_add, Nat.reduceAdd, Nat.reduceMul, Nat.add_zero, List.length_cons, List.length_nil, List.drop_zero, List.drop_succ_cons, List.take_succ_cons, List.take_zero, List.take_nil, true_and, and_true, Int.toNat_natCast, List.append_nil, List.nil_append, List.cons_append]
            rcases hfi with ⟨h, _⟩ | ⟨h, h'⟩
            · omega
            · exact nx f (.inr ⟨h, h'⟩)
        rcases split_ with ⟨h1, h2⟩ | ⟨h1, h2⟩
        · try simp (disch := first | assumption | omega | (simp only [Int.ofNat_eq_natCast, neg_one]; done) | (simp only [Int.ofNat_eq_natCast, neg_one]; omega)) only [tysW, w_bindJ, w_logJ, w_ct, w_cf, w_gtt, w_gft, w_gtf, w_gff, w_pt, w_pf, w_lret, w_e0, w_e1, w_e2, w_nil, w_fun, w_nt, w_nf, w_add, w_sub, w_eqt, w_eqf, w_net, w_nef, w_ltt, w_ltf, w_let, w_lef, w_gtt', w_gtf', w_get, w_gef, toNat_of, of_add, cast_add, nth_0, nth_s, Nat.zero_add, Nat.reduceAdd, Nat.reduceMul, Nat.add_zero, List.length_cons, List.length_nil, List.drop_zero, List.drop_succ_cons, List.take_succ_cons, List.take_zero, List.take_nil, true_and, and_true, Int.toNat_natCast, List.append_nil, List.nil_append, List.cons_append, ldB b9, clB b9, ldBL b9, clBL b9, neb_4]
          exact fin
        · try simp (disch := first | assumption | omega | (simp only [Int.ofNat_eq_natCast, neg_one]; done) | (simp only [Int.ofNat_eq_natCast, neg_one]; omega)) only [tysW, w_bindJ, w_logJ, w_ct, w_cf, w_gtt, w_gft, w_gtf, w_gff, w_pt, w_pf, w_lret, w_e0, w_e1, w_e2, w_nil, w_fun, w_nt, w_nf, w_add, w_sub, w_eqt, w_eqf, w_net, w_nef, w_ltt, w_ltf, w_let, w_lef, w_gtt', w_gtf', w_get, w_gef, toNat_of, of_add, cast_add, nth_0, nth_s, Nat.zero_add, Nat.reduceAdd, Nat.reduceMul, Nat.add_zero, List.length_cons, List.length_nil, List.drop_zero, List.drop_succ_cons, List.take_succ_cons, List.take_zero, List.take_nil, true_and, and_true, Int.toNat_natCast, List.append_nil, List.nil_append, List.cons_append, ldB b9, clB b9, ldBL b9, clBL b9, neb_4]
          exact fin
      · obtain rfl : i = L.length := by omega
        try simp (disch := first | assumption | omega | (simp only [Int.ofNat_eq_natCast, neg_one]; done) | (simp only [Int.ofNat_eq_natCast, neg_one]; omega)) only [tysW, w_bindJ, w_logJ, w_ct, w_cf, w_gtt, w_gft, w_gtf, w_gff, w_pt, w_pf, w_lret, w_e0, w_e1, w_e2, w_nil, w_fun, w_nt, w_nf, w_add, w_sub, w_eqt, w_eqf, w_net, w_nef, w_ltt, w_ltf, w_let, w_lef, w_gtt', w_gtf', w_get, w_gef, toNat_of, of_add, cast_add, nth_0, nth_s, Nat.zero_add, Nat.reduceAdd, Nat.reduceMul, Nat.add_zero, List.length_cons, List.length_nil, List.drop_zero, List.drop_succ_cons, List.take_succ_cons, List.take_zero, List.take_nil, true_and, and_true, Int.toNat_natCast, List.append_nil, List.nil_append, List.cons_append]
        refine hJ f h6 s6 g6 r6 ?_
        rcases hfi with ⟨rfl, h1⟩ | ⟨_, h1⟩
        · exact .inl ⟨rfl, fun j e he => h1 j e (List.getElem?_eq_some_iff.1 he).1 he⟩
        · exact h1
  refine loop2 _ (fun x h5 s5 g5 r5 hx => ?_) _ (fun _ _ _ _ _ => rfl) N 0 u (-1) h4 s4 (by omega) (by omega) g4 r4 (.inl ⟨rfl, fun j e hj => by omega⟩)
  have hxt := hx.one htw
  subst hxt
  try simp (disch := first | assumption | omega | (simp only [Int.ofNat_eq_natCast, neg_one]; done) | (simp only [Int.ofNat_eq_natCast, neg_one]; omega)) only [tysW, w_bindJ, w_logJ, w_ct, w_cf, w_gtt, w_gft, w_gtf, w_gff, w_pt, w_pf, w_lret, w_e0, w_e1, w_e2, w_nil, w_fun, w_nt, w_nf, w_add, w_sub, w_eqt, w_eqf, w_net, w_nef, w_ltt, w_ltf, w_let, w_lef, w_gtt', w_gtf', w_get, w_gef, toNat_of, of_add, cast_add, nth_0, nth_s, Nat.zero_add, Nat.reduceAdd, Nat.reduceMul, Nat.add_zero, List.length_cons, List.length_nil, List.drop_zero, List.drop_succ_cons, List.take_succ_cons, List.take_zero, List.take_nil, true_and, and_true, Int.toNat_natCast, List.append_nil, List.nil_append, List.cons_append]
  unfold X7_1
  try simp (disch := first | assumption | omega | (simp only [Int.ofNat_eq_natCast, neg_one]; done) | (simp only [Int.ofNat_eq_natCast, neg_one]; omega)) only [tysW, w_bindJ, w_logJ, w_ct, w_cf, w_gtt, w_gft, w_gtf, w_gff, w_pt, w_pf, w_lret, w_e0, w_e1, w_e2, w_nil, w_fun, w_nt, w_nf, w_add, w_sub, w_eqt, w_eqf, w_net, w_nef, w_ltt, w_ltf, w_let, w_lef, w_gtt', w_gtf', w_get, w_gef, toNat_of, of_add, cast_add, nth_0, nth_s, Nat.zero_add, Nat.reduceAdd, Nat.reduceMul, Nat.add_zero, List.length_cons, List.length_nil, List.drop_zero, List.drop_succ_cons, List.take_succ_cons, List.take_zero, List.take_nil, true_and, and_true, Int.toNat_natCast, List.append_nil, List.nil_append, List.cons_append]
  refine ValS.go g5 hp (s31 (d := d + 9) g5.fresh r5) fun h6 s6 g6 c6 => ?_
  try simp (disch := first | assumption | omega | (simp only [Int.ofNat_eq_natCast, neg_one]; done) | (simp only [Int.ofNat_eq_natCast, neg_one]; omega)) only [tysW, w_bindJ, w_logJ, w_ct, w_cf, w_gtt, w_gft, w_gtf, w_gff, w_pt, w_pf, w_lret, w_e0, w_e1, w_e2, w_nil, w_fun, w_nt, w_nf, w_add, w_sub, w_eqt, w_eqf, w_net, w_nef, w_ltt, w_ltf, w_let, w_lef, w_gtt', w_gtf', w_get, w_gef, toNat_of, of_add, cast_add, nth_0, nth_s, Nat.zero_add, Nat.reduceAdd, Nat.reduceMul, Nat.add_zero, List.length_cons, List.length_nil, List.drop_zero, List.drop_succ_cons, List.take_succ_cons, List.take_zero, List.take_nil, true_and, and_true, Int.toNat_natCast, List.append_nil, List.nil_append, List.cons_append]
  exact done_ _ _ g6
end
end Go.Ev.R

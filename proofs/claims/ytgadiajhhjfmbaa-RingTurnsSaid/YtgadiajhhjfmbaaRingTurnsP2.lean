/- The law RingTurns, part 2: what the functions answer, by their terms. No condition. -/
import Derived.Test.YtgadiajhhjfmbaaRingTurnsP1
set_option linter.unusedVariables false
set_option linter.unusedSimpArgs false
set_option maxRecDepth 100000
namespace Go.Ev.R
open Go Go.RowKit
theorem less_le {x y : K3} (h : lessK x y = true) : x.a ≤ y.a := by
  unfold lessK at h
  split at h
  · omega
  · simp at h; omega
theorem ins_rising {keep : Nat} {e : EN} {L : List EN} (h : risingK (ksE L) = true) : risingK (ksE (insE keep e L).1) = true := by
  unfold insE
  split
  · exact h
  · rename_i hat
    split
    · exact h
    · have h1 : ksE (L.take (plK e.k (ksE L)) ++ e :: L.drop (plK e.k (ksE L))) = insK e.k (ksE L) := by unfold ksE insK; simp [List.map_take, List.map_drop]
      dsimp only
      rw [h1]
      exact ins_rise h (by simpa using hat)
theorem ins_len {keep : Nat} {e : EN} {L : List EN} : (insE keep e L).1.length ≤ L.length + 1 := by
  unfold insE
  split
  · exact Nat.le_succ _
  · split
    · exact Nat.le_succ _
    · have := pl_le e.k (ksE L)
      rw [ks_len] at this
      simp; omega
theorem mk_70 (n : Nat) (hn : n ≤ 1000000) (k : Value → Nat → AM) (s : Nat) : amakeSlice P 70 (.int .i64 (n : Int)) (.int .i64 (n : Int)) k s = anew (.cells ⟨replL [.pointer none] n⟩ 91 (0, 0)) (fun b => k (.slice (some ⟨b, 0, none⟩) n n)) s := by
  have hz : zeroT P 91 = some (.pointer none) := by kernel_rfl
  have hi : (P.info? 91).map (fun i => (i.size, Nat.ble i.bytes 100000)) = some (1, true) := by kernel_rfl
  unfold amakeSlice
  rw [show P.underlying 70 = some (.slice 91) by kernel_rfl]
  dsimp only
  rw [hz]
  cases hinf : P.info? 91 with
  | none => rw [hinf] at hi; cases hi
  | some inf =>
    rw [hinf] at hi
    obtain ⟨h1, h2⟩ := Prod.mk.inj (Option.some.inj hi)
    dsimp only
    rw [h1, h2, decide_eq_true (show (0 : Int) ≤ (n : Int) by omega), decide_eq_true (show (n : Int) ≤ (n : Int) by omega), decide_eq_true (show (n : Int) ≤ 1000000 by omega)]
    rfl
theorem rep_len (n : Nat) : (replL [.pointer none] n).length = n := by
  induction n with
  | zero => rfl
  | succ n ih => show ([Value.pointer none] ++ replL [.pointer none] n).length = _; rw [List.length_append, ih]; simp; omega
/-- Where the first entry of a sensor's number stands. -/
def IsTw (L : List EN) (b c r : Int) : Prop := (r = -1 ∧ ∀ (j : Nat) (e : EN), L[j]? = some e → ¬ (e.k.b = b ∧ e.k.c = c)) ∨ ∃ i : Nat, r = i ∧ (∃ e : EN, L[i]? = some e ∧ e.k.b = b ∧ e.k.c = c) ∧ ∀ (j : Nat) (e : EN), j < i → L[j]? = some e → ¬ (e.k.b = b ∧ e.k.c = c)
section
variable {N d : Nat} (hN : 100000 ≤ N) {h : T} {s : Nat} (hf : ∀ n, s ≤ n → h.get n = none)
include hf
theorem s27 (n : Nat) (h1 : 1 ≤ n) (h2 : n ≤ 200) : PureS (D N (d + 1)) 27 [vi n] h s (fun v h' s' => ∃ rb q, v = .tuple ⟨[ptr rb, vi 0]⟩ ∧ s ≤ rb ∧ s ≤ q ∧ RingAt h' rb q n 0 [] []) := by
  refine PureS.of hf fun K pw Z g hp hk => ?_
  rw [D_27]; unfold F27; rw [app1_eq]
  try simp (disch := first | assumption | omega | (simp only [Int.ofNat_eq_natCast, neg_one]; done) | (simp only [Int.ofNat_eq_natCast, neg_one]; omega)) only [tysW, w_bindJ, w_logJ, w_ct, w_cf, w_gtt, w_gft, w_gtf, w_gff, w_pt, w_pf, w_lret, w_e0, w_e1, w_e2, w_nil, w_fun, w_nt, w_nf, w_add, w_sub, w_eqt, w_eqf, w_net, w_nef, w_ltt, w_ltf, w_let, w_lef, w_gtt', w_gtf', w_get, w_gef, toNat_of, of_add, cast_add, nth_0, nth_s, Nat.zero_add, Nat.reduceAdd, Nat.reduceMul, Nat.add_zero, List.length_cons, List.length_nil, List.drop_zero, List.drop_succ_cons, List.take_succ_cons, List.take_zero, List.take_nil, true_and, and_true, Int.toNat_natCast, List.append_nil, List.nil_append, List.cons_append]
  rw [mk_70 n (by omega)]
  refine wp_newF g hp fun h3 g3 c3 b3 => ?_
  try simp (disch := first | assumption | omega | (simp only [Int.ofNat_eq_natCast, neg_one]; done) | (simp only [Int.ofNat_eq_natCast, neg_one]; omega)) only [tysW, w_bindJ, w_logJ, w_ct, w_cf, w_gtt, w_gft, w_gtf, w_gff, w_pt, w_pf, w_lret, w_e0, w_e1, w_e2, w_nil, w_fun, w_nt, w_nf, w_add, w_sub, w_eqt, w_eqf, w_net, w_nef, w_ltt, w_ltf, w_let, w_lef, w_gtt', w_gtf', w_get, w_gef, toNat_of, of_add, cast_add, nth_0, nth_s, Nat.zero_add, Nat.reduceAdd, Nat.reduceMul, Nat.add_zero, List.length_cons, List.length_nil, List.drop_zero, List.drop_succ_cons, List.take_succ_cons, List.take_zero, List.take_nil, true_and, and_true, Int.toNat_natCast, List.append_nil, List.nil_append, List.cons_append]
  refine wp_boxA g3 hp fun h4 g4 c4 b4 => ?_
  replace b3 := c4.box b3 (by omega)
  try simp (disch := first | assumption | omega | (simp only [Int.ofNat_eq_natCast, neg_one]; done) | (simp only [Int.ofNat_eq_natCast, neg_one]; omega)) only [tysW, w_bindJ, w_logJ, w_ct, w_cf, w_gtt, w_gft, w_gtf, w_gff, w_pt, w_pf, w_lret, w_e0, w_e1, w_e2, w_nil, w_fun, w_nt, w_nf, w_add, w_sub, w_eqt, w_eqf, w_net, w_nef, w_ltt, w_ltf, w_let, w_lef, w_gtt', w_gtf', w_get, w_gef, toNat_of, of_add, cast_add, nth_0, nth_s, Nat.zero_add, Nat.reduceAdd, Nat.reduceMul, Nat.add_zero, List.length_cons, List.length_nil, List.drop_zero, List.drop_succ_cons, List.take_succ_cons, List.take_zero, List.take_nil, true_and, and_true, Int.toNat_natCast, List.append_nil, List.nil_append, List.cons_append]
  exact hk _ _ _ g4 ⟨s + 1, s, rfl, by omega, Nat.le_refl _, b4, ⟨_, b3, rep_len n, fun i b hb => by simp at hb⟩, by omega, by omega, by omega, Nat.zero_le _, rfl, fun i b hb => by simp at hb⟩
theorem s31 {rb q keep first : Nat} {bs : List Nat} {L : List EN} (r : RingAt h rb q keep first bs L) : ValS (D N (d + 2)) 31 [ptr rb] h s (vi L.length) := by
  refine ValS.of hf fun K pw Z g hp hk => ?_
  rw [D_31]; unfold F31; rw [app1_eq]
  refine ValS.go g hp (s57 (d := d) g.fresh r) fun h2 s2 g2 c2 => ?_
  have r2 := (r.from hf g2).box
  rw [r.len] at r2
  try simp (disch := first | assumption | omega | (simp only [Int.ofNat_eq_natCast, neg_one]; done) | (simp only [Int.ofNat_eq_natCast, neg_one]; omega)) only [tysW, w_bindJ, w_logJ, w_ct, w_cf, w_gtt, w_gft, w_gtf, w_gff, w_pt, w_pf, w_lret, w_e0, w_e1, w_e2, w_nil, w_fun, w_nt, w_nf, w_add, w_sub, w_eqt, w_eqf, w_net, w_nef, w_ltt, w_ltf, w_let, w_lef, w_gtt', w_gtf', w_get, w_gef, toNat_of, of_add, cast_add, nth_0, nth_s, Nat.zero_add, Nat.reduceAdd, Nat.reduceMul, Nat.add_zero, List.length_cons, List.length_nil, List.drop_zero, List.drop_succ_cons, List.take_succ_cons, List.take_zero, List.take_nil, true_and, and_true, Int.toNat_natCast, List.append_nil, List.nil_append, List.cons_append, ldB r2, clB r2, ldBL r2, clBL r2]
  exact hk _ _ g2
include hN
theorem s29 {rb q keep first : Nat} {bs : List Nat} {L : List EN} (r : RingAt h rb q keep first bs L) (hk2 : keep ≤ 1000) (t : Int) : PureS (D N (d + 10)) 29 [ptr rb, vi t] h s (fun v _ _ => ∃ i : Nat, v = vi i ∧ i ≤ L.length ∧ (∀ (j : Nat) (e : EN), j + 1 = i → L[j]? = some e → e.k.a ≤ t) ∧ (∀ e : EN, L[i]? = some e → ¬ e.k.a ≤ t)) := by
  refine PureS.of hf fun K pw Z g hp hk => ?_
  rw [D_29]; unfold F29; rw [app2_eq]
  refine wp_box1 (v := vi t) rfl g hp fun h1 g1 c1 b1 => ?_
  try simp (disch := first | assumption | omega | (simp only [Int.ofNat_eq_natCast, neg_one]; done) | (simp only [Int.ofNat_eq_natCast, neg_one]; omega)) only [tysW, w_bindJ, w_logJ, w_ct, w_cf, w_gtt, w_gft, w_gtf, w_gff, w_pt, w_pf, w_lret, w_e0, w_e1, w_e2, w_nil, w_fun, w_nt, w_nf, w_add, w_sub, w_eqt, w_eqf, w_net, w_nef, w_ltt, w_ltf, w_let, w_lef, w_gtt', w_gtf', w_get, w_gef, toNat_of, of_add, cast_add, nth_0, nth_s, Nat.zero_add, Nat.reduceAdd, Nat.reduceMul, Nat.add_zero, List.length_cons, List.length_nil, List.drop_zero, List.drop_succ_cons, List.take_succ_cons, List.take_zero, List.take_nil, true_and, and_true, Int.toNat_natCast, List.append_nil, List.nil_append, List.cons_append]
  refine ValS.go g1 hp (s57 (d := d + 8) g1.fresh (r.from hf g1)) fun h2 s2 g2 c2 => ?_
  have l2 := c2.le
  replace b1 := c2.box b1 (by omega)
  try simp (disch := first | assumption | omega | (simp only [Int.ofNat_eq_natCast, neg_one]; done) | (simp only [Int.ofNat_eq_natCast, neg_one]; omega)) only [tysW, w_bindJ, w_logJ, w_ct, w_cf, w_gtt, w_gft, w_gtf, w_gff, w_pt, w_pf, w_lret, w_e0, w_e1, w_e2, w_nil, w_fun, w_nt, w_nf, w_add, w_sub, w_eqt, w_eqf, w_net, w_nef, w_ltt, w_ltf, w_let, w_lef, w_gtt', w_gtf', w_get, w_gef, toNat_of, of_add, cast_add, nth_0, nth_s, Nat.zero_add, Nat.reduceAdd, Nat.reduceMul, Nat.add_zero, List.length_cons, List.length_nil, List.drop_zero, List.drop_succ_cons, List.take_succ_cons, List.take_zero, List.take_nil, true_and, and_true, Int.toNat_natCast, List.append_nil, List.nil_append, List.cons_append]
  refine PureS.go g2 hp (s58 (d := d + 5) hN g2.fresh (r.from hf g2) hk2 (fn := 62) (caps := [ptr s]) (a := fun x => decide (x.k.a ≤ t)) (fun C xs ys args k s => iv_62 C xs ys args k s) (fun e' p' c' h' s' g' => s62 (d := d + 5) g'.fresh e' p' c' (g'.box b1 (by omega)))) fun v h6 s6 g6 c6 hv => ?_
  obtain ⟨i, rfl, hi, hi1, hi2⟩ := hv
  exact hk _ _ _ g6 ⟨i, rfl, hi, fun j e hj he => by simpa using hi1 j e hj he, fun e he => by simpa using hi2 e he⟩
theorem s30 {rb q keep first : Nat} {bs : List Nat} {L : List EN} (r : RingAt h rb q keep first bs L) (hk2 : keep ≤ 1000) (b c : Int) : PureS (D N (d + 3)) 30 [ptr rb, vi b, vi c] h s (fun v _ _ => ∃ x : Int, v = vi x ∧ IsTw L b c x) := by
  refine PureS.of hf fun K pw Z g hp hk => ?_
  rw [D_30]; unfold F30; rw [app3_eq]
  refine ValS.go g hp (s57 (d := d + 1) g.fresh r) fun h2 s2 g2 c2 => ?_
  have r2 := (r.from hf g2).box
  have hlen := r.len
  have hle := r.le
  try simp (disch := first | assumption | omega | (simp only [Int.ofNat_eq_natCast, neg_one]; done) | (simp only [Int.ofNat_eq_natCast, neg_one]; omega)) only [tysW, w_bindJ, w_logJ, w_ct, w_cf, w_gtt, w_gft, w_gtf, w_gff, w_pt, w_pf, w_lret, w_e0, w_e1, w_e2, w_nil, w_fun, w_nt, w_nf, w_add, w_sub, w_eqt, w_eqf, w_net, w_nef, w_ltt, w_ltf, w_let, w_lef, w_gtt', w_gtf', w_get, w_gef, toNat_of, of_add, cast_add, nth_0, nth_s, Nat.zero_add, Nat.reduceAdd, Nat.reduceMul, Nat.add_zero, List.length_cons, List.length_nil, List.drop_zero, List.drop_succ_cons, List.take_succ_cons, List.take_zero, List.take_nil, true_and, and_true, Int.toNat_natCast, List.append_nil, List.nil_append, List.cons_append, ldB r2, clB r2, ldBL r2, clBL r2]
  have loop : ∀ (B : (Value → Value → Nat → AM) → Value → Value → Nat → AM) (hB : ∀ H u i s', B H u i s' = X30_1 N (D N (d + 2)) K (vi bs.length) (ptr rb) (vi b) (vi c) (fun s => K (.int .i64 (.negSucc 0)) s) H u i s') (m i : Nat) (u : Value) (h1 : T) (s1 : Nat), bs.length - i < m → i ≤ bs.length → (∀ (j : Nat) (e : EN), j < i → L[j]? = some e → ¬ (e.k.b = b ∧ e.k.c = c)) → From s h h1 s1 →
      (loopJ m 2 (fun _ _ _ => AM.fail) B u (vi i) s1).wp pw Z h1 := by
    intro B hB m
    induction m with
    | zero => intro i u h1 s1 hm; omega
    | succ m ih =>
      intro i u h1 s1 hm hil hno g1
      have r1 := r.from hf g1
      rw [loopJ_succ, hB]
      unfold X30_1
      by_cases hlt : i < bs.length
      · obtain ⟨e, he⟩ := get_some (l := L) (i := i) (by omega)
        obtain ⟨bb, hbb, pp, cc, e1, e2, e3⟩ := r1.ent' he
        obtain ⟨cs, q1, q2, q3⟩ := r1.row
        try simp (disch := first | assumption | omega | (simp only [Int.ofNat_eq_natCast, neg_one]; done) | (simp only [Int.ofNat_eq_natCast, neg_one]; omega)) only [tysW, w_bindJ, w_logJ, w_ct, w_cf, w_gtt, w_gft, w_gtf, w_gff, w_pt, w_pf, w_lret, w_e0, w_e1, w_e2, w_nil, w_fun, w_nt, w_nf, w_add, w_sub, w_eqt, w_eqf, w_net, w_nef, w_ltt, w_ltf, w_let, w_lef, w_gtt', w_gtf', w_get, w_gef, toNat_of, of_add, cast_add, nth_0, nth_s, Nat.zero_add, Nat.reduceAdd, Nat.reduceMul, Nat.add_zero, List.length_cons, List.length_nil, List.drop_zero, List.drop_succ_cons, List.take_succ_cons, List.take_zero, List.take_nil, true_and, and_true, Int.toNat_natCast, List.append_nil, List.nil_append, List.cons_append]
        refine ValS.go g1 hp (s60 (d := d + 1) g1.fresh r1 hk2 (i := i) (by omega)) fun h3 s3 g3 c3 => ?_
        have q1' := c3.box q1 (lt_of_some g1.fresh ⟨_, q1⟩)
        have e1' := c3.box e1 (lt_of_some g1.fresh ⟨_, e1⟩)
        simp only [ev] at e1'
        try simp (disch := first | assumption | omega | (simp only [Int.ofNat_eq_natCast, neg_one]; done) | (simp only [Int.ofNat_eq_natCast, neg_one]; omega)) only [tysW, w_bindJ, w_logJ, w_ct, w_cf, w_gtt, w_gft, w_gtf, w_gff, w_pt, w_pf, w_lret, w_e0, w_e1, w_e2, w_nil, w_fun, w_nt, w_nf, w_add, w_sub, w_eqt, w_eqf, w_net, w_nef, w_ltt, w_ltf, w_let, w_lef, w_gtt', w_gtf', w_get, w_gef, toNat_of, of_add, cast_add, nth_0, nth_s, Nat.zero_add, Nat.reduceAdd, Nat.reduceMul, Nat.add_zero, List.length_cons, List.length_nil, List.drop_zero, List.drop_succ_cons, List.take_succ_cons, List.take_zero, List.take_nil, true_and, and_true, Int.toNat_natCast, List.append_nil, List.nil_append, List.cons_append]
        rw [ldB q1', nth_eq, q3 i bb hbb]
        dsimp only
        try simp (disch := first | assumption | omega | (simp only [Int.ofNat_eq_natCast, neg_one]; done) | (simp only [Int.ofNat_eq_natCast, neg_one]; omega)) only [tysW, w_bindJ, w_logJ, w_ct, w_cf, w_gtt, w_gft, w_gtf, w_gff, w_pt, w_pf, w_lret, w_e0, w_e1, w_e2, w_nil, w_fun, w_nt, w_nf, w_add, w_sub, w_eqt, w_eqf, w_net, w_nef, w_ltt, w_ltf, w_let, w_lef, w_gtt', w_gtf', w_get, w_gef, toNat_of, of_add, cast_add, nth_0, nth_s, Nat.zero_add, Nat.reduceAdd, Nat.reduceMul, Nat.add_zero, List.length_cons, List.length_nil, List.drop_zero, List.drop_succ_cons, List.take_succ_cons, List.take_zero, List.take_nil, true_and, and_true, Int.toNat_natCast, List.append_nil, List.nil_append, List.cons_append, ldB e1', clB e1', ldBL e1', clBL e1']
        by_cases h4 : e.k.b = b
        · try simp (disch := first | assumption | omega | (simp only [Int.ofNat_eq_natCast, neg_one]; done) | (simp only [Int.ofNat_eq_natCast, neg_one]; omega)) only [tysW, w_bindJ, w_logJ, w_ct, w_cf, w_gtt, w_gft, w_gtf, w_gff, w_pt, w_pf, w_lret, w_e0, w_e1, w_e2, w_nil, w_fun, w_nt, w_nf, w_add, w_sub, w_eqt, w_eqf, w_net, w_nef, w_ltt, w_ltf, w_let, w_lef, w_gtt', w_gtf', w_get, w_gef, toNat_of, of_add, cast_add, nth_0, nth_s, Nat.zero_add, Nat.reduceAdd, Nat.reduceMul, Nat.add_zero, List.length_cons, List.length_nil, List.drop_zero, List.drop_succ_cons, List.take_succ_cons, List.take_zero, List.take_nil, true_and, and_true, Int.toNat_natCast, List.append_nil, List.nil_append, List.cons_append, ldB e1', clB e1', ldBL e1', clBL e1']
          by_cases h5 : e.k.c = c
          · try simp (disch := first | assumption | omega | (simp only [Int.ofNat_eq_natCast, neg_one]; done) | (simp only [Int.ofNat_eq_natCast, neg_one]; omega)) only [tysW, w_bindJ, w_logJ, w_ct, w_cf, w_gtt, w_gft, w_gtf, w_gff, w_pt, w_pf, w_lret, w_e0, w_e1, w_e2, w_nil, w_fun, w_nt, w_nf, w_add, w_sub, w_eqt, w_eqf, w_net, w_nef, w_ltt, w_ltf, w_let, w_lef, w_gtt', w_gtf', w_get, w_gef, toNat_of, of_add, cast_add, nth_0, nth_s, Nat.zero_add, Nat.reduceAdd, Nat.reduceMul, Nat.add_zero, List.length_cons, List.length_nil, List.drop_zero, List.drop_succ_cons, List.take_succ_cons, List.take_zero, List.take_nil, true_and, and_true, Int.toNat_natCast, List.append_nil, List.nil_append, List.cons_append, ldB e1', clB e1', ldBL e1', clBL e1']
            exact hk _ _ _ g3 ⟨i, rfl, .inr ⟨i, rfl, ⟨e, he, h4, h5⟩, hno⟩⟩
          · try simp (disch := first | assumption | omega | (simp only [Int.ofNat_eq_natCast, neg_one]; done) | (simp only [Int.ofNat_eq_natCast, neg_one]; omega)) only [tysW, w_bindJ, w_logJ, w_ct, w_cf, w_gtt, w_gft, w_gtf, w_gff, w_pt, w_pf, w_lret, w_e0, w_e1, w_e2, w_nil, w_fun, w_nt, w_nf, w_add, w_sub, w_eqt, w_eqf, w_net, w_nef, w_ltt, w_ltf, w_let, w_lef, w_gtt', w_gtf', w_get, w_gef, toNat_of, of_add, cast_add, nth_0, nth_s, Nat.zero_add, Nat.reduceAdd, Nat.reduceMul, Nat.add_zero, List.length_cons, List.length_nil, List.drop_zero, List.drop_succ_cons, List.take_succ_cons, List.take_zero, List.take_nil, true_and, and_true, Int.toNat_natCast, List.append_nil, List.nil_append, List.cons_append, ldB e1', clB e1', ldBL e1', clBL e1']
            exact ih (i + 1) u h3 s3 (by omega) (by omega) (fun j e' hj he' => by
              rcases Nat.lt_or_ge j i with h6 | h6
              · exact hno j e' h6 he'
              · rw [show j = i by omega, he] at he'; cases he'; exact fun h => h5 h.2) g3
        · try simp (disch := first | assumption | omega | (simp only [Int.ofNat_eq_natCast, neg_one]; done) | (simp only [Int.ofNat_eq_natCast, neg_one]; omega)) only [tysW, w_bindJ, w_logJ, w_ct, w_cf, w_gtt, w_gft, w_gtf, w_gff, w_pt, w_pf, w_lret, w_e0, w_e1, w_e2, w_nil, w_fun, w_nt, w_nf, w_add, w_sub, w_eqt, w_eqf, w_net, w_nef, w_ltt, w_ltf, w_let, w_lef, w_gtt', w_gtf', w_get, w_gef, toNat_of, of_add, cast_add, nth_0, nth_s, Nat.zero_add, Nat.reduceAdd, Nat.reduceMul, Nat.add_zero, List.length_cons, List.length_nil, List.drop_zero, List.drop_succ_cons, List.take_succ_cons, List.take_zero, List.take_nil, true_and, and_true, Int.toNat_natCast, List.append_nil, List.nil_append, List.cons_append, ldB e1', clB e1', ldBL e1', clBL e1']
          exact ih (i + 1) u h3 s3 (by omega) (by omega) (fun j e' hj he' => by
            rcases Nat.lt_or_ge j i with h6 | h6
            · exact hno j e' h6 he'
            · rw [show j = i by omega, he] at he'; cases he'; exact fun h => h4 h.1) g3
      · obtain rfl : i = bs.length := by omega
        try simp (disch := first | assumption | omega | (simp only [Int.ofNat_eq_natCast, neg_one]; done) | (simp only [Int.ofNat_eq_natCast, neg_one]; omega)) only [tysW, w_bindJ, w_logJ, w_ct, w_cf, w_gtt, w_gft, w_gtf, w_gff, w_pt, w_pf, w_lret, w_e0, w_e1, w_e2, w_nil, w_fun, w_nt, w_nf, w_add, w_sub, w_eqt, w_eqf, w_net, w_nef, w_ltt, w_ltf, w_let, w_lef, w_gtt', w_gtf', w_get, w_gef, toNat_of, of_add, cast_add, nth_0, nth_s, Nat.zero_add, Nat.reduceAdd, Nat.reduceMul, Nat.add_zero, List.length_cons, List.length_nil, List.drop_zero, List.drop_succ_cons, List.take_succ_cons, List.take_zero, List.take_nil, true_and, and_true, Int.toNat_natCast, List.append_nil, List.nil_append, List.cons_append]
        exact hk _ _ _ g1 ⟨-1, rfl, .inl ⟨rfl, fun j e he => hno j e (by have := (List.getElem?_eq_some_iff.1 he).1; omega) he⟩⟩
  exact loop _ (fun _ _ _ _ => rfl) N 0 _ h2 s2 (by omega) (by omega) (fun j e hj => by omega) g2
omit hN in
theorem s32 {rb q keep first : Nat} {bs : List Nat} {L : List EN} (r : RingAt h rb q keep first bs L) (hk2 : keep ≤ 1000) (hd : ∀ e ∈ L, e.data.length ≤ 100000) (i : Int) : PureS (D N (d + 3)) 32 [ptr rb, vi i] h s (fun v h' s' =>
    if 0 ≤ i ∧ i < L.length then ∃ e p', L[i.toNat]? = some e ∧ v = .tuple ⟨[eval e p' e.data.length, vi 0]⟩ ∧ Sl EI h' p' e.data.length e.data.length e.data ∧ (e.data.length ≠ 0 → s ≤ blk p') else v = .tuple ⟨[.agg ⟨[vi 0, vi 0, vi 0, .bool false, .slice none 0 0]⟩, vi 4]⟩) := by
  refine PureS.of hf fun K pw Z g hp hk => ?_
  rw [D_32]; unfold F32; rw [app2_eq]
  try simp (disch := first | assumption | omega | (simp only [Int.ofNat_eq_natCast, neg_one]; done) | (simp only [Int.ofNat_eq_natCast, neg_one]; omega)) only [tysW, w_bindJ, w_logJ, w_ct, w_cf, w_gtt, w_gft, w_gtf, w_gff, w_pt, w_pf, w_lret, w_e0, w_e1, w_e2, w_nil, w_fun, w_nt, w_nf, w_add, w_sub, w_eqt, w_eqf, w_net, w_nef, w_ltt, w_ltf, w_let, w_lef, w_gtt', w_gtf', w_get, w_gef, toNat_of, of_add, cast_add, nth_0, nth_s, Nat.zero_add, Nat.reduceAdd, Nat.reduceMul, Nat.add_zero, List.length_cons, List.length_nil, List.drop_zero, List.drop_succ_cons, List.take_succ_cons, List.take_zero, List.take_nil, true_and, and_true, Int.toNat_natCast, List.append_nil, List.nil_append, List.cons_append]
  refine wp_boxA g hp fun h1 g1 c1 b1 => ?_
  try simp (disch := first | assumption | omega | (simp only [Int.ofNat_eq_natCast, neg_one]; done) | (simp only [Int.ofNat_eq_natCast, neg_one]; omega)) only [tysW, w_bindJ, w_logJ, w_ct, w_cf, w_gtt, w_gft, w_gtf, w_gff, w_pt, w_pf, w_lret, w_e0, w_e1, w_e2, w_nil, w_fun, w_nt, w_nf, w_add, w_sub, w_eqt, w_eqf, w_net, w_nef, w_ltt, w_ltf, w_let, w_lef, w_gtt', w_gtf', w_get, w_gef, toNat_of, of_add, cast_add, nth_0, nth_s, Nat.zero_add, Nat.reduceAdd, Nat.reduceMul, Nat.add_zero, List.length_cons, List.length_nil, List.drop_zero, List.drop_succ_cons, List.take_succ_cons, List.take_zero, List.take_nil, true_and, and_true, Int.toNat_natCast, List.append_nil, List.nil_append, List.cons_append]
  refine ValS.go g1 hp (s57 (d := d + 1) g1.fresh (r.from hf g1)) fun h2 s2 g2 c2 => ?_
  have l2 := c2.le
  have r2 := r.from hf g2
  have rb2 := r2.box
  have hlen := r.len
  have hle := r.le
  replace b1 := c2.box b1 (by omega)
  by_cases h0 : i < 0
  · try simp (disch := first | assumption | omega | (simp only [Int.ofNat_eq_natCast, neg_one]; done) | (simp only [Int.ofNat_eq_natCast, neg_one]; omega)) only [tysW, w_bindJ, w_logJ, w_ct, w_cf, w_gtt, w_gft, w_gtf, w_gff, w_pt, w_pf, w_lret, w_e0, w_e1, w_e2, w_nil, w_fun, w_nt, w_nf, w_add, w_sub, w_eqt, w_eqf, w_net, w_nef, w_ltt, w_ltf, w_let, w_lef, w_gtt', w_gtf', w_get, w_gef, toNat_of, of_add, cast_add, nth_0, nth_s, Nat.zero_add, Nat.reduceAdd, Nat.reduceMul, Nat.add_zero, List.length_cons, List.length_nil, List.drop_zero, List.drop_succ_cons, List.take_succ_cons, List.take_zero, List.take_nil, true_and, and_true, Int.toNat_natCast, List.append_nil, List.nil_append, List.cons_append, ldB b1, clB b1, ldBL b1, clBL b1, X32_1]
    refine wp_putF g2 hp b1 (Nat.le_refl _) (by exact Nat.le_refl 5) rfl fun h3 g3 b3 e3 => ?_
    simp only [overL] at b3
    try simp (disch := first | assumption | omega | (simp only [Int.ofNat_eq_natCast, neg_one]; done) | (simp only [Int.ofNat_eq_natCast, neg_one]; omega)) only [tysW, w_bindJ, w_logJ, w_ct, w_cf, w_gtt, w_gft, w_gtf, w_gff, w_pt, w_pf, w_lret, w_e0, w_e1, w_e2, w_nil, w_fun, w_nt, w_nf, w_add, w_sub, w_eqt, w_eqf, w_net, w_nef, w_ltt, w_ltf, w_let, w_lef, w_gtt', w_gtf', w_get, w_gef, toNat_of, of_add, cast_add, nth_0, nth_s, Nat.zero_add, Nat.reduceAdd, Nat.reduceMul, Nat.add_zero, List.length_cons, List.length_nil, List.drop_zero, List.drop_succ_cons, List.take_succ_cons, List.take_zero, List.take_nil, true_and, and_true, Int.toNat_natCast, List.append_nil, List.nil_append, List.cons_append, ldB b3, clB b3, ldBL b3, clBL b3]
    refine hk _ _ _ g3 ?_
    rw [if_neg (by omega)]; rfl
  by_cases h4 : (bs.length : Int) ≤ i
  · try simp (disch := first | assumption | omega | (simp only [Int.ofNat_eq_natCast, neg_one]; done) | (simp only [Int.ofNat_eq_natCast, neg_one]; omega)) only [tysW, w_bindJ, w_logJ, w_ct, w_cf, w_gtt, w_gft, w_gtf, w_gff, w_pt, w_pf, w_lret, w_e0, w_e1, w_e2, w_nil, w_fun, w_nt, w_nf, w_add, w_sub, w_eqt, w_eqf, w_net, w_nef, w_ltt, w_ltf, w_let, w_lef, w_gtt', w_gtf', w_get, w_gef, toNat_of, of_add, cast_add, nth_0, nth_s, Nat.zero_add, Nat.reduceAdd, Nat.reduceMul, Nat.add_zero, List.length_cons, List.length_nil, List.drop_zero, List.drop_succ_cons, List.take_succ_cons, List.take_zero, List.take_nil, true_and, and_true, Int.toNat_natCast, List.append_nil, List.nil_append, List.cons_append, ldB b1, clB b1, ldBL b1, clBL b1, ldB rb2, clB rb2, ldBL rb2, clBL rb2, X32_1]
    refine wp_putF g2 hp b1 (Nat.le_refl _) (by exact Nat.le_refl 5) rfl fun h3 g3 b3 e3 => ?_
    simp only [overL] at b3
    try simp (disch := first | assumption | omega | (simp only [Int.ofNat_eq_natCast, neg_one]; done) | (simp only [Int.ofNat_eq_natCast, neg_one]; omega)) only [tysW, w_bindJ, w_logJ, w_ct, w_cf, w_gtt, w_gft, w_gtf, w_gff, w_pt, w_pf, w_lret, w_e0, w_e1, w_e2, w_nil, w_fun, w_nt, w_nf, w_add, w_sub, w_eqt, w_eqf, w_net, w_nef, w_ltt, w_ltf, w_let, w_lef, w_gtt', w_gtf', w_get, w_gef, toNat_of, of_add, cast_add, nth_0, nth_s, Nat.zero_add, Nat.reduceAdd, Nat.reduceMul, Nat.add_zero, List.length_cons, List.length_nil, List.drop_zero, List.drop_succ_cons, List.take_succ_cons, List.take_zero, List.take_nil, true_and, and_true, Int.toNat_natCast, List.append_nil, List.nil_append, List.cons_append, ldB b3, clB b3, ldBL b3, clBL b3]
    refine hk _ _ _ g3 ?_
    rw [if_neg (by omega)]; rfl
  · obtain ⟨n, rfl⟩ := Int.eq_ofNat_of_zero_le (show 0 ≤ i by omega)
    obtain ⟨e, he⟩ := get_some (l := L) (i := n) (by omega)
    obtain ⟨bb, hbb, pp, cc, e1, e2, e3⟩ := r2.ent' he
    obtain ⟨cs, q1, q2, q3⟩ := r2.row
    try simp (disch := first | assumption | omega | (simp only [Int.ofNat_eq_natCast, neg_one]; done) | (simp only [Int.ofNat_eq_natCast, neg_one]; omega)) only [tysW, w_bindJ, w_logJ, w_ct, w_cf, w_gtt, w_gft, w_gtf, w_gff, w_pt, w_pf, w_lret, w_e0, w_e1, w_e2, w_nil, w_fun, w_nt, w_nf, w_add, w_sub, w_eqt, w_eqf, w_net, w_nef, w_ltt, w_ltf, w_let, w_lef, w_gtt', w_gtf', w_get, w_gef, toNat_of, of_add, cast_add, nth_0, nth_s, Nat.zero_add, Nat.reduceAdd, Nat.reduceMul, Nat.add_zero, List.length_cons, List.length_nil, List.drop_zero, List.drop_succ_cons, List.take_succ_cons, List.take_zero, List.take_nil, true_and, and_true, Int.toNat_natCast, List.append_nil, List.nil_append, List.cons_append, ldB rb2, clB rb2, ldBL rb2, clBL rb2]
    unfold X32_1
    try simp (disch := first | assumption | omega | (simp only [Int.ofNat_eq_natCast, neg_one]; done) | (simp only [Int.ofNat_eq_natCast, neg_one]; omega)) only [tysW, w_bindJ, w_logJ, w_ct, w_cf, w_gtt, w_gft, w_gtf, w_gff, w_pt, w_pf, w_lret, w_e0, w_e1, w_e2, w_nil, w_fun, w_nt, w_nf, w_add, w_sub, w_eqt, w_eqf, w_net, w_nef, w_ltt, w_ltf, w_let, w_lef, w_gtt', w_gtf', w_get, w_gef, toNat_of, of_add, cast_add, nth_0, nth_s, Nat.zero_add, Nat.reduceAdd, Nat.reduceMul, Nat.add_zero, List.length_cons, List.length_nil, List.drop_zero, List.drop_succ_cons, List.take_succ_cons, List.take_zero, List.take_nil, true_and, and_true, Int.toNat_natCast, List.append_nil, List.nil_append, List.cons_append]
    refine ValS.go g2 hp (s60 (d := d + 1) g2.fresh r2 hk2 (i := n) (by omega)) fun h3 s3 g3 c3 => ?_
    have l3 := c3.le
    have q1' := c3.box q1 (lt_of_some g2.fresh ⟨_, q1⟩)
    have e1' := c3.box e1 (lt_of_some g2.fresh ⟨_, e1⟩)
    have e2' := e2.from g2.fresh c3
    replace b1 := c3.box b1 (by omega)
    simp only [ev] at e1'
    try simp (disch := first | assumption | omega | (simp only [Int.ofNat_eq_natCast, neg_one]; done) | (simp only [Int.ofNat_eq_natCast, neg_one]; omega)) only [tysW, w_bindJ, w_logJ, w_ct, w_cf, w_gtt, w_gft, w_gtf, w_gff, w_pt, w_pf, w_lret, w_e0, w_e1, w_e2, w_nil, w_fun, w_nt, w_nf, w_add, w_sub, w_eqt, w_eqf, w_net, w_nef, w_ltt, w_ltf, w_let, w_lef, w_gtt', w_gtf', w_get, w_gef, toNat_of, of_add, cast_add, nth_0, nth_s, Nat.zero_add, Nat.reduceAdd, Nat.reduceMul, Nat.add_zero, List.length_cons, List.length_nil, List.drop_zero, List.drop_succ_cons, List.take_succ_cons, List.take_zero, List.take_nil, true_and, and_true, Int.toNat_natCast, List.append_nil, List.nil_append, List.cons_append]
    rw [ldB q1', nth_eq, q3 n bb hbb]
    dsimp only
    try simp (disch := first | assumption | omega | (simp only [Int.ofNat_eq_natCast, neg_one]; done) | (simp only [Int.ofNat_eq_natCast, neg_one]; omega)) only [tysW, w_bindJ, w_logJ, w_ct, w_cf, w_gtt, w_gft, w_gtf, w_gff, w_pt, w_pf, w_lret, w_e0, w_e1, w_e2, w_nil, w_fun, w_nt, w_nf, w_add, w_sub, w_eqt, w_eqf, w_net, w_nef, w_ltt, w_ltf, w_let, w_lef, w_gtt', w_gtf', w_get, w_gef, toNat_of, of_add, cast_add, nth_0, nth_s, Nat.zero_add, Nat.reduceAdd, Nat.reduceMul, Nat.add_zero, List.length_cons, List.length_nil, List.drop_zero, List.drop_succ_cons, List.take_succ_cons, List.take_zero, List.take_nil, true_and, and_true, Int.toNat_natCast, List.append_nil, List.nil_append, List.cons_append, ldB e1', clB e1', ldBL e1', clBL e1']
    refine PureS.go g3 hp (s61 (d := d) g3.fresh e e2' (hd e (List.mem_of_getElem? he))) fun v h5 s5 g5 c5 hv => ?_
    obtain ⟨p', rfl, sl, hb'⟩ := hv
    have l5 := c5.le
    replace b1 := c5.box b1 (by omega)
    simp only [eval, ev]
    try simp (disch := first | assumption | omega | (simp only [Int.ofNat_eq_natCast, neg_one]; done) | (simp only [Int.ofNat_eq_natCast, neg_one]; omega)) only [tysW, w_bindJ, w_logJ, w_ct, w_cf, w_gtt, w_gft, w_gtf, w_gff, w_pt, w_pf, w_lret, w_e0, w_e1, w_e2, w_nil, w_fun, w_nt, w_nf, w_add, w_sub, w_eqt, w_eqf, w_net, w_nef, w_ltt, w_ltf, w_let, w_lef, w_gtt', w_gtf', w_get, w_gef, toNat_of, of_add, cast_add, nth_0, nth_s, Nat.zero_add, Nat.reduceAdd, Nat.reduceMul, Nat.add_zero, List.length_cons, List.length_nil, List.drop_zero, List.drop_succ_cons, List.take_succ_cons, List.take_zero, List.take_nil, true_and, and_true, Int.toNat_natCast, List.append_nil, List.nil_append, List.cons_append]
    refine wp_putF g5 hp b1 (Nat.le_refl _) (by exact Nat.le_refl 5) rfl fun h6 g6 b6 e6 => ?_
    simp only [overL] at b6
    try simp (disch := first | assumption | omega | (simp only [Int.ofNat_eq_natCast, neg_one]; done) | (simp only [Int.ofNat_eq_natCast, neg_one]; omega)) only [tysW, w_bindJ, w_logJ, w_ct, w_cf, w_gtt, w_gft, w_gtf, w_gff, w_pt, w_pf, w_lret, w_e0, w_e1, w_e2, w_nil, w_fun, w_nt, w_nf, w_add, w_sub, w_eqt, w_eqf, w_net, w_nef, w_ltt, w_ltf, w_let, w_lef, w_gtt', w_gtf', w_get, w_gef, toNat_of, of_add, cast_add, nth_0, nth_s, Nat.zero_add, Nat.reduceAdd, Nat.reduceMul, Nat.add_zero, List.length_cons, List.length_nil, List.drop_zero, List.drop_succ_cons, List.take_succ_cons, List.take_zero, List.take_nil, true_and, and_true, Int.toNat_natCast, List.append_nil, List.nil_append, List.cons_append, ldB b6, clB b6, ldBL b6, clBL b6]
    refine hk _ _ _ g6 ?_
    rw [if_pos (by omega)]
    exact ⟨e, p', he, rfl, sl.but fun hc => e6 _ (by have := hb' hc; omega), fun hc => by have := hb' hc; omega⟩
end
end Go.Ev.R
namespace Go.Ev.R
open Go Go.RowKit
theorem neb_4 (a : Bool) (k : Value → Nat → AM) (s : Nat) : neX P 4 4 false false (.bool a) (.bool a) k s = k (.bool false) s := by cases a <;> kernel_rfl
theorem IsTw.one {L : List EN} {b c x y : Int} (h1 : IsTw L b c x) (h2 : IsTw L b c y) : x = y := by
  rcases h1 with ⟨rfl, n1⟩ | ⟨i, rfl, ⟨e, he, hb, hc⟩, n1⟩
  · rcases h2 with ⟨rfl, _⟩ | ⟨j, rfl, ⟨e', he', hb', hc'⟩, n2⟩
    · rfl
    · exact absurd ⟨hb', hc'⟩ (n1 j e' he')
  · rcases h2 with ⟨rfl, n2⟩ | ⟨j, rfl, ⟨e', he', hb', hc'⟩, n2⟩
    · exact absurd ⟨hb, hc⟩ (n2 i e he)
    · rcases Nat.lt_trichotomy i j with h | h | h
      · exact absurd ⟨hb, hc⟩ (n2 i e h he)
      · rw [h]
      · exact absurd ⟨hb', hc'⟩ (n1 j e' h he')
/-- An entry as it comes in. -/
structure EV where
  k : K3
  inp : Bool
  p : Option Addr
  n : Nat
  c : Nat
def xv (x : EV) : List Value := [vi x.k.a, vi x.k.b, vi x.k.c, .bool x.inp, .slice x.p x.n x.c]
def EE : Enc EV := ⟨5, xv, by decide, fun _ => rfl⟩
theorem Row.fld {α : Type} {E : Enc α} {l : List α} {i j : Nat} {x : α} {v : Value} (hx : l[i]? = some x) (hj : (E.f x)[j]? = some v) : (l.flatMap E.f)[i * E.z + j]? = some v := by
  have h1 := E.flat_at l i x hx
  have hlt : j < E.z := by rw [← E.len x]; exact (List.getElem?_eq_some_iff.1 hj).1
  rw [← h1, List.getElem?_take, if_pos hlt, List.getElem?_drop] at hj
  exact hj
section
variable {h : T} {p : Option Addr} {len : Nat} {l : List EV} (r : Row EE h p len l) {i : Nat} {x : EV} (hx : l[i]? = some x) {pw : Nat → Prop} {Z : Value → T → Prop}
include r hx
theorem entD (k : Value → Nat → AM) (s : Nat) : (aload (blk p) (off p + i * 5 + 4) k s).wp pw Z h = (k (.slice x.p x.n x.c) s).wp pw Z h := by
  have := r.2.one (Row.fld (E := EE) (j := 4) hx rfl) k s (pw := pw) (Z := Z)
  rw [← Nat.add_assoc] at this; exact this
theorem entA (k : List Value → Nat → AM) (s : Nat) : (acells (blk p) (off p + i * 5) 5 k s).wp pw Z h = (k (xv x) s).wp pw Z h := r.ld hx k s
end
theorem xaE {h : T} {p : Option Addr} {len : Nat} {l : List EV} (r : Row EE h p len l) {j : Int} (hj0 : 0 ≤ j) (hj : j < (len : Int)) (cap : Nat) (kd : IntKind) (k : Value → Nat → AM) (s : Nat) :
    M.opt (aindexAt P 36 (.slice p len cap) (.int kd j)) k s = k (.pointer (some ⟨blk p, off p + j.toNat * 5, none⟩)) s := r.2.xa (z := 5) xa0_36 (by decide) hj0 hj cap kd k s
end Go.Ev.R
namespace Go.Ev.R
open Go Go.RowKit
theorem xaI {h : T} {p : Option Addr} {len : Nat} {l : List Int} (r : Row EI h p len l) {j : Int} (hj0 : 0 ≤ j) (hj : j < (len : Int)) (cap : Nat) (kd : IntKind) (k : Value → Nat → AM) (s : Nat) :
    M.opt (aindexAt P 41 (.slice p len cap) (.int kd j)) k s = k (.pointer (some ⟨blk p, off p + j.toNat, none⟩)) s := by
  have := r.2.xa (z := 1) xa0_41 (by decide) hj0 hj cap kd k s
  rwa [Nat.mul_one] at this
theorem intL {h : T} {p : Option Addr} {len : Nat} {l : List Int} (r : Row EI h p len l) {i : Nat} {x : Int} (hx : l[i]? = some x) {pw : Nat → Prop} {Z : Value → T → Prop} (j : LogT) (s : Nat) :
    (AM.log (aload (blk p) (off p + i) (fun v s => .ret (pk v s)) s) (logU j)).wp pw Z h = (j (vi x) [blk p] [] s).wp pw Z h := by
  have := r.2.oneL (Row.fld (E := EI) (j := 0) hx rfl) j s (pw := pw) (Z := Z)
  rw [show i * EI.z + 0 = i from Nat.mul_one i] at this; exact this
section
variable {h : T} {p : Option Addr} {len : Nat} {l : List EV} (r : Row EE h p len l) {i : Nat} {x : EV} (hx : l[i]? = some x) {pw : Nat → Prop} {Z : Value → T → Prop}
include r hx
theorem entAL (q : List Value → Value) (j : LogT) (s : Nat) : (AM.log (acells (blk p) (off p + i * 5) 5 (fun l s => .ret (pk (q l) s)) s) (logU j)).wp pw Z h = (j (q (xv x)) [blk p] [] s).wp pw Z h := r.ldL hx q j s
end
/-- Keys in a list that was made. -/
def OwnP (h : T) (s : Nat) (p : Option Addr) (len : Nat) (l : List K3) : Prop := l.length = len ∧ (p = none ∧ len = 0 ∨ ∃ n, p = some ⟨n, 0, none⟩ ∧ s ≤ n ∧ h.get n = some (.cells ⟨l.flatMap kv⟩ 23 (4, 0)))
theorem OwnP.sl {h : T} {s : Nat} {p : Option Addr} {len : Nat} {l : List K3} (o : OwnP h s p len l) : Sl EK h p len len l := by
  obtain ⟨hl, ⟨rfl, rfl⟩ | ⟨n, rfl, _, hg⟩⟩ := o
  · obtain rfl := List.eq_nil_of_length_eq_zero hl
    exact .nil _
  · exact .own hg (.inr rfl) hl
theorem OwnP.from {h h' : T} {s s0 s' : Nat} {p : Option Addr} {len : Nat} {l : List K3} (o : OwnP h s p len l) (hf : ∀ n, s0 ≤ n → h.get n = none) (g : From s0 h h' s') : OwnP h' s p len l := by
  obtain ⟨hl, ho | ⟨n, rfl, h1, hg⟩⟩ := o
  · exact ⟨hl, .inl ho⟩
  · exact ⟨hl, .inr ⟨n, rfl, h1, by rw [g.keep n (lt_of_some hf ⟨_, hg⟩)]; exact hg⟩⟩
/-- Whether no earlier key is the same. -/
def fr (ks : List K3) (i : Nat) : Bool := match ks[i]? with
  | some x => !(ks.take i).any fun y => sameK y x
  | none => true
section
variable {N d : Nat} (hN : 100000 ≤ N) {h : T} {s : Nat} (hf : ∀ n, s ≤ n → h.get n = none)
include hN hf
theorem s63 {p q : Option Addr} {n n' c c' : Nat} {l l' : List Int} (r : Row EI h p n l) (r' : Row EI h q n' l') (hl : n ≤ 1000) : ValS (D N (d + 1)) 63 [.slice p n c, .slice q n' c'] h s (.bool (decide (l = l'))) := by
  refine ValS.of hf fun K pw Z g hp hk => ?_
  rw [D_63]; unfold F63; rw [app2_eq]
  have hk := hk _ _ g
  by_cases hnn : (n : Int) = (n' : Int)
  · obtain rfl : n = n' := by omega
    try simp (disch := first | assumption | omega | (simp only [Int.ofNat_eq_natCast, neg_one]; done) | (simp only [Int.ofNat_eq_natCast, neg_one]; omega)) only [tysW, w_bindJ, w_logJ, w_ct, w_cf, w_gtt, w_gft, w_gtf, w_gff, w_pt, w_pf, w_lret, w_e0, w_e1, w_e2, w_nil, w_fun, w_nt, w_nf, w_add, w_sub, w_eqt, w_eqf, w_net, w_nef, w_ltt, w_ltf, w_let, w_lef, w_gtt', w_gtf', w_get, w_gef, toNat_of, of_add, cast_add, nth_0, nth_s, Nat.zero_add, Nat.reduceAdd, Nat.reduceMul, Nat.add_zero, List.length_cons, List.length_nil, List.drop_zero, List.drop_succ_cons, List.take_succ_cons, List.take_zero, List.take_nil, true_and, and_true, Int.toNat_natCast, List.append_nil, List.nil_append, List.cons_append]
    have loop : ∀ (B : (Value → Value → Nat → AM) → Value → Value → Nat → AM) (hB : ∀ H u i s', B H u i s' = X63_1 N (D N d) K (.slice p n c) (.slice q n c') (fun s => K (.bool true) s) H u i s') (m i : Nat) (u : Value), n - i < m → i ≤ n → (∀ j, j < i → l[j]? = l'[j]?) →
        (loopJ m 2 (fun _ _ _ => AM.fail) B u (vi i) s).wp pw Z h := by
      intro B hB m
      induction m with
      | zero => intro i u hm; omega
      | succ m ih =>
        intro i u hm hil he
        rw [loopJ_succ, hB]
        unfold X63_1
        by_cases hlt : i < n
        · obtain ⟨x, hx⟩ := get_some (l := l) (i := i) (by rw [r.1]; omega)
          obtain ⟨y, hy⟩ := get_some (l := l') (i := i) (by rw [r'.1]; omega)
          try simp (disch := first | assumption | omega | (simp only [Int.ofNat_eq_natCast, neg_one]; done) | (simp only [Int.ofNat_eq_natCast, neg_one]; omega)) only [tysW, w_bindJ, w_logJ, w_ct, w_cf, w_gtt, w_gft, w_gtf, w_gff, w_pt, w_pf, w_lret, w_e0, w_e1, w_e2, w_nil, w_fun, w_nt, w_nf, w_add, w_sub, w_eqt, w_eqf, w_net, w_nef, w_ltt, w_ltf, w_let, w_lef, w_gtt', w_gtf', w_get, w_gef, toNat_of, of_add, cast_add, nth_0, nth_s, Nat.zero_add, Nat.reduceAdd, Nat.reduceMul, Nat.add_zero, List.length_cons, List.length_nil, List.drop_zero, List.drop_succ_cons, List.take_succ_cons, List.take_zero, List.take_nil, true_and, and_true, Int.toNat_natCast, List.append_nil, List.nil_append, List.cons_append, xaI r (j := (i : Int)) (by omega) (by omega), intL r hx, xaI r' (j := (i : Int)) (by omega) (by omega), intL r' hy]
          by_cases hxy : x = y
          · try simp (disch := first | assumption | omega | (simp only [Int.ofNat_eq_natCast, neg_one]; done) | (simp only [Int.ofNat_eq_natCast, neg_one]; omega)) only [tysW, w_bindJ, w_logJ, w_ct, w_cf, w_gtt, w_gft, w_gtf, w_gff, w_pt, w_pf, w_lret, w_e0, w_e1, w_e2, w_nil, w_fun, w_nt, w_nf, w_add, w_sub, w_eqt, w_eqf, w_net, w_nef, w_ltt, w_ltf, w_let, w_lef, w_gtt', w_gtf', w_get, w_gef, toNat_of, of_add, cast_add, nth_0, nth_s, Nat.zero_add, Nat.reduceAdd, Nat.reduceMul, Nat.add_zero, List.length_cons, List.length_nil, List.drop_zero, List.drop_succ_cons, List.take_succ_cons, List.take_zero, List.take_nil, true_and, and_true, Int.toNat_natCast, List.append_nil, List.nil_append, List.cons_append]
            exact ih (i + 1) u (by omega) (by omega) fun j hj => by
              rcases Nat.lt_or_ge j i with h6 | h6
              · exact he j h6
              · rw [show j = i by omega, hx, hy, hxy]
          · try simp (disch := first | assumption | omega | (simp only [Int.ofNat_eq_natCast, neg_one]; done) | (simp only [Int.ofNat_eq_natCast, neg_one]; omega)) only [tysW, w_bindJ, w_logJ, w_ct, w_cf, w_gtt, w_gft, w_gtf, w_gff, w_pt, w_pf, w_lret, w_e0, w_e1, w_e2, w_nil, w_fun, w_nt, w_nf, w_add, w_sub, w_eqt, w_eqf, w_net, w_nef, w_ltt, w_ltf, w_let, w_lef, w_gtt', w_gtf', w_get, w_gef, toNat_of, of_add, cast_add, nth_0, nth_s, Nat.zero_add, Nat.reduceAdd, Nat.reduceMul, Nat.add_zero, List.length_cons, List.length_nil, List.drop_zero, List.drop_succ_cons, List.take_succ_cons, List.take_zero, List.take_nil, true_and, and_true, Int.toNat_natCast, List.append_nil, List.nil_append, List.cons_append]
            rw [decide_eq_false fun e => hxy (by rw [e, hy] at hx; exact (Option.some.inj hx).symm)] at hk
            exact hk
        · obtain rfl : i = n := by omega
          try simp (disch := first | assumption | omega | (simp only [Int.ofNat_eq_natCast, neg_one]; done) | (simp only [Int.ofNat_eq_natCast, neg_one]; omega)) only [tysW, w_bindJ, w_logJ, w_ct, w_cf, w_gtt, w_gft, w_gtf, w_gff, w_pt, w_pf, w_lret, w_e0, w_e1, w_e2, w_nil, w_fun, w_nt, w_nf, w_add, w_sub, w_eqt, w_eqf, w_net, w_nef, w_ltt, w_ltf, w_let, w_lef, w_gtt', w_gtf', w_get, w_gef, toNat_of, of_add, cast_add, nth_0, nth_s, Nat.zero_add, Nat.reduceAdd, Nat.reduceMul, Nat.add_zero, List.length_cons, List.length_nil, List.drop_zero, List.drop_succ_cons, List.take_succ_cons, List.take_zero, List.take_nil, true_and, and_true, Int.toNat_natCast, List.append_nil, List.nil_append, List.cons_append]
          rw [decide_eq_true (List.ext_getElem? fun j => by
            rcases Nat.lt_or_ge j i with h6 | h6
            · exact he j h6
            · rw [List.getElem?_eq_none (by rw [r.1]; exact h6), List.getElem?_eq_none (by rw [r'.1]; exact h6)])] at hk
          exact hk
    exact loop _ (fun _ _ _ _ => rfl) N 0 _ (by omega) (by omega) fun j hj => by omega
  · try simp (disch := first | assumption | omega | (simp only [Int.ofNat_eq_natCast, neg_one]; done) | (simp only [Int.ofNat_eq_natCast, neg_one]; omega)) only [tysW, w_bindJ, w_logJ, w_ct, w_cf, w_gtt, w_gft, w_gtf, w_gff, w_pt, w_pf, w_lret, w_e0, w_e1, w_e2, w_nil, w_fun, w_nt, w_nf, w_add, w_sub, w_eqt, w_eqf, w_net, w_nef, w_ltt, w_ltf, w_let, w_lef, w_gtt', w_gtf', w_get, w_gef, toNat_of, of_add, cast_add, nth_0, nth_s, Nat.zero_add, Nat.reduceAdd, Nat.reduceMul, Nat.add_zero, List.length_cons, List.length_nil, List.drop_zero, List.drop_succ_cons, List.take_succ_cons, List.take_zero, List.take_nil, true_and, and_true, Int.toNat_natCast, List.append_nil, List.nil_append, List.cons_append]
    rw [decide_eq_false fun e => hnn (by rw [← r.1, ← r'.1, e])] at hk
    exact hk
theorem s35 (e e' : EN) {p p' : Option Addr} {c c' : Nat} (r : Row EI h p e.data.length e.data) (r' : Row EI h p' e'.data.length e'.data) (hl : e.data.length ≤ 1000) : PureS (D N (d + 2)) 35 [eval e p c, eval e' p' c'] h s (fun v _ _ => ∃ b, v = .bool b ∧ (b = true ↔ e = e')) := by
  refine PureS.of hf fun K pw Z g hp hk => ?_
  rw [D_35]; unfold F35; rw [app2_eq]
  unfold X35_2
  refine wp_boxA g hp fun h1 g1 c1 b1 => ?_
  try simp (disch := first | assumption | omega | (simp only [Int.ofNat_eq_natCast, neg_one]; done) | (simp only [Int.ofNat_eq_natCast, neg_one]; omega)) only [tysW, w_bindJ, w_logJ, w_ct, w_cf, w_gtt, w_gft, w_gtf, w_gff, w_pt, w_pf, w_lret, w_e0, w_e1, w_e2, w_nil, w_fun, w_nt, w_nf, w_add, w_sub, w_eqt, w_eqf, w_net, w_nef, w_ltt, w_ltf, w_let, w_lef, w_gtt', w_gtf', w_get, w_gef, toNat_of, of_add, cast_add, nth_0, nth_s, Nat.zero_add, Nat.reduceAdd, Nat.reduceMul, Nat.add_zero, List.length_cons, List.length_nil, List.drop_zero, List.drop_succ_cons, List.take_succ_cons, List.take_zero, List.take_nil, true_and, and_true, Int.toNat_natCast, List.append_nil, List.nil_append, List.cons_append]
  refine wp_boxA g1 hp fun h2 g2 c2 b2 => ?_
  replace b1 := c2.box b1 (by omega)
  simp only [ev] at b1 b2
  have nok : e ≠ e' → (K (.bool false) (s + 1 + 1)).wp pw Z h2 := fun hne => hk _ _ _ g2 ⟨false, rfl, by simp [hne]⟩
  by_cases ha : e.k.a = e'.k.a
  · by_cases hb : e.k.b = e'.k.b
    · by_cases hc : e.k.c = e'.k.c
      · try simp (disch := first | assumption | omega | (simp only [Int.ofNat_eq_natCast, neg_one]; done) | (simp only [Int.ofNat_eq_natCast, neg_one]; omega)) only [tysW, w_bindJ, w_logJ, w_ct, w_cf, w_gtt, w_gft, w_gtf, w_gff, w_pt, w_pf, w_lret, w_e0, w_e1, w_e2, w_nil, w_fun, w_nt, w_nf, w_add, w_sub, w_eqt, w_eqf, w_net, w_nef, w_ltt, w_ltf, w_let, w_lef, w_gtt', w_gtf', w_get, w_gef, toNat_of, of_add, cast_add, nth_0, nth_s, Nat.zero_add, Nat.reduceAdd, Nat.reduceMul, Nat.add_zero, List.length_cons, List.length_nil, List.drop_zero, List.drop_succ_cons, List.take_succ_cons, List.take_zero, List.take_nil, true_and, and_true, Int.toNat_natCast, List.append_nil, List.nil_append, List.cons_append, ldB b1, clB b1, ldBL b1, clBL b1, ldB b2, clB b2, ldBL b2, clBL b2]
        unfold X35_1
        try simp (disch := first | assumption | omega | (simp only [Int.ofNat_eq_natCast, neg_one]; done) | (simp only [Int.ofNat_eq_natCast, neg_one]; omega)) only [tysW, w_bindJ, w_logJ, w_ct, w_cf, w_gtt, w_gft, w_gtf, w_gff, w_pt, w_pf, w_lret, w_e0, w_e1, w_e2, w_nil, w_fun, w_nt, w_nf, w_add, w_sub, w_eqt, w_eqf, w_net, w_nef, w_ltt, w_ltf, w_let, w_lef, w_gtt', w_gtf', w_get, w_gef, toNat_of, of_add, cast_add, nth_0, nth_s, Nat.zero_add, Nat.reduceAdd, Nat.reduceMul, Nat.add_zero, List.length_cons, List.length_nil, List.drop_zero, List.drop_succ_cons, List.take_succ_cons, List.take_zero, List.take_nil, true_and, and_true, Int.toNat_natCast, List.append_nil, List.nil_append, List.cons_append, ldB b1, clB b1, ldBL b1, clBL b1, ldB b2, clB b2, ldBL b2, clBL b2, eqb_4]
        cases hi : (e.inp == e'.inp) with
        | false =>
          try simp (disch := first | assumption | omega | (simp only [Int.ofNat_eq_natCast, neg_one]; done) | (simp only [Int.ofNat_eq_natCast, neg_one]; omega)) only [tysW, w_bindJ, w_logJ, w_ct, w_cf, w_gtt, w_gft, w_gtf, w_gff, w_pt, w_pf, w_lret, w_e0, w_e1, w_e2, w_nil, w_fun, w_nt, w_nf, w_add, w_sub, w_eqt, w_eqf, w_net, w_nef, w_ltt, w_ltf, w_let, w_lef, w_gtt', w_gtf', w_get, w_gef, toNat_of, of_add, cast_add, nth_0, nth_s, Nat.zero_add, Nat.reduceAdd, Nat.reduceMul, Nat.add_zero, List.length_cons, List.length_nil, List.drop_zero, List.drop_succ_cons, List.take_succ_cons, List.take_zero, List.take_nil, true_and, and_true, Int.toNat_natCast, List.append_nil, List.nil_append, List.cons_append]
          exact nok fun h => by rw [h] at hi; simp at hi
        | true =>
          try simp (disch := first | assumption | omega | (simp only [Int.ofNat_eq_natCast, neg_one]; done) | (simp only [Int.ofNat_eq_natCast, neg_one]; omega)) only [tysW, w_bindJ, w_logJ, w_ct, w_cf, w_gtt, w_gft, w_gtf, w_gff, w_pt, w_pf, w_lret, w_e0, w_e1, w_e2, w_nil, w_fun, w_nt, w_nf, w_add, w_sub, w_eqt, w_eqf, w_net, w_nef, w_ltt, w_ltf, w_let, w_lef, w_gtt', w_gtf', w_get, w_gef, toNat_of, of_add, cast_add, nth_0, nth_s, Nat.zero_add, Nat.reduceAdd, Nat.reduceMul, Nat.add_zero, List.length_cons, List.length_nil, List.drop_zero, List.drop_succ_cons, List.take_succ_cons, List.take_zero, List.take_nil, true_and, and_true, Int.toNat_natCast, List.append_nil, List.nil_append, List.cons_append, ldB b1, clB b1, ldBL b1, clBL b1, ldB b2, clB b2, ldBL b2, clBL b2]
          refine ValS.go g2 hp (s63 (d := d) hN g2.fresh (g2.row hf r) (g2.row hf r') hl) fun h3 s3 g3 c3 => ?_
          try simp (disch := first | assumption | omega | (simp only [Int.ofNat_eq_natCast, neg_one]; done) | (simp only [Int.ofNat_eq_natCast, neg_one]; omega)) only [tysW, w_bindJ, w_logJ, w_ct, w_cf, w_gtt, w_gft, w_gtf, w_gff, w_pt, w_pf, w_lret, w_e0, w_e1, w_e2, w_nil, w_fun, w_nt, w_nf, w_add, w_sub, w_eqt, w_eqf, w_net, w_nef, w_ltt, w_ltf, w_let, w_lef, w_gtt', w_gtf', w_get, w_gef, toNat_of, of_add, cast_add, nth_0, nth_s, Nat.zero_add, Nat.reduceAdd, Nat.reduceMul, Nat.add_zero, List.length_cons, List.length_nil, List.drop_zero, List.drop_succ_cons, List.take_succ_cons, List.take_zero, List.take_nil, true_and, and_true, Int.toNat_natCast, List.append_nil, List.nil_append, List.cons_append]
          refine hk _ _ _ g3 ⟨_, rfl, ?_⟩
          rw [decide_eq_true_iff]
          obtain ⟨⟨a, b, c⟩, i, dt⟩ := e
          obtain ⟨⟨a', b', c'⟩, i', dt'⟩ := e'
          simp only at ha hb hc hi ⊢
          simp [ha, hb, hc, eq_of_beq hi]
      · try simp (disch := first | assumption | omega | (simp only [Int.ofNat_eq_natCast, neg_one]; done) | (simp only [Int.ofNat_eq_natCast, neg_one]; omega)) only [tysW, w_bindJ, w_logJ, w_ct, w_cf, w_gtt, w_gft, w_gtf, w_gff, w_pt, w_pf, w_lret, w_e0, w_e1, w_e2, w_nil, w_fun, w_nt, w_nf, w_add, w_sub, w_eqt, w_eqf, w_net, w_nef, w_ltt, w_ltf, w_let, w_lef, w_gtt', w_gtf', w_get, w_gef, toNat_of, of_add, cast_add, nth_0, nth_s, Nat.zero_add, Nat.reduceAdd, Nat.reduceMul, Nat.add_zero, List.length_cons, List.length_nil, List.drop_zero, List.drop_succ_cons, List.take_succ_cons, List.take_zero, List.take_nil, true_and, and_true, Int.toNat_natCast, List.append_nil, List.nil_append, List.cons_append, ldB b1, clB b1, ldBL b1, clBL b1, ldB b2, clB b2, ldBL b2, clBL b2]
        unfold X35_1
        try simp (disch := first | assumption | omega | (simp only [Int.ofNat_eq_natCast, neg_one]; done) | (simp only [Int.ofNat_eq_natCast, neg_one]; omega)) only [tysW, w_bindJ, w_logJ, w_ct, w_cf, w_gtt, w_gft, w_gtf, w_gff, w_pt, w_pf, w_lret, w_e0, w_e1, w_e2, w_nil, w_fun, w_nt, w_nf, w_add, w_sub, w_eqt, w_eqf, w_net, w_nef, w_ltt, w_ltf, w_let, w_lef, w_gtt', w_gtf', w_get, w_gef, toNat_of, of_add, cast_add, nth_0, nth_s, Nat.zero_add, Nat.reduceAdd, Nat.reduceMul, Nat.add_zero, List.length_cons, List.length_nil, List.drop_zero, List.drop_succ_cons, List.take_succ_cons, List.take_zero, List.take_nil, true_and, and_true, Int.toNat_natCast, List.append_nil, List.nil_append, List.cons_append]
        exact nok fun h => hc (by rw [h])
    · try simp (disch := first | assumption | omega | (simp only [Int.ofNat_eq_natCast, neg_one]; done) | (simp only [Int.ofNat_eq_natCast, neg_one]; omega)) only [tysW, w_bindJ, w_logJ, w_ct, w_cf, w_gtt, w_gft, w_gtf, w_gff, w_pt, w_pf, w_lret, w_e0, w_e1, w_e2, w_nil, w_fun, w_nt, w_nf, w_add, w_sub, w_eqt, w_eqf, w_net, w_nef, w_ltt, w_ltf, w_let, w_lef, w_gtt', w_gtf', w_get, w_gef, toNat_of, of_add, cast_add, nth_0, nth_s, Nat.zero_add, Nat.reduceAdd, Nat.reduceMul, Nat.add_zero, List.length_cons, List.length_nil, List.drop_zero, List.drop_succ_cons, List.take_succ_cons, List.take_zero, List.take_nil, true_and, and_true, Int.toNat_natCast, List.append_nil, List.nil_append, List.cons_append, ldB b1, clB b1, ldBL b1, clBL b1, ldB b2, clB b2, ldBL b2, clBL b2]
      unfold X35_1
      try simp (disch := first | assumption | omega | (simp only [Int.ofNat_eq_natCast, neg_one]; done) | (simp only [Int.ofNat_eq_natCast, neg_one]; omega)) only [tysW, w_bindJ, w_logJ, w_ct, w_cf, w_gtt, w_gft, w_gtf, w_gff, w_pt, w_pf, w_lret, w_e0, w_e1, w_e2, w_nil, w_fun, w_nt, w_nf, w_add, w_sub, w_eqt, w_eqf, w_net, w_nef, w_ltt, w_ltf, w_let, w_lef, w_gtt', w_gtf', w_get, w_gef, toNat_of, of_add, cast_add, nth_0, nth_s, Nat.zero_add, Nat.reduceAdd, Nat.reduceMul, Nat.add_zero, List.length_cons, List.length_nil, List.drop_zero, List.drop_succ_cons, List.take_succ_cons, List.take_zero, List.take_nil, true_and, and_true, Int.toNat_natCast, List.append_nil, List.nil_append, List.cons_append]
      exact nok fun h => hb (by rw [h])
  · try simp (disch := first | assumption | omega | (simp only [Int.ofNat_eq_natCast, neg_one]; done) | (simp only [Int.ofNat_eq_natCast, neg_one]; omega)) only [tysW, w_bindJ, w_logJ, w_ct, w_cf, w_gtt, w_gft, w_gtf, w_gff, w_pt, w_pf, w_lret, w_e0, w_e1, w_e2, w_nil, w_fun, w_nt, w_nf, w_add, w_sub, w_eqt, w_eqf, w_net, w_nef, w_ltt, w_ltf, w_let, w_lef, w_gtt', w_gtf', w_get, w_gef, toNat_of, of_add, cast_add, nth_0, nth_s, Nat.zero_add, Nat.reduceAdd, Nat.reduceMul, Nat.add_zero, List.length_cons, List.length_nil, List.drop_zero, List.drop_succ_cons, List.take_succ_cons, List.take_zero, List.take_nil, true_and, and_true, Int.toNat_natCast, List.append_nil, List.nil_append, List.cons_append, ldB b1, clB b1, ldBL b1, clBL b1, ldB b2, clB b2, ldBL b2, clBL b2]
    unfold X35_1
    try simp (disch := first | assumption | omega | (simp only [Int.ofNat_eq_natCast, neg_one]; done) | (simp only [Int.ofNat_eq_natCast, neg_one]; omega)) only [tysW, w_bindJ, w_logJ, w_ct, w_cf, w_gtt, w_gft, w_gtf, w_gff, w_pt, w_pf, w_lret, w_e0, w_e1, w_e2, w_nil, w_fun, w_nt, w_nf, w_add, w_sub, w_eqt, w_eqf, w_net, w_nef, w_ltt, w_ltf, w_let, w_lef, w_gtt', w_gtf', w_get, w_gef, toNat_of, of_add, cast_add, nth_0, nth_s, Nat.zero_add, Nat.reduceAdd, Nat.reduceMul, Nat.add_zero, List.length_cons, List.length_nil, List.drop_zero, List.drop_succ_cons, List.take_succ_cons, List.take_zero, List.take_nil, true_and, and_true, Int.toNat_natCast, List.append_nil, List.nil_append, List.cons_append]
    exact nok fun h => ha (by rw [h])
theorem s44 {pl : Option Addr} {ln cl : Nat} {l : List EV} (rl : Row EE h pl ln l) (hl : ln ≤ 1000) {i : Nat} (hi : i < ln) : ValS (D N (d + 2)) 44 [.slice pl ln cl, vi i] h s (.bool (fr (l.map EV.k) i)) := by
  refine ValS.of hf fun K pw Z g hp hk => ?_
  rw [D_44]; unfold F44; rw [app2_eq]
  try simp (disch := first | assumption | omega | (simp only [Int.ofNat_eq_natCast, neg_one]; done) | (simp only [Int.ofNat_eq_natCast, neg_one]; omega)) only [tysW, w_bindJ, w_logJ, w_ct, w_cf, w_gtt, w_gft, w_gtf, w_gff, w_pt, w_pf, w_lret, w_e0, w_e1, w_e2, w_nil, w_fun, w_nt, w_nf, w_add, w_sub, w_eqt, w_eqf, w_net, w_nef, w_ltt, w_ltf, w_let, w_lef, w_gtt', w_gtf', w_get, w_gef, toNat_of, of_add, cast_add, nth_0, nth_s, Nat.zero_add, Nat.reduceAdd, Nat.reduceMul, Nat.add_zero, List.length_cons, List.length_nil, List.drop_zero, List.drop_succ_cons, List.take_succ_cons, List.take_zero, List.take_nil, true_and, and_true, Int.toNat_natCast, List.append_nil, List.nil_append, List.cons_append]
  obtain ⟨x, hx⟩ := get_some (l := l) (i := i) (by rw [rl.1]; omega)
  have hfr : fr (l.map EV.k) i = !((l.map EV.k).take i).any fun y => sameK y x.k := by unfold fr; rw [List.getElem?_map, hx]; rfl
  have loop : ∀ (B : (Value → Value → Nat → AM) → Value → Value → Nat → AM) (hB : ∀ H u i' s', B H u i' s' = X44_2 N (D N (d + 1)) K (vi i) (.slice pl ln cl) (fun s => K (.bool true) s) H u i' s') (m k : Nat) (u : Value) (h1 : T) (s1 : Nat), i - k < m → k ≤ i → From s h h1 s1 → (∀ j y, j < k → l[j]? = some y → sameK y.k x.k = false) →
      (loopJ m 2 (fun _ _ _ => AM.fail) B u (vi k) s1).wp pw Z h1 := by
    intro B hB m
    induction m with
    | zero => intro k u h1 s1 hm; omega
    | succ m ih =>
      intro k u h1 s1 hm hki g1 hno
      have r1 := g1.row hf rl
      rw [loopJ_succ, hB]
      unfold X44_2
      by_cases hlt : k < i
      · obtain ⟨y, hy⟩ := get_some (l := l) (i := k) (by rw [rl.1]; omega)
        try simp (disch := first | assumption | omega | (simp only [Int.ofNat_eq_natCast, neg_one]; done) | (simp only [Int.ofNat_eq_natCast, neg_one]; omega)) only [tysW, w_bindJ, w_logJ, w_ct, w_cf, w_gtt, w_gft, w_gtf, w_gff, w_pt, w_pf, w_lret, w_e0, w_e1, w_e2, w_nil, w_fun, w_nt, w_nf, w_add, w_sub, w_eqt, w_eqf, w_net, w_nef, w_ltt, w_ltf, w_let, w_lef, w_gtt', w_gtf', w_get, w_gef, toNat_of, of_add, cast_add, nth_0, nth_s, Nat.zero_add, Nat.reduceAdd, Nat.reduceMul, Nat.add_zero, List.length_cons, List.length_nil, List.drop_zero, List.drop_succ_cons, List.take_succ_cons, List.take_zero, List.take_nil, true_and, and_true, Int.toNat_natCast, List.append_nil, List.nil_append, List.cons_append, xaE r1 (j := (k : Int)) (by omega) (by omega), entAL r1 hy]
        refine ValS.goL g1 hp (s45 (d := d) g1.fresh y.k.a y.k.b y.k.c y.inp (.slice y.p y.n y.c)) fun h3 s3 ts3 ws3 g3 c3 hw3 ht3 => ?_
        have r3 := g3.row hf rl
        unfold X44_1
        try simp (disch := first | assumption | omega | (simp only [Int.ofNat_eq_natCast, neg_one]; done) | (simp only [Int.ofNat_eq_natCast, neg_one]; omega)) only [tysW, w_bindJ, w_logJ, w_ct, w_cf, w_gtt, w_gft, w_gtf, w_gff, w_pt, w_pf, w_lret, w_e0, w_e1, w_e2, w_nil, w_fun, w_nt, w_nf, w_add, w_sub, w_eqt, w_eqf, w_net, w_nef, w_ltt, w_ltf, w_let, w_lef, w_gtt', w_gtf', w_get, w_gef, toNat_of, of_add, cast_add, nth_0, nth_s, Nat.zero_add, Nat.reduceAdd, Nat.reduceMul, Nat.add_zero, List.length_cons, List.length_nil, List.drop_zero, List.drop_succ_cons, List.take_succ_cons, List.take_zero, List.take_nil, true_and, and_true, Int.toNat_natCast, List.append_nil, List.nil_append, List.cons_append, xaE r3 (j := (i : Int)) (by omega) (by omega), entAL r3 hx]
        refine ValS.goL g3 hp (s45 (d := d) g3.fresh x.k.a x.k.b x.k.c x.inp (.slice x.p x.n x.c)) fun h4 s4 ts4 ws4 g4 c4 hw4 ht4 => ?_
        have hpb : blk pl < s1 := r1.below g1.fresh (by omega)
        rw [eq_23, wp_guard, if_pos (by repeat' (first | exact dynOk_nil _ _ | refine dyn_skip' ?_ | refine dyn_cons ?_ ?_ | exact allF_nil _ _ | refine allF_cons ?_ ?_ | exact disj_below hw3 (by omega) | exact disjA hw3 (by omega) | exact disjB hw3 (by omega) | exact disjC hw3 (by assumption) | exact disjD (fun m hm => by have := hw3 m hm; omega) | exact disj_below ht3 (by omega) | exact disjA ht3 (by omega) | exact disjB ht3 (by omega) | exact disjC ht3 (by assumption) | exact disjD (fun m hm => by have := ht3 m hm; omega) | exact disj_below hw4 (by omega) | exact disjA hw4 (by omega) | exact disjB hw4 (by omega) | exact disjC hw4 (by assumption) | exact disjD (fun m hm => by have := hw4 m hm; omega) | exact disj_below ht4 (by omega) | exact disjA ht4 (by omega) | exact disjB ht4 (by omega) | exact disjC ht4 (by assumption) | exact disjD (fun m hm => by have := ht4 m hm; omega) | exact disjN _ | exact disj1 (by omega) | exact disj2 (by omega) | exact disj3 (by assumption) | exact disjC hw3 (fun m hm => by have := ht3 m hm; omega) | exact disjC hw3 (fun m hm => by have := hw4 m hm; omega) | exact disjC hw3 (fun m hm => by have := ht4 m hm; omega) | exact disjC ht3 (fun m hm => by have := hw3 m hm; omega) | exact disjC ht3 (fun m hm => by have := hw4 m hm; omega) | exact disjC ht3 (fun m hm => by have := ht4 m hm; omega) | exact disjC hw4 (fun m hm => by have := hw3 m hm; omega) | exact disjC hw4 (fun m hm => by have := ht3 m hm; omega) | exact disjC hw4 (fun m hm => by have := ht4 m hm; omega) | exact disjC ht4 (fun m hm => by have := hw3 m hm; omega) | exact disjC ht4 (fun m hm => by have := ht3 m hm; omega) | exact disjC ht4 (fun m hm => by have := hw4 m hm; omega))), show (⟨y.k.a, y.k.b, y.k.c⟩ : K3) = y.k from rfl, show (⟨x.k.a, x.k.b, x.k.c⟩ : K3) = x.k from rfl]
        cases hs : sameK y.k x.k with
        | true =>
          try simp (disch := first | assumption | omega | (simp only [Int.ofNat_eq_natCast, neg_one]; done) | (simp only [Int.ofNat_eq_natCast, neg_one]; omega)) only [tysW, w_bindJ, w_logJ, w_ct, w_cf, w_gtt, w_gft, w_gtf, w_gff, w_pt, w_pf, w_lret, w_e0, w_e1, w_e2, w_nil, w_fun, w_nt, w_nf, w_add, w_sub, w_eqt, w_eqf, w_net, w_nef, w_ltt, w_ltf, w_let, w_lef, w_gtt', w_gtf', w_get, w_gef, toNat_of, of_add, cast_add, nth_0, nth_s, Nat.zero_add, Nat.reduceAdd, Nat.reduceMul, Nat.add_zero, List.length_cons, List.length_nil, List.drop_zero, List.drop_succ_cons, List.take_succ_cons, List.take_zero, List.take_nil, true_and, and_true, Int.toNat_natCast, List.append_nil, List.nil_append, List.cons_append]
          rw [hfr, show (((l.map EV.k).take i).any fun y => sameK y x.k) = true by
            rw [List.any_eq_true]
            exact ⟨y.k, List.mem_of_getElem? (i := k) (by rw [List.getElem?_take, if_pos hlt, List.getElem?_map, hy]; rfl), hs⟩] at hk
          exact hk _ _ g4
        | false =>
          try simp (disch := first | assumption | omega | (simp only [Int.ofNat_eq_natCast, neg_one]; done) | (simp only [Int.ofNat_eq_natCast, neg_one]; omega)) only [tysW, w_bindJ, w_logJ, w_ct, w_cf, w_gtt, w_gft, w_gtf, w_gff, w_pt, w_pf, w_lret, w_e0, w_e1, w_e2, w_nil, w_fun, w_nt, w_nf, w_add, w_sub, w_eqt, w_eqf, w_net, w_nef, w_ltt, w_ltf, w_let, w_lef, w_gtt', w_gtf', w_get, w_gef, toNat_of, of_add, cast_add, nth_0, nth_s, Nat.zero_add, Nat.reduceAdd, Nat.reduceMul, Nat.add_zero, List.length_cons, List.length_nil, List.drop_zero, List.drop_succ_cons, List.take_succ_cons, List.take_zero, List.take_nil, true_and, and_true, Int.toNat_natCast, List.append_nil, List.nil_append, List.cons_append]
          exact ih (k + 1) u h4 s4 (by omega) (by omega) g4 fun j z hj hz => by
            rcases Nat.lt_or_ge j k with h6 | h6
            · exact hno j z h6 hz
            · rw [show j = k by omega, hy] at hz; cases hz; exact hs
      · obtain rfl : k = i := by omega
        try simp (disch := first | assumption | omega | (simp only [Int.ofNat_eq_natCast, neg_one]; done) | (simp only [Int.ofNat_eq_natCast, neg_one]; omega)) only [tysW, w_bindJ, w_logJ, w_ct, w_cf, w_gtt, w_gft, w_gtf, w_gff, w_pt, w_pf, w_lret, w_e0, w_e1, w_e2, w_nil, w_fun, w_nt, w_nf, w_add, w_sub, w_eqt, w_eqf, w_net, w_nef, w_ltt, w_ltf, w_let, w_lef, w_gtt', w_gtf', w_get, w_gef, toNat_of, of_add, cast_add, nth_0, nth_s, Nat.zero_add, Nat.reduceAdd, Nat.reduceMul, Nat.add_zero, List.length_cons, List.length_nil, List.drop_zero, List.drop_succ_cons, List.take_succ_cons, List.take_zero, List.take_nil, true_and, and_true, Int.toNat_natCast, List.append_nil, List.nil_append, List.cons_append]
        rw [hfr] at hk
        rw [show (((l.map EV.k).take k).any fun y => sameK y x.k) = false by
          rw [List.any_eq_false]
          intro y hy
          obtain ⟨j, hj⟩ := List.getElem?_of_mem hy
          rw [List.getElem?_take] at hj
          split at hj
          · rw [List.getElem?_map] at hj
            cases hz : l[j]? with
            | none => rw [hz] at hj; cases hj
            | some z => rw [hz] at hj; cases hj; simpa using hno j z (by assumption) hz
          · cases hj] at hk
        exact hk _ _ g1
  exact loop _ (fun _ _ _ _ => rfl) N 0 _ h s (by omega) (by omega) g fun j y hj => by omega
theorem s41 {rb q keep first : Nat} {bs : List Nat} {L : List EN} (r : RingAt h rb q keep first bs L) (hk2 : keep ≤ 1000) : PureS (D N (d + 2)) 41 [ptr rb] h s (fun v h' s' => ∃ p, v = .slice p L.length L.length ∧ OwnP h' s p L.length (ksE L)) := by
  refine PureS.of hf fun K pw Z g hp hk => ?_
  rw [D_41]; unfold F41; rw [app1_eq]
  refine ValS.go g hp (s57 (d := d) g.fresh r) fun h2 s2 g2 c2 => ?_
  have l2 := c2.le
  have r2 := r.from hf g2
  have rb2 := r2.box
  have hlen := r.len
  have hle := r.le
  try simp (disch := first | assumption | omega | (simp only [Int.ofNat_eq_natCast, neg_one]; done) | (simp only [Int.ofNat_eq_natCast, neg_one]; omega)) only [tysW, w_bindJ, w_logJ, w_ct, w_cf, w_gtt, w_gft, w_gtf, w_gff, w_pt, w_pf, w_lret, w_e0, w_e1, w_e2, w_nil, w_fun, w_nt, w_nf, w_add, w_sub, w_eqt, w_eqf, w_net, w_nef, w_ltt, w_ltf, w_let, w_lef, w_gtt', w_gtf', w_get, w_gef, toNat_of, of_add, cast_add, nth_0, nth_s, Nat.zero_add, Nat.reduceAdd, Nat.reduceMul, Nat.add_zero, List.length_cons, List.length_nil, List.drop_zero, List.drop_succ_cons, List.take_succ_cons, List.take_zero, List.take_nil, true_and, and_true, Int.toNat_natCast, List.append_nil, List.nil_append, List.cons_append, ldB rb2, clB rb2, ldBL rb2, clBL rb2]
  have loop : ∀ (B : (Value → Value → Nat → AM) → Value → Value → Nat → AM) (hB : ∀ H u i s', B H u i s' = X41_1 N (D N (d + 1)) K (vi bs.length) (ptr rb) (fun v3 s => K v3 s) H u i s') (m i : Nat) (p : Option Addr) (h1 : T) (s1 : Nat), bs.length - i < m → i ≤ bs.length → From s h h1 s1 → OwnP h1 s p i ((ksE L).take i) →
      (loopJ m 2 (fun _ _ _ => AM.fail) B (.slice p i i) (vi i) s1).wp pw Z h1 := by
    intro B hB m
    induction m with
    | zero => intro i p h1 s1 hm; omega
    | succ m ih =>
      intro i p h1 s1 hm hil g1 o1
      have l1 := g1.le
      have r1 := r.from hf g1
      rw [loopJ_succ, hB]
      unfold X41_1
      by_cases hlt : i < bs.length
      · obtain ⟨e, he⟩ := get_some (l := L) (i := i) (by omega)
        obtain ⟨bb, hbb, pp, cc, e1, e2, e3⟩ := r1.ent' he
        obtain ⟨cs, q1, q2, q3⟩ := r1.row
        try simp (disch := first | assumption | omega | (simp only [Int.ofNat_eq_natCast, neg_one]; done) | (simp only [Int.ofNat_eq_natCast, neg_one]; omega)) only [tysW, w_bindJ, w_logJ, w_ct, w_cf, w_gtt, w_gft, w_gtf, w_gff, w_pt, w_pf, w_lret, w_e0, w_e1, w_e2, w_nil, w_fun, w_nt, w_nf, w_add, w_sub, w_eqt, w_eqf, w_net, w_nef, w_ltt, w_ltf, w_let, w_lef, w_gtt', w_gtf', w_get, w_gef, toNat_of, of_add, cast_add, nth_0, nth_s, Nat.zero_add, Nat.reduceAdd, Nat.reduceMul, Nat.add_zero, List.length_cons, List.length_nil, List.drop_zero, List.drop_succ_cons, List.take_succ_cons, List.take_zero, List.take_nil, true_and, and_true, Int.toNat_natCast, List.append_nil, List.nil_append, List.cons_append]
        refine ValS.go g1 hp (s60 (d := d) g1.fresh r1 hk2 (i := i) (by omega)) fun h3 s3 g3 c3 => ?_
        have l3 := c3.le
        have q1' := c3.box q1 (lt_of_some g1.fresh ⟨_, q1⟩)
        have e1' := c3.box e1 (lt_of_some g1.fresh ⟨_, e1⟩)
        simp only [ev] at e1'
        try simp (disch := first | assumption | omega | (simp only [Int.ofNat_eq_natCast, neg_one]; done) | (simp only [Int.ofNat_eq_natCast, neg_one]; omega)) only [tysW, w_bindJ, w_logJ, w_ct, w_cf, w_gtt, w_gft, w_gtf, w_gff, w_pt, w_pf, w_lret, w_e0, w_e1, w_e2, w_nil, w_fun, w_nt, w_nf, w_add, w_sub, w_eqt, w_eqf, w_net, w_nef, w_ltt, w_ltf, w_let, w_lef, w_gtt', w_gtf', w_get, w_gef, toNat_of, of_add, cast_add, nth_0, nth_s, Nat.zero_add, Nat.reduceAdd, Nat.reduceMul, Nat.add_zero, List.length_cons, List.length_nil, List.drop_zero, List.drop_succ_cons, List.take_succ_cons, List.take_zero, List.take_nil, true_and, and_true, Int.toNat_natCast, List.append_nil, List.nil_append, List.cons_append]
        rw [ldB q1', nth_eq, q3 i bb hbb]
        dsimp only
        try simp (disch := first | assumption | omega | (simp only [Int.ofNat_eq_natCast, neg_one]; done) | (simp only [Int.ofNat_eq_natCast, neg_one]; omega)) only [tysW, w_bindJ, w_logJ, w_ct, w_cf, w_gtt, w_gft, w_gtf, w_gff, w_pt, w_pf, w_lret, w_e0, w_e1, w_e2, w_nil, w_fun, w_nt, w_nf, w_add, w_sub, w_eqt, w_eqf, w_net, w_nef, w_ltt, w_ltf, w_let, w_lef, w_gtt', w_gtf', w_get, w_gef, toNat_of, of_add, cast_add, nth_0, nth_s, Nat.zero_add, Nat.reduceAdd, Nat.reduceMul, Nat.add_zero, List.length_cons, List.length_nil, List.drop_zero, List.drop_succ_cons, List.take_succ_cons, List.take_zero, List.take_nil, true_and, and_true, Int.toNat_natCast, List.append_nil, List.nil_append, List.cons_append, ldB e1', clB e1', ldBL e1', clBL e1']
        refine ValS.go g3 hp (s45 (d := d) g3.fresh e.k.a e.k.b e.k.c e.inp (.slice pp e.data.length cc)) fun h4 s4 g4 c4 => ?_
        have l4 := c4.le
        simp only [kval, kv]
        try simp (disch := first | assumption | omega | (simp only [Int.ofNat_eq_natCast, neg_one]; done) | (simp only [Int.ofNat_eq_natCast, neg_one]; omega)) only [tysW, w_bindJ, w_logJ, w_ct, w_cf, w_gtt, w_gft, w_gtf, w_gff, w_pt, w_pf, w_lret, w_e0, w_e1, w_e2, w_nil, w_fun, w_nt, w_nf, w_add, w_sub, w_eqt, w_eqf, w_net, w_nef, w_ltt, w_ltf, w_let, w_lef, w_gtt', w_gtf', w_get, w_gef, toNat_of, of_add, cast_add, nth_0, nth_s, Nat.zero_add, Nat.reduceAdd, Nat.reduceMul, Nat.add_zero, List.length_cons, List.length_nil, List.drop_zero, List.drop_succ_cons, List.take_succ_cons, List.take_zero, List.take_nil, true_and, and_true, Int.toNat_natCast, List.append_nil, List.nil_append, List.cons_append]
        refine wp_newF g4 hp fun h5 g5 c5 b5 => ?_
        have o5 := (o1.from g1.fresh c3).from g3.fresh (c4.trans c5)
        have rr : Row EK h5 (some ⟨s4, 0, none⟩) 1 [e.k] := .of_cells b5 rfl
        try simp (disch := first | assumption | omega | (simp only [Int.ofNat_eq_natCast, neg_one]; done) | (simp only [Int.ofNat_eq_natCast, neg_one]; omega)) only [tysW, w_bindJ, w_logJ, w_ct, w_cf, w_gtt, w_gft, w_gtf, w_gff, w_pt, w_pf, w_lret, w_e0, w_e1, w_e2, w_nil, w_fun, w_nt, w_nf, w_add, w_sub, w_eqt, w_eqf, w_net, w_nef, w_ltt, w_ltf, w_let, w_lef, w_gtt', w_gtf', w_get, w_gef, toNat_of, of_add, cast_add, nth_0, nth_s, Nat.zero_add, Nat.reduceAdd, Nat.reduceMul, Nat.add_zero, List.length_cons, List.length_nil, List.drop_zero, List.drop_succ_cons, List.take_succ_cons, List.take_zero, List.take_nil, true_and, and_true, Int.toNat_natCast, List.append_nil, List.nil_append, List.cons_append]
        refine Sl.addK (E := EK) o5.sl rr (fun _ => rfl) (by decide) (by omega) (by omega) (g5.fresh _ (Nat.le_refl _)) (hp _ (by omega)) (fun m' o' sp e' => ?_) fun h6 b6 e6 => ?_
        · obtain ⟨_, ⟨rfl, _⟩ | ⟨n', rfl, y1, y2⟩⟩ := o5
          · cases e'
          · cases e'
            have := lt_of_some g5.fresh ⟨_, y2⟩
            exact ⟨hp _ y1, by omega, _, _, _, _, y2, .inr rfl⟩
        · have k6 : ∀ n, n < s → h6.get n = h5.get n := fun n hn => e6 n (fun hp' => by
            obtain ⟨_, ⟨rfl, _⟩ | ⟨n', rfl, y1, y2⟩⟩ := o5
            · exact absurd rfl hp'
            · show n ≠ n'; omega) (by omega)
          try simp (disch := first | assumption | omega | (simp only [Int.ofNat_eq_natCast, neg_one]; done) | (simp only [Int.ofNat_eq_natCast, neg_one]; omega)) only [tysW, w_bindJ, w_logJ, w_ct, w_cf, w_gtt, w_gft, w_gtf, w_gff, w_pt, w_pf, w_lret, w_e0, w_e1, w_e2, w_nil, w_fun, w_nt, w_nf, w_add, w_sub, w_eqt, w_eqf, w_net, w_nef, w_ltt, w_ltf, w_let, w_lef, w_gtt', w_gtf', w_get, w_gef, toNat_of, of_add, cast_add, nth_0, nth_s, Nat.zero_add, Nat.reduceAdd, Nat.reduceMul, Nat.add_zero, List.length_cons, List.length_nil, List.drop_zero, List.drop_succ_cons, List.take_succ_cons, List.take_zero, List.take_nil, true_and, and_true, Int.toNat_natCast, List.append_nil, List.nil_append, List.cons_append]
          refine ih (i + 1) _ h6 _ (by omega) (by omega) ⟨by omega, fun n hn => by rw [k6 n hn]; exact g5.keep n hn, fun n hn => ?_⟩ ⟨?_, .inr ⟨_, rfl, by omega, ?_⟩⟩
          · rw [e6 n (fun hp' => by
              obtain ⟨_, ⟨rfl, _⟩ | ⟨n', rfl, y1, y2⟩⟩ := o5
              · exact absurd rfl hp'
              · have := lt_of_some g5.fresh ⟨_, y2⟩; show n ≠ n'; omega) (by omega)]
            exact g5.fresh n (by omega)
          · rw [List.length_take, ks_len]; omega
          · rw [List.take_add_one, ks_get, he]; exact b6
      · obtain rfl : i = bs.length := by omega
        try simp (disch := first | assumption | omega | (simp only [Int.ofNat_eq_natCast, neg_one]; done) | (simp only [Int.ofNat_eq_natCast, neg_one]; omega)) only [tysW, w_bindJ, w_logJ, w_ct, w_cf, w_gtt, w_gft, w_gtf, w_gff, w_pt, w_pf, w_lret, w_e0, w_e1, w_e2, w_nil, w_fun, w_nt, w_nf, w_add, w_sub, w_eqt, w_eqf, w_net, w_nef, w_ltt, w_ltf, w_let, w_lef, w_gtt', w_gtf', w_get, w_gef, toNat_of, of_add, cast_add, nth_0, nth_s, Nat.zero_add, Nat.reduceAdd, Nat.reduceMul, Nat.add_zero, List.length_cons, List.length_nil, List.drop_zero, List.drop_succ_cons, List.take_succ_cons, List.take_zero, List.take_nil, true_and, and_true, Int.toNat_natCast, List.append_nil, List.nil_append, List.cons_append]
        rw [hlen, List.take_of_length_le (by rw [ks_len]; omega)] at o1
        rw [hlen]
        exact hk _ _ _ g1 ⟨p, rfl, o1⟩
  exact loop _ (fun _ _ _ _ => rfl) N 0 none h2 s2 (by omega) (by omega) g2 ⟨rfl, .inl ⟨rfl, rfl⟩⟩
end
end Go.Ev.R
namespace Go.Ev.R
open Go Go.RowKit
theorem ix_step {first keep j : Nat} (hf : first < keep) (hj : j + 1 < keep) : ix (ix first keep 1) keep j = ix first keep (j + 1) := by
  unfold ix
  repeat' split
  all_goals omega
section
variable {N d : Nat}
set_option maxHeartbeats 1000000 in
theorem s34 {h0 h : T} {s0 s rb q keep first b : Nat} {bs : List Nat} {e : EN} {L : List EN} (g : From s0 h0 h s) (hrb : s0 ≤ rb) (hq : s0 ≤ q) {pw : Nat → Prop} {Z : Value → T → Prop} (hp : ∀ n, s0 ≤ n → pw n) (r : RingAt h rb q keep first (b :: bs) (e :: L)) (hk2 : keep ≤ 1000) (hd : ∀ x ∈ e :: L, x.data.length ≤ 100000) {K : Value → Nat → AM}
    (hk : ∀ h' s' p', From s0 h0 h' s' → s ≤ s' → RingAt h' rb q keep (ix first keep 1) bs L → Sl EI h' p' e.data.length e.data.length e.data → (e.data.length ≠ 0 → s ≤ blk p') → (∀ n, n < s → n ≠ rb → n ≠ q → h'.get n = h.get n) → (K (.tuple ⟨[eval e p' e.data.length, vi 0]⟩) s').wp pw Z h') :
    (D N (d + 4) 34 [ptr rb] K s).wp pw Z h := by
  rw [D_34]; unfold F34; rw [app1_eq]
  unfold X34_2
  have hf := g.fresh
  have hsg := g.le
  have hrs : rb < s := lt_of_some hf ⟨_, r.box⟩
  have hqs : q < s := by obtain ⟨cs, q1, _⟩ := r.row; exact lt_of_some hf ⟨_, q1⟩
  have hfst := r.fst
  have hpos := r.pos
  have hle := r.le
  rw [List.length_cons] at hle
  try simp (disch := first | assumption | omega | (simp only [Int.ofNat_eq_natCast, neg_one]; done) | (simp only [Int.ofNat_eq_natCast, neg_one]; omega)) only [tysW, w_bindJ, w_logJ, w_ct, w_cf, w_gtt, w_gft, w_gtf, w_gff, w_pt, w_pf, w_lret, w_e0, w_e1, w_e2, w_nil, w_fun, w_nt, w_nf, w_add, w_sub, w_eqt, w_eqf, w_net, w_nef, w_ltt, w_ltf, w_let, w_lef, w_gtt', w_gtf', w_get, w_gef, toNat_of, of_add, cast_add, nth_0, nth_s, Nat.zero_add, Nat.reduceAdd, Nat.reduceMul, Nat.add_zero, List.length_cons, List.length_nil, List.drop_zero, List.drop_succ_cons, List.take_succ_cons, List.take_zero, List.take_nil, true_and, and_true, Int.toNat_natCast, List.append_nil, List.nil_append, List.cons_append]
  refine wp_boxA g hp fun h1 g1 c1 b1 => ?_
  have r1 := r.from hf c1
  try simp (disch := first | assumption | omega | (simp only [Int.ofNat_eq_natCast, neg_one]; done) | (simp only [Int.ofNat_eq_natCast, neg_one]; omega)) only [tysW, w_bindJ, w_logJ, w_ct, w_cf, w_gtt, w_gft, w_gtf, w_gff, w_pt, w_pf, w_lret, w_e0, w_e1, w_e2, w_nil, w_fun, w_nt, w_nf, w_add, w_sub, w_eqt, w_eqf, w_net, w_nef, w_ltt, w_ltf, w_let, w_lef, w_gtt', w_gtf', w_get, w_gef, toNat_of, of_add, cast_add, nth_0, nth_s, Nat.zero_add, Nat.reduceAdd, Nat.reduceMul, Nat.add_zero, List.length_cons, List.length_nil, List.drop_zero, List.drop_succ_cons, List.take_succ_cons, List.take_zero, List.take_nil, true_and, and_true, Int.toNat_natCast, List.append_nil, List.nil_append, List.cons_append]
  refine PureS.go g1 hp (s32 (d := d) g1.fresh r1 hk2 hd 0) fun v h2 s2 g2 c2 hv => ?_
  have l2 := c2.le
  rw [if_pos (by simp)] at hv
  obtain ⟨e', p', he, rfl, sl, hbl⟩ := hv
  obtain rfl : e = e' := by simpa using he
  replace b1 := c2.box b1 (by omega)
  have r2 := r1.from g1.fresh c2
  simp only [eval, ev]
  try simp (disch := first | assumption | omega | (simp only [Int.ofNat_eq_natCast, neg_one]; done) | (simp only [Int.ofNat_eq_natCast, neg_one]; omega)) only [tysW, w_bindJ, w_logJ, w_ct, w_cf, w_gtt, w_gft, w_gtf, w_gff, w_pt, w_pf, w_lret, w_e0, w_e1, w_e2, w_nil, w_fun, w_nt, w_nf, w_add, w_sub, w_eqt, w_eqf, w_net, w_nef, w_ltt, w_ltf, w_let, w_lef, w_gtt', w_gtf', w_get, w_gef, toNat_of, of_add, cast_add, nth_0, nth_s, Nat.zero_add, Nat.reduceAdd, Nat.reduceMul, Nat.add_zero, List.length_cons, List.length_nil, List.drop_zero, List.drop_succ_cons, List.take_succ_cons, List.take_zero, List.take_nil, true_and, and_true, Int.toNat_natCast, List.append_nil, List.nil_append, List.cons_append]
  refine wp_boxA g2 hp fun h3 g3 c3 b3 => ?_
  replace b1 := c3.box b1 (by omega)
  try simp (disch := first | assumption | omega | (simp only [Int.ofNat_eq_natCast, neg_one]; done) | (simp only [Int.ofNat_eq_natCast, neg_one]; omega)) only [tysW, w_bindJ, w_logJ, w_ct, w_cf, w_gtt, w_gft, w_gtf, w_gff, w_pt, w_pf, w_lret, w_e0, w_e1, w_e2, w_nil, w_fun, w_nt, w_nf, w_add, w_sub, w_eqt, w_eqf, w_net, w_nef, w_ltt, w_ltf, w_let, w_lef, w_gtt', w_gtf', w_get, w_gef, toNat_of, of_add, cast_add, nth_0, nth_s, Nat.zero_add, Nat.reduceAdd, Nat.reduceMul, Nat.add_zero, List.length_cons, List.length_nil, List.drop_zero, List.drop_succ_cons, List.take_succ_cons, List.take_zero, List.take_nil, true_and, and_true, Int.toNat_natCast, List.append_nil, List.nil_append, List.cons_append]
  refine wp_putF g3 hp b3 (by omega) (by exact Nat.le_refl 5) rfl fun h4 g4 b4 e4 => ?_
  simp only [overL] at b4
  replace b1 := (e4 s (by omega)).trans b1
  have sl4 : Sl EI h4 p' e.data.length e.data.length e.data := sl.but fun hc => by
    have := sl.lt g2.fresh hc
    rw [e4 _ (by omega), c3.keep _ (by omega)]
  have k4 : From s h h4 (s2 + 1) := ⟨by omega, fun n hn => by rw [e4 n (by omega), c3.keep n (by omega), c2.keep n (by omega), c1.keep n hn], g4.fresh⟩
  have r4 := r.from hf k4
  have rb4 := r4.box
  obtain ⟨cs, q1, q2, q3⟩ := r4.row
  have hx0 := ix_lt hfst (show 0 ≤ keep by omega)
  try simp (disch := first | assumption | omega | (simp only [Int.ofNat_eq_natCast, neg_one]; done) | (simp only [Int.ofNat_eq_natCast, neg_one]; omega)) only [tysW, w_bindJ, w_logJ, w_ct, w_cf, w_gtt, w_gft, w_gtf, w_gff, w_pt, w_pf, w_lret, w_e0, w_e1, w_e2, w_nil, w_fun, w_nt, w_nf, w_add, w_sub, w_eqt, w_eqf, w_net, w_nef, w_ltt, w_ltf, w_let, w_lef, w_gtt', w_gtf', w_get, w_gef, toNat_of, of_add, cast_add, nth_0, nth_s, Nat.zero_add, Nat.reduceAdd, Nat.reduceMul, Nat.add_zero, List.length_cons, List.length_nil, List.drop_zero, List.drop_succ_cons, List.take_succ_cons, List.take_zero, List.take_nil, true_and, and_true, Int.toNat_natCast, List.append_nil, List.nil_append, List.cons_append]
  refine ValS.go g4 hp (s60 (d := d + 2) g4.fresh r4 hk2 (i := 0) (by omega)) fun h5 s5 g5 c5 => ?_
  have l5 := c5.le
  replace b1 := c5.box b1 (by omega)
  replace b4 := c5.box b4 (by omega)
  replace rb4 := c5.box rb4 (by omega)
  replace q1 := c5.box q1 (by omega)
  have sl5 := sl4.from g4.fresh c5
  try simp (disch := first | assumption | omega | (simp only [Int.ofNat_eq_natCast, neg_one]; done) | (simp only [Int.ofNat_eq_natCast, neg_one]; omega)) only [tysW, w_bindJ, w_logJ, w_ct, w_cf, w_gtt, w_gft, w_gtf, w_gff, w_pt, w_pf, w_lret, w_e0, w_e1, w_e2, w_nil, w_fun, w_nt, w_nf, w_add, w_sub, w_eqt, w_eqf, w_net, w_nef, w_ltt, w_ltf, w_let, w_lef, w_gtt', w_gtf', w_get, w_gef, toNat_of, of_add, cast_add, nth_0, nth_s, Nat.zero_add, Nat.reduceAdd, Nat.reduceMul, Nat.add_zero, List.length_cons, List.length_nil, List.drop_zero, List.drop_succ_cons, List.take_succ_cons, List.take_zero, List.take_nil, true_and, and_true, Int.toNat_natCast, List.append_nil, List.nil_append, List.cons_append]
  refine wp_putF g5 hp q1 hq (by simp; omega) rfl fun h6 g6 b6 e6 => ?_
  rw [set_place _ _ _ (by omega)] at b6
  have rb6 := (e6 rb r.ne).trans rb4
  try simp (disch := first | assumption | omega | (simp only [Int.ofNat_eq_natCast, neg_one]; done) | (simp only [Int.ofNat_eq_natCast, neg_one]; omega)) only [tysW, w_bindJ, w_logJ, w_ct, w_cf, w_gtt, w_gft, w_gtf, w_gff, w_pt, w_pf, w_lret, w_e0, w_e1, w_e2, w_nil, w_fun, w_nt, w_nf, w_add, w_sub, w_eqt, w_eqf, w_net, w_nef, w_ltt, w_ltf, w_let, w_lef, w_gtt', w_gtf', w_get, w_gef, toNat_of, of_add, cast_add, nth_0, nth_s, Nat.zero_add, Nat.reduceAdd, Nat.reduceMul, Nat.add_zero, List.length_cons, List.length_nil, List.drop_zero, List.drop_succ_cons, List.take_succ_cons, List.take_zero, List.take_nil, true_and, and_true, Int.toNat_natCast, List.append_nil, List.nil_append, List.cons_append, ldB rb6, clB rb6, ldBL rb6, clBL rb6]
  unfold X34_1
  rw [w_rem _ _ _ _ _ _ _ _ _ _ _ (show (keep : Int) ≠ 0 by omega), show ((first + 1 : Nat) : Int) = (first : Int) + ((1 : Nat) : Int) by omega, ix_mod hfst (by omega)]
  try simp (disch := first | assumption | omega | (simp only [Int.ofNat_eq_natCast, neg_one]; done) | (simp only [Int.ofNat_eq_natCast, neg_one]; omega)) only [tysW, w_bindJ, w_logJ, w_ct, w_cf, w_gtt, w_gft, w_gtf, w_gff, w_pt, w_pf, w_lret, w_e0, w_e1, w_e2, w_nil, w_fun, w_nt, w_nf, w_add, w_sub, w_eqt, w_eqf, w_net, w_nef, w_ltt, w_ltf, w_let, w_lef, w_gtt', w_gtf', w_get, w_gef, toNat_of, of_add, cast_add, nth_0, nth_s, Nat.zero_add, Nat.reduceAdd, Nat.reduceMul, Nat.add_zero, List.length_cons, List.length_nil, List.drop_zero, List.drop_succ_cons, List.take_succ_cons, List.take_zero, List.take_nil, true_and, and_true, Int.toNat_natCast, List.append_nil, List.nil_append, List.cons_append]
  refine wp_putL g6 hp rb6 hrb (by simp) rfl fun h7 g7 b7 e7 => ?_
  simp only [overL] at b7
  try simp (disch := first | assumption | omega | (simp only [Int.ofNat_eq_natCast, neg_one]; done) | (simp only [Int.ofNat_eq_natCast, neg_one]; omega)) only [tysW, w_bindJ, w_logJ, w_ct, w_cf, w_gtt, w_gft, w_gtf, w_gff, w_pt, w_pf, w_lret, w_e0, w_e1, w_e2, w_nil, w_fun, w_nt, w_nf, w_add, w_sub, w_eqt, w_eqf, w_net, w_nef, w_ltt, w_ltf, w_let, w_lef, w_gtt', w_gtf', w_get, w_gef, toNat_of, of_add, cast_add, nth_0, nth_s, Nat.zero_add, Nat.reduceAdd, Nat.reduceMul, Nat.add_zero, List.length_cons, List.length_nil, List.drop_zero, List.drop_succ_cons, List.take_succ_cons, List.take_zero, List.take_nil, true_and, and_true, Int.toNat_natCast, List.append_nil, List.nil_append, List.cons_append, ldB b7, clB b7, ldBL b7, clBL b7]
  rw [show ((bs.length + 1 : Nat) : Int) - Int.ofNat 1 = (bs.length : Int) from by simp only [Int.ofNat_eq_natCast]; omega]
  refine wp_putF g7 hp b7 hrb (by simp) rfl fun h8 g8 b8 e8 => ?_
  simp only [overL] at b8
  have K8 : ∀ n, n ≠ rb → n ≠ q → h8.get n = h5.get n := fun n x1 x2 => by rw [e8 n x1, e7 n x1, e6 n x2]
  replace b1 := (K8 s (by omega) (by omega)).trans b1
  replace b4 := (K8 s2 (by omega) (by omega)).trans b4
  have sl8 : Sl EI h8 p' e.data.length e.data.length e.data := sl5.but fun hc => by
    have := hbl hc
    exact K8 _ (by omega) (by omega)
  try simp (disch := first | assumption | omega | (simp only [Int.ofNat_eq_natCast, neg_one]; done) | (simp only [Int.ofNat_eq_natCast, neg_one]; omega)) only [tysW, w_bindJ, w_logJ, w_ct, w_cf, w_gtt, w_gft, w_gtf, w_gff, w_pt, w_pf, w_lret, w_e0, w_e1, w_e2, w_nil, w_fun, w_nt, w_nf, w_add, w_sub, w_eqt, w_eqf, w_net, w_nef, w_ltt, w_ltf, w_let, w_lef, w_gtt', w_gtf', w_get, w_gef, toNat_of, of_add, cast_add, nth_0, nth_s, Nat.zero_add, Nat.reduceAdd, Nat.reduceMul, Nat.add_zero, List.length_cons, List.length_nil, List.drop_zero, List.drop_succ_cons, List.take_succ_cons, List.take_zero, List.take_nil, true_and, and_true, Int.toNat_natCast, List.append_nil, List.nil_append, List.cons_append, ldB b4, clB b4, ldBL b4, clBL b4]
  refine wp_putF g8 hp b1 (by omega) (by exact Nat.le_refl 5) rfl fun h9 g9 b9 e9 => ?_
  simp only [overL] at b9
  have sl9 : Sl EI h9 p' e.data.length e.data.length e.data := sl8.but fun hc => by
    have := hbl hc
    exact e9 _ (by omega)
  have K9 : ∀ n, n < s → n ≠ rb → n ≠ q → h9.get n = h.get n := fun n x1 x2 x3 => by rw [e9 n (by omega), K8 n x2 x3, c5.keep n (by omega)]; exact k4.keep n x1
  try simp (disch := first | assumption | omega | (simp only [Int.ofNat_eq_natCast, neg_one]; done) | (simp only [Int.ofNat_eq_natCast, neg_one]; omega)) only [tysW, w_bindJ, w_logJ, w_ct, w_cf, w_gtt, w_gft, w_gtf, w_gff, w_pt, w_pf, w_lret, w_e0, w_e1, w_e2, w_nil, w_fun, w_nt, w_nf, w_add, w_sub, w_eqt, w_eqf, w_net, w_nef, w_ltt, w_ltf, w_let, w_lef, w_gtt', w_gtf', w_get, w_gef, toNat_of, of_add, cast_add, nth_0, nth_s, Nat.zero_add, Nat.reduceAdd, Nat.reduceMul, Nat.add_zero, List.length_cons, List.length_nil, List.drop_zero, List.drop_succ_cons, List.take_succ_cons, List.take_zero, List.take_nil, true_and, and_true, Int.toNat_natCast, List.append_nil, List.nil_append, List.cons_append, ldB b9, clB b9, ldBL b9, clBL b9]
  refine hk h9 s5 p' g9 (by omega) ⟨?_, ⟨_, (e9 q (by omega)).trans ((e8 q (Ne.symm r.ne)).trans ((e7 q (Ne.symm r.ne)).trans b6)), by simpa using q2, fun i bb hb => ?_⟩, r.ne, hpos, ix_lt hfst (by omega), by omega, by have := r.len; simpa using this, fun i bb hb => ?_⟩ sl9 (fun hc => by have := hbl hc; omega) K9
  · rw [e9 rb (by omega)]; exact b8
  · have hi := (List.getElem?_eq_some_iff.1 hb).1
    rw [ix_step hfst (by omega), List.getElem?_set_ne (ix_ne hfst (by omega) (by omega) (by omega))]
    exact q3 (i + 1) bb (by rw [List.getElem?_cons_succ]; exact hb)
  · obtain ⟨x, y1, y2⟩ := r.ent (i + 1) bb (by rw [List.getElem?_cons_succ]; exact hb)
    obtain ⟨z1, z2⟩ := r.apart (i := i + 1) (b := bb) (by rw [List.getElem?_cons_succ]; exact hb)
    exact ⟨x, by rw [List.getElem?_cons_succ] at y1; exact y1, y2.but2 hf K9 z1 z2⟩
end
end Go.Ev.R
namespace Go.Ev.R
open Go Go.RowKit
/-- How many keys that are told first are such. -/
def cntF (q : K3 → Bool) (ks : List K3) : Nat → Nat
  | 0 => 0
  | i + 1 => cntF q ks i + (match ks[i]? with | some x => if fr ks i && q x then 1 else 0 | none => 0)
theorem at_mem {x : K3} {m : List K3} (h : atK x m = true) : x ∈ m := List.mem_of_getElem? (at_is h)
theorem fr_iff {ks : List K3} {i : Nat} {x : K3} (hx : ks[i]? = some x) : fr ks i = true ↔ ∀ j, j < i → ks[j]? ≠ some x := by
  unfold fr
  rw [hx]
  dsimp only
  rw [Bool.not_eq_true', List.any_eq_false]
  constructor
  · intro h j hj he
    exact h x (List.mem_of_getElem? (i := j) (by rw [List.getElem?_take, if_pos hj, he])) (same_iff.2 rfl)
  · intro h y hy hs
    obtain rfl := same_iff.1 hs
    obtain ⟨j, hj⟩ := List.getElem?_of_mem hy
    rw [List.getElem?_take] at hj
    split at hj
    · exact h j (by assumption) hj
    · cases hj
structure Inv (es : List EN) (i : Nat) (L : List EN) : Prop where
  rise : risingK (ksE L) = true
  cnt : ∀ q, cntF q (ksE es) i = L.countP (fun e => q e.k)
  mem : ∀ e ∈ L, ∃ j, j < i ∧ es[j]? = some e ∧ fr (ksE es) j = true
  has : ∀ j, j < i → ∀ e, es[j]? = some e → e.k ∈ ksE L
theorem Inv.zero (es : List EN) : Inv es 0 [] := ⟨rfl, fun _ => rfl, fun e he => by simp at he, fun j hj => by omega⟩
theorem Inv.many {es : List EN} {i : Nat} {L : List EN} (v : Inv es i L) : cntF (fun _ => true) (ksE es) i = L.length := by
  rw [v.cnt, List.countP_true]
theorem cnt_le (q : K3 → Bool) (ks : List K3) : ∀ i, cntF q ks i ≤ i
  | 0 => Nat.le_refl _
  | i + 1 => by
    have := cnt_le q ks i
    unfold cntF
    split
    · split <;> omega
    · omega
theorem Inv.at {es : List EN} {i : Nat} {L : List EN} (v : Inv es i L) {e : EN} (he : es[i]? = some e) : atK e.k (ksE L) = !fr (ksE es) i := by
  have hk : (ksE es)[i]? = some e.k := by rw [ks_get, he]; rfl
  cases hf : fr (ksE es) i with
  | true =>
    rw [fr_iff hk] at hf
    cases ha : atK e.k (ksE L) with
    | false => rfl
    | true =>
      exfalso
      obtain ⟨y, hy, hyk⟩ := List.mem_map.1 (at_mem ha)
      obtain ⟨j, hj, h1, _⟩ := v.mem y hy
      exact hf j hj (by rw [ks_get, h1, ← hyk]; rfl)
  | false =>
    have hn : ¬ ∀ j, j < i → (ksE es)[j]? ≠ some e.k := fun h => by rw [(fr_iff hk).2 h] at hf; cases hf
    obtain ⟨j, hj⟩ := Classical.not_forall.1 hn
    obtain ⟨hj, h2⟩ := Classical.not_imp.1 hj
    have h2 := Classical.not_not.1 h2
    rw [ks_get] at h2
    cases h3 : es[j]? with
    | none => rw [h3] at h2; cases h2
    | some y =>
      rw [h3] at h2
      have hm := v.has j hj y h3
      rw [show y.k = e.k from Option.some.inj h2] at hm
      rw [found v.rise hm]; rfl
theorem Inv.step {es : List EN} {i keep : Nat} {L : List EN} (v : Inv es i L) (hi : i < keep) {e : EN} (he : es[i]? = some e) : Inv es (i + 1) (insE keep e L).1 := by
  have hat := v.at he
  have hk : (ksE es)[i]? = some e.k := by rw [ks_get, he]; rfl
  have hlen : L.length ≤ i := by rw [← v.many]; exact cnt_le _ _ _
  cases hf : fr (ksE es) i with
  | false =>
    rw [hf] at hat
    have hin : (insE keep e L).1 = L := by unfold insE; rw [if_pos (by simpa using hat)]
    rw [hin]
    refine ⟨v.rise, fun q => ?_, fun x hx => ?_, fun j hj x hx => ?_⟩
    · rw [← v.cnt q]
      show cntF q (ksE es) i + _ = _
      rw [hk, hf]; rfl
    · obtain ⟨j, h1, h2⟩ := v.mem x hx
      exact ⟨j, by omega, h2⟩
    · rcases Nat.lt_or_ge j i with h6 | h6
      · exact v.has j h6 x hx
      · rw [show j = i by omega, he] at hx; cases hx; exact at_mem hat
  | true =>
    rw [hf] at hat
    have hin : (insE keep e L).1 = L.take (plK e.k (ksE L)) ++ e :: L.drop (plK e.k (ksE L)) := by unfold insE; rw [if_neg (by rw [hat]; simp), if_neg (by omega)]
    rw [hin]
    refine ⟨by rw [← hin]; exact ins_rising v.rise, fun q => ?_, fun x hx => ?_, fun j hj x hx => ?_⟩
    · show cntF q (ksE es) i + _ = _
      rw [hk, hf, v.cnt q, List.countP_append, List.countP_cons]
      have := List.countP_append (p := fun e => q e.k) (l₁ := L.take (plK e.k (ksE L))) (l₂ := L.drop (plK e.k (ksE L)))
      rw [List.take_append_drop] at this
      simp only [Bool.true_and]
      omega
    · rcases List.mem_append.1 hx with h | h
      · obtain ⟨j, h1, h2⟩ := v.mem x (List.mem_of_mem_take h)
        exact ⟨j, by omega, h2⟩
      · rcases List.mem_cons.1 h with rfl | h
        · exact ⟨i, by omega, he, hf⟩
        · obtain ⟨j, h1, h2⟩ := v.mem x (List.mem_of_mem_drop h)
          exact ⟨j, by omega, h2⟩
    · rcases Nat.lt_or_ge j i with h6 | h6
      · have := v.has j h6 x hx
        obtain ⟨y, h1, h2⟩ := List.mem_map.1 this
        refine List.mem_map.2 ⟨y, ?_, h2⟩
        rw [← List.take_append_drop (plK e.k (ksE L)) L] at h1
        rcases List.mem_append.1 h1 with h | h
        · exact List.mem_append.2 (.inl h)
        · exact List.mem_append.2 (.inr (List.mem_cons_of_mem _ h))
      · rw [show j = i by omega, he] at hx; cases hx
        exact List.mem_map.2 ⟨e, List.mem_append.2 (.inr (List.mem_cons_self ..)), rfl⟩
theorem less_asym {x y : K3} (h : lessK x y = true) : lessK y x = false := by
  cases h2 : lessK y x with
  | false => rfl
  | true => have := less_trans h h2; rw [less_self] at this; cases this
/-- How many have a greater key. -/
theorem greater {L : List EN} {k : K3} (hr : risingK (ksE L) = true) (hat : atK k (ksE L) = false) : L.countP (fun e => lessK k e.k) = L.length - plK k (ksE L) := by
  have hpl := pl_le k (ksE L)
  rw [ks_len] at hpl
  have h1 : (L.take (plK k (ksE L))).countP (fun e => lessK k e.k) = 0 := by
    rw [List.countP_eq_zero]
    intro e he
    obtain ⟨j, hj⟩ := List.getElem?_of_mem he
    rw [List.getElem?_take] at hj
    split at hj
    · rw [less_asym (pl_lt (x := k) (l := ksE L) (k := j) (by assumption) (by rw [ks_get, hj]; rfl))]; simp
    · cases hj
  have h2 : (L.drop (plK k (ksE L))).countP (fun e => lessK k e.k) = (L.drop (plK k (ksE L))).length := by
    rw [List.countP_eq_length]
    intro e he
    obtain ⟨j, hj⟩ := List.getElem?_of_mem he
    rw [List.getElem?_drop] at hj
    have hkj : (ksE L)[plK k (ksE L) + j]? = some e.k := by rw [ks_get, hj]; rfl
    obtain ⟨y, hy⟩ := get_some (l := ksE L) (i := plK k (ksE L)) (by have := (List.getElem?_eq_some_iff.1 hkj).1; omega)
    have h3 := pl_at hy
    have h4 : lessK k y = true := by
      have : sameK y k = false := by unfold atK at hat; rw [hy] at hat; exact hat
      rw [← less_iff, h3, this]; rfl
    rcases Nat.eq_or_lt_of_le (Nat.zero_le j) with h5 | h5
    · subst h5
      rw [Nat.add_zero, hy] at hkj
      cases hkj; exact h4
    · exact less_trans h4 (rise_lt hr hy (by omega) hkj)
  have := List.countP_append (p := fun e => lessK k e.k) (l₁ := L.take (plK k (ksE L))) (l₂ := L.drop (plK k (ksE L)))
  rw [List.take_append_drop, h1, h2, List.length_drop] at this
  omega
theorem rise_tail {e : EN} {L : List EN} (h : risingK (ksE (e :: L)) = true) : risingK (ksE L) = true := by
  refine upTo_of (fun i x y hx hy => ?_) _
  exact rise_lt h (i := i + 1) (j := i + 1 + 1) (by show (e.k :: ksE L)[i + 1]? = _; rw [List.getElem?_cons_succ]; exact hx) (by omega) (by show (e.k :: ksE L)[i + 1 + 1]? = _; rw [List.getElem?_cons_succ]; exact hy)
theorem rise_head {e x : EN} {L : List EN} (h : risingK (ksE (e :: L)) = true) (hx : L[0]? = some x) : lessK e.k x.k = true :=
  rise_lt h (i := 0) (x := e.k) rfl (j := 1) (y := x.k) (by omega) (by rw [ks_get, List.getElem?_cons_succ, hx]; rfl)
/-- What comes in, as entries. -/
def Rel (h : T) (x : EV) (e : EN) : Prop := x.k = e.k ∧ x.inp = e.inp ∧ x.n = e.data.length ∧ Sl EI h x.p x.n x.c e.data
theorem choose_E {h : T} : ∀ (l : List EV), (∀ x ∈ l, ∃ dt : List Int, x.n = dt.length ∧ Sl EI h x.p x.n x.c dt) → ∃ es : List EN, es.length = l.length ∧ ksE es = l.map EV.k ∧ ∀ (i : Nat) (x : EV), l[i]? = some x → ∃ e, es[i]? = some e ∧ Rel h x e
  | [], _ => ⟨[], rfl, rfl, fun i x hx => by simp at hx⟩
  | y :: l, hD => by
    obtain ⟨dt, h1, h2⟩ := hD y (List.mem_cons_self ..)
    obtain ⟨es, h3, h4, h5⟩ := choose_E l fun x hx => hD x (List.mem_cons_of_mem _ hx)
    refine ⟨⟨y.k, y.inp, dt⟩ :: es, by simp [h3], by show _ :: ksE es = _; rw [h4]; rfl, fun i x hx => ?_⟩
    cases i with
    | zero => cases hx; exact ⟨_, rfl, rfl, rfl, h1, h2⟩
    | succ i => exact h5 i x hx
end Go.Ev.R

/- The law AdmitKeeps, part 4: what the functions answer, by their terms. No condition. -/
import Derived.Test.YtnffkmnjpnlleaaAdmitKeepsP3
set_option linter.unusedVariables false
set_option linter.unusedSimpArgs false
set_option maxRecDepth 100000
namespace Go.Ev.R
open Go Go.RowKit
theorem D_9 (N d : Nat) (K : KV) (s : Nat) : D N (d + 1) 9 [] K s = K (.bool true) s := by kernel_rfl
/-- An act. -/
structure AC where
  t : Bool
  k : K3
def acv (x : AC) : List Value := [.bool x.t, vi x.k.a, vi x.k.b, vi x.k.c]
def EA : Enc AC := ⟨4, acv, by decide, fun _ => rfl⟩
section
variable {h : T} {p : Option Addr} {len : Nat} {l : List AC} (r : Row EA h p len l) {i : Nat} {x : AC} (hx : l[i]? = some x) {pw : Nat → Prop} {Z : Value → T → Prop}
include r hx
theorem actT (k : Value → Nat → AM) (s : Nat) : (aload (blk p) (off p + i * 4) k s).wp pw Z h = (k (.bool x.t) s).wp pw Z h := r.2.one (Row.fld (E := EA) (j := 0) hx rfl) k s
theorem actKL (q : List Value → Value) (j : LogT) (s : Nat) : (AM.log (acells (blk p) (off p + i * 4 + 1) 3 (fun l s => .ret (pk (q l) s)) s) (logU j)).wp pw Z h = (j (q (kv x.k)) [blk p] [] s).wp pw Z h := by
  rw [Nat.add_assoc, r.2.subL (by decide) (by have h0 : i * 4 + 4 ≤ len * 4 := r.fits (r.lt hx); show i * 4 + 1 + 3 ≤ len * 4; omega)]
  have h1 := EA.flat_at l i x hx
  have h2 : ((l.flatMap EA.f).drop (i * 4 + 1)).take 3 = kv x.k := by
    have h3 : (((l.flatMap EA.f).drop (i * 4)).take 4).drop 1 = kv x.k := by
      rw [show ((l.flatMap EA.f).drop (i * 4)).take 4 = EA.f x from h1]; rfl
    rw [List.drop_take, List.drop_drop] at h3
    exact h3
  rw [h2]
theorem actK (q : List Value → Nat → AM) (s : Nat) : (acells (blk p) (off p + i * 4 + 1) 3 q s).wp pw Z h = (q (kv x.k) s).wp pw Z h := by
  rw [Nat.add_assoc, r.2.sub (by decide) (by have h0 : i * 4 + 4 ≤ len * 4 := r.fits (r.lt hx); show i * 4 + 1 + 3 ≤ len * 4; omega)]
  have h1 := EA.flat_at l i x hx
  have h2 : ((l.flatMap EA.f).drop (i * 4 + 1)).take 3 = kv x.k := by
    have h3 : (((l.flatMap EA.f).drop (i * 4)).take 4).drop 1 = kv x.k := by
      rw [show ((l.flatMap EA.f).drop (i * 4)).take 4 = EA.f x from h1]; rfl
    rw [List.drop_take, List.drop_drop] at h3
    exact h3
  rw [h2]
end
theorem ne_self (x : K3) {pw : Nat → Prop} {Z : Value → T → Prop} {h : T} (k : Value → Nat → AM) (s : Nat) : (neX P 48 48 false false (kval x) (kval x) k s).wp pw Z h = (k (.bool false) s).wp pw Z h := by
  simp only [kval, kv]
  rw [nes_48]
  simp
theorem xaA {h : T} {p : Option Addr} {len : Nat} {l : List AC} (r : Row EA h p len l) {j : Int} (hj0 : 0 ≤ j) (hj : j < (len : Int)) (cap : Nat) (kd : IntKind) (k : Value → Nat → AM) (s : Nat) :
    M.opt (aindexAt P 75 (.slice p len cap) (.int kd j)) k s = k (.pointer (some ⟨blk p, off p + j.toNat * 4, none⟩)) s := r.2.xa (z := 4) xa0_75 (by decide) hj0 hj cap kd k s
section
variable {N d : Nat} {h : T} {s : Nat} (hf : ∀ n, s ≤ n → h.get n = none)
include hf
theorem s62o {p : Option Addr} {len cap : Nat} {l : List K3} (r : Sl EK h p len cap l) (hl : len ≤ 100000) : PureS (D N (d + 1)) 62 [.slice p len cap] h s (fun v h' s' => ∃ n f, v = .slice (some ⟨n, 0, none⟩) len len ∧ s ≤ n ∧ n < s' ∧ h'.get n = some (.cells ⟨l.flatMap kv⟩ 48 (f, 0)) ∧ (f = 0 ∨ f = 4)) := by
  refine PureS.of hf fun K pw Z g hp hk => ?_
  rw [D_62]; unfold F62; rw [app1_eq]
  try simp (disch := first | assumption | omega | (simp only [Int.ofNat_eq_natCast, neg_one]; done) | (simp only [Int.ofNat_eq_natCast, neg_one]; omega)) only [tysW, w_bindJ, w_logJ, w_ct, w_cf, w_gtt, w_gft, w_gtf, w_gff, w_pt, w_pf, w_lret, w_e0, w_e1, w_e2, w_nil, w_fun, w_nt, w_nf, w_add, w_sub, w_eqt, w_eqf, w_net, w_nef, w_ltt, w_ltf, w_let, w_lef, w_gtt', w_gtf', w_get, w_gef, toNat_of, of_add, cast_add, nth_0, nth_s, Nat.zero_add, Nat.reduceAdd, Nat.reduceMul, Nat.add_zero, List.length_cons, List.length_nil, List.drop_zero, List.drop_succ_cons, List.take_succ_cons, List.take_zero, List.take_nil, true_and, and_true, Int.toNat_natCast, List.append_nil, List.nil_append, List.cons_append]
  refine wp_newF g hp fun h1 g1 c1 b1 => ?_
  try simp (disch := first | assumption | omega | (simp only [Int.ofNat_eq_natCast, neg_one]; done) | (simp only [Int.ofNat_eq_natCast, neg_one]; omega)) only [tysW, w_bindJ, w_logJ, w_ct, w_cf, w_gtt, w_gft, w_gtf, w_gff, w_pt, w_pf, w_lret, w_e0, w_e1, w_e2, w_nil, w_fun, w_nt, w_nf, w_add, w_sub, w_eqt, w_eqf, w_net, w_nef, w_ltt, w_ltf, w_let, w_lef, w_gtt', w_gtf', w_get, w_gef, toNat_of, of_add, cast_add, nth_0, nth_s, Nat.zero_add, Nat.reduceAdd, Nat.reduceMul, Nat.add_zero, List.length_cons, List.length_nil, List.drop_zero, List.drop_succ_cons, List.take_succ_cons, List.take_zero, List.take_nil, true_and, and_true, Int.toNat_natCast, List.append_nil, List.nil_append, List.cons_append]
  by_cases h0 : len = 0
  · subst h0
    have hl0 := List.eq_nil_of_length_eq_zero r.row.1
    subst hl0
    exact wp_ap_none (by omega) (by omega) (hk _ _ _ g1 ⟨s, 0, rfl, Nat.le_refl _, by omega, b1, .inl rfl⟩)
  · have hrow := (r.from hf g1).row
    refine Sl.addK (E := EK) (l := []) (Sl.own (len := 0) b1 (.inl rfl) rfl) hrow (fun _ => rfl) h0 (by omega) (by omega) (g1.fresh _ (Nat.le_refl _)) (hp _ (by omega)) (fun m o sp e => ?_) fun h2 b2 e2 => ?_
    · cases e
      exact ⟨hp _ (Nat.le_refl _), by omega, _, _, _, _, b1, .inl rfl⟩
    · rw [Nat.zero_add]
      have g2 : From s h h2 (s + 1 + 1) := ⟨by omega, fun n hn => by rw [e2 n (fun _ => by show n ≠ s; omega) (by omega)]; exact g1.keep n hn, fun n hn => by rw [e2 n (fun _ => by show n ≠ s; omega) (by omega)]; exact g1.fresh n (by omega)⟩
      exact hk _ _ _ g2 ⟨s + 1, 4, rfl, by omega, by omega, b2, .inr rfl⟩
end
section
variable {N d : Nat} (hN : 100000 ≤ N) {h : T} {s : Nat} (hf : ∀ n, s ≤ n → h.get n = none)
include hN hf
set_option maxHeartbeats 4000000 in
theorem s10 (x : SU) (b0 : Int) {pa : Option Addr} {lena capa : Nat} {la : List AC} (ra : Row EA h pa lena la) : ValS (D N (d + 11)) 10 [suval x, vi b0, .slice pa lena capa] h s (.bool true) := by
  refine ValS.of hf fun K pw Z g hp hk => ?_
  rw [D_10]; unfold F10; rw [app3_eq]
  unfold X10_26
  refine wp_boxA g hp fun h1 g1 c1 b1 => ?_
  simp only [suv] at b1
  have done_ : ∀ h' s', From s h h' s' → (K (.bool true) s').wp pw Z h' := fun h' s' g' => hk _ _ g'
  by_cases h80 : (80 : Int) < (lena : Int)
  · try simp (disch := first | assumption | omega | (simp only [Int.ofNat_eq_natCast, neg_one]; done) | (simp only [Int.ofNat_eq_natCast, neg_one]; omega)) only [tysW, w_bindJ, w_logJ, w_ct, w_cf, w_gtt, w_gft, w_gtf, w_gff, w_pt, w_pf, w_lret, w_e0, w_e1, w_e2, w_nil, w_fun, w_nt, w_nf, w_add, w_sub, w_eqt, w_eqf, w_net, w_nef, w_ltt, w_ltf, w_let, w_lef, w_gtt', w_gtf', w_get, w_gef, toNat_of, of_add, cast_add, nth_0, nth_s, Nat.zero_add, Nat.reduceAdd, Nat.reduceMul, Nat.add_zero, List.length_cons, List.length_nil, List.drop_zero, List.drop_succ_cons, List.take_succ_cons, List.take_zero, List.take_nil, true_and, and_true, Int.toNat_natCast, List.append_nil, List.nil_append, List.cons_append, D_9]
    exact done_ _ _ g1
  try simp (disch := first | assumption | omega | (simp only [Int.ofNat_eq_natCast, neg_one]; done) | (simp only [Int.ofNat_eq_natCast, neg_one]; omega)) only [tysW, w_bindJ, w_logJ, w_ct, w_cf, w_gtt, w_gft, w_gtf, w_gff, w_pt, w_pf, w_lret, w_e0, w_e1, w_e2, w_nil, w_fun, w_nt, w_nf, w_add, w_sub, w_eqt, w_eqf, w_net, w_nef, w_ltt, w_ltf, w_let, w_lef, w_gtt', w_gtf', w_get, w_gef, toNat_of, of_add, cast_add, nth_0, nth_s, Nat.zero_add, Nat.reduceAdd, Nat.reduceMul, Nat.add_zero, List.length_cons, List.length_nil, List.drop_zero, List.drop_succ_cons, List.take_succ_cons, List.take_zero, List.take_nil, true_and, and_true, Int.toNat_natCast, List.append_nil, List.nil_append, List.cons_append, ldB b1, clB b1, ldBL b1, clBL b1, D_9]
  refine ValS.go g1 hp (s58 (d := d + 8) g1.fresh x) fun h2 s2 g2 c2 => ?_
  have l2 := c2.le
  replace b1 := c2.box b1 (by omega)
  have kb1 := pick_rng (x := x.keep) (n := 20) (by decide)
  have kb2 := pick_rng (x := x.horizon) (n := 100) (by decide)
  have kb3 := pick_rng (x := x.budget) (n := 6) (by decide)
  have kb4 := pick_rng (x := b0) (n := 101) (by decide)
  have hchk : chkS (smallS x) = true := by
    unfold chkS smallS
    simp only [wI, Bool.and_eq_true, decide_eq_true_eq]
    omega
  generalize hy : smallS x = y at *
  simp only [suval, suv]
  try simp (disch := first | assumption | omega | (simp only [Int.ofNat_eq_natCast, neg_one]; done) | (simp only [Int.ofNat_eq_natCast, neg_one]; omega)) only [tysW, w_bindJ, w_logJ, w_ct, w_cf, w_gtt, w_gft, w_gtf, w_gff, w_pt, w_pf, w_lret, w_e0, w_e1, w_e2, w_nil, w_fun, w_nt, w_nf, w_add, w_sub, w_eqt, w_eqf, w_net, w_nef, w_ltt, w_ltf, w_let, w_lef, w_gtt', w_gtf', w_get, w_gef, toNat_of, of_add, cast_add, nth_0, nth_s, Nat.zero_add, Nat.reduceAdd, Nat.reduceMul, Nat.add_zero, List.length_cons, List.length_nil, List.drop_zero, List.drop_succ_cons, List.take_succ_cons, List.take_zero, List.take_nil, true_and, and_true, Int.toNat_natCast, List.append_nil, List.nil_append, List.cons_append]
  refine wp_putF g2 hp b1 (by omega) (by simp) rfl fun h3 g3 b3 e3 => ?_
  simp only [overL] at b3
  try simp (disch := first | assumption | omega | (simp only [Int.ofNat_eq_natCast, neg_one]; done) | (simp only [Int.ofNat_eq_natCast, neg_one]; omega)) only [tysW, w_bindJ, w_logJ, w_ct, w_cf, w_gtt, w_gft, w_gtf, w_gff, w_pt, w_pf, w_lret, w_e0, w_e1, w_e2, w_nil, w_fun, w_nt, w_nf, w_add, w_sub, w_eqt, w_eqf, w_net, w_nef, w_ltt, w_ltf, w_let, w_lef, w_gtt', w_gtf', w_get, w_gef, toNat_of, of_add, cast_add, nth_0, nth_s, Nat.zero_add, Nat.reduceAdd, Nat.reduceMul, Nat.add_zero, List.length_cons, List.length_nil, List.drop_zero, List.drop_succ_cons, List.take_succ_cons, List.take_zero, List.take_nil, true_and, and_true, Int.toNat_natCast, List.append_nil, List.nil_append, List.cons_append]
  refine ValS.go g3 hp (s59 (d := d + 9) g3.fresh b0 101 (by decide)) fun h4 s4 g4 c4 => ?_
  have l4 := c4.le
  replace b3 := c4.box b3 (by omega)
  try simp (disch := first | assumption | omega | (simp only [Int.ofNat_eq_natCast, neg_one]; done) | (simp only [Int.ofNat_eq_natCast, neg_one]; omega)) only [tysW, w_bindJ, w_logJ, w_ct, w_cf, w_gtt, w_gft, w_gtf, w_gff, w_pt, w_pf, w_lret, w_e0, w_e1, w_e2, w_nil, w_fun, w_nt, w_nf, w_add, w_sub, w_eqt, w_eqf, w_net, w_nef, w_ltt, w_ltf, w_let, w_lef, w_gtt', w_gtf', w_get, w_gef, toNat_of, of_add, cast_add, nth_0, nth_s, Nat.zero_add, Nat.reduceAdd, Nat.reduceMul, Nat.add_zero, List.length_cons, List.length_nil, List.drop_zero, List.drop_succ_cons, List.take_succ_cons, List.take_zero, List.take_nil, true_and, and_true, Int.toNat_natCast, List.append_nil, List.nil_append, List.cons_append]
  refine wp_boxA g4 hp fun h5 g5 c5 b5 => ?_
  replace b3 := c5.box b3 (by omega)
  try simp (disch := first | assumption | omega | (simp only [Int.ofNat_eq_natCast, neg_one]; done) | (simp only [Int.ofNat_eq_natCast, neg_one]; omega)) only [tysW, w_bindJ, w_logJ, w_ct, w_cf, w_gtt, w_gft, w_gtf, w_gff, w_pt, w_pf, w_lret, w_e0, w_e1, w_e2, w_nil, w_fun, w_nt, w_nf, w_add, w_sub, w_eqt, w_eqf, w_net, w_nef, w_ltt, w_ltf, w_let, w_lef, w_gtt', w_gtf', w_get, w_gef, toNat_of, of_add, cast_add, nth_0, nth_s, Nat.zero_add, Nat.reduceAdd, Nat.reduceMul, Nat.add_zero, List.length_cons, List.length_nil, List.drop_zero, List.drop_succ_cons, List.take_succ_cons, List.take_zero, List.take_nil, true_and, and_true, Int.toNat_natCast, List.append_nil, List.nil_append, List.cons_append]
  refine wp_putF g5 hp b5 (by omega) (by simp) rfl fun h6 g6 b6 e6 => ?_
  simp only [overL] at b6
  replace b3 := (e6 s (by omega)).trans b3
  try simp (disch := first | assumption | omega | (simp only [Int.ofNat_eq_natCast, neg_one]; done) | (simp only [Int.ofNat_eq_natCast, neg_one]; omega)) only [tysW, w_bindJ, w_logJ, w_ct, w_cf, w_gtt, w_gft, w_gtf, w_gff, w_pt, w_pf, w_lret, w_e0, w_e1, w_e2, w_nil, w_fun, w_nt, w_nf, w_add, w_sub, w_eqt, w_eqf, w_net, w_nef, w_ltt, w_ltf, w_let, w_lef, w_gtt', w_gtf', w_get, w_gef, toNat_of, of_add, cast_add, nth_0, nth_s, Nat.zero_add, Nat.reduceAdd, Nat.reduceMul, Nat.add_zero, List.length_cons, List.length_nil, List.drop_zero, List.drop_succ_cons, List.take_succ_cons, List.take_zero, List.take_nil, true_and, and_true, Int.toNat_natCast, List.append_nil, List.nil_append, List.cons_append, ldB b6, clB b6, ldBL b6, clBL b6]
  obtain ⟨n, hn⟩ : ∃ n : Nat, y.keep = (n : Int) := Int.eq_ofNat_of_zero_le (by have := (chk_keep hchk).1; omega)
  have loop : ∀ (B : (Value → Value → Value → Value → Value → Nat → AM) → Value → Value → Value → Value → Value → Nat → AM) (hB : ∀ H u1 u2 u3 u4 i s', B H u1 u2 u3 u4 i s' = X10_25 N (D N (d + 10)) K (.slice pa lena capa) (.pointer (some ⟨s, 0, none⟩)) (.pointer (some ⟨s4, 0, none⟩)) (fun s => K (.bool true) s) H u1 u2 u3 u4 i s') (m i : Nat) (u : Value) (pall : Option Addr) (nall : Nat) (all : List K3) (low high base clean : Int) (p : Option Addr) (len : Nat) (l : List K3) (h1 : T) (s1 : Nat),
      lena - i < m → i ≤ lena → nall ≤ i → From s h h1 s1 → s4 < s1 → h1.get s = some (.cells ⟨[vi y.keep, vi y.horizon, vi y.ahead, vi y.budget, vi y.window]⟩ 43 (0, 0)) → h1.get s4 = some (.cells ⟨[vi base, .slice p len len, vi clean]⟩ 46 (0, 0)) →
      Sl EK h1 p len len l → fitsK y base clean l = true → Sl EK h1 pall nall nall all → risingK all = true → l = all.drop (all.length - n) → low ≤ floorK y base l → high = newK base l → (nall ≠ 0 → s4 < blk pall) →
      (loopJ m 5 (fun _ _ _ _ _ _ => AM.fail) B u (.slice pall nall nall) (vi low) (vi high) (vi i) s1).wp pw Z h1 := by
    intro B hB m
    induction m with
    | zero => intro i u pall nall all low high base clean p len l h1 s1 hm; omega
    | succ m ih =>
      intro i u pall nall all low high base clean p len l h1 s1 hm hil hni g1 hs1 B1 B2 r hfit rall hri hl hlow hhigh hab
      have hlen := r.row.1
      obtain ⟨f1, f2, f3, f4, f5, f6⟩ := fits_iff.1 hfit
      obtain ⟨q1, q2, q3, q4, q5, q6⟩ := chk_keep f1
      rw [hlen] at f3 f5
      have ra1 := g1.row hf ra
      rw [loopJ_succ, hB]
      unfold X10_25
      by_cases hlt : i < lena
      · obtain ⟨a, ha⟩ := get_some (l := la) (i := i) (by rw [ra.1]; omega)
        cases hat : a.t with
        | true =>
          try simp (disch := first | assumption | omega | (simp only [Int.ofNat_eq_natCast, neg_one]; done) | (simp only [Int.ofNat_eq_natCast, neg_one]; omega)) only [tysW, w_bindJ, w_logJ, w_ct, w_cf, w_gtt, w_gft, w_gtf, w_gff, w_pt, w_pf, w_lret, w_e0, w_e1, w_e2, w_nil, w_fun, w_nt, w_nf, w_add, w_sub, w_eqt, w_eqf, w_net, w_nef, w_ltt, w_ltf, w_let, w_lef, w_gtt', w_gtf', w_get, w_gef, toNat_of, of_add, cast_add, nth_0, nth_s, Nat.zero_add, Nat.reduceAdd, Nat.reduceMul, Nat.add_zero, List.length_cons, List.length_nil, List.drop_zero, List.drop_succ_cons, List.take_succ_cons, List.take_zero, List.take_nil, true_and, and_true, Int.toNat_natCast, List.append_nil, List.nil_append, List.cons_append, ldB B1, clB B1, ldBL B1, clBL B1, ldB B2, clB B2, ldBL B2, clBL B2, xaA ra1 (j := (i : Int)) (by omega) (by omega), actT ra1 ha, hat]
          refine PureS.go g1 hp (s43 (d := d + 3) hN g1.fresh y base clean r (by omega)) fun v h2 s2 g2 c2 hv => ?_
          rw [if_pos hfit] at hv
          obtain ⟨p2, rfl, ow⟩ := hv
          have l2 := c2.le
          replace B1 := c2.box B1 (by omega)
          replace B2 := c2.box B2 (by omega)
          have htn : tickN y clean len = min y.budget ((len : Int) - clean) := rfl
          simp only [shval, shv]
          try simp (disch := first | assumption | omega | (simp only [Int.ofNat_eq_natCast, neg_one]; done) | (simp only [Int.ofNat_eq_natCast, neg_one]; omega)) only [tysW, w_bindJ, w_logJ, w_ct, w_cf, w_gtt, w_gft, w_gtf, w_gff, w_pt, w_pf, w_lret, w_e0, w_e1, w_e2, w_nil, w_fun, w_nt, w_nf, w_add, w_sub, w_eqt, w_eqf, w_net, w_nef, w_ltt, w_ltf, w_let, w_lef, w_gtt', w_gtf', w_get, w_gef, toNat_of, of_add, cast_add, nth_0, nth_s, Nat.zero_add, Nat.reduceAdd, Nat.reduceMul, Nat.add_zero, List.length_cons, List.length_nil, List.drop_zero, List.drop_succ_cons, List.take_succ_cons, List.take_zero, List.take_nil, true_and, and_true, Int.toNat_natCast, List.append_nil, List.nil_append, List.cons_append]
          refine wp_boxA g2 hp fun h3 g3 c3 b3 => ?_
          replace B1 := c3.box B1 (by omega)
          replace B2 := c3.box B2 (by omega)
          try simp (disch := first | assumption | omega | (simp only [Int.ofNat_eq_natCast, neg_one]; done) | (simp only [Int.ofNat_eq_natCast, neg_one]; omega)) only [tysW, w_bindJ, w_logJ, w_ct, w_cf, w_gtt, w_gft, w_gtf, w_gff, w_pt, w_pf, w_lret, w_e0, w_e1, w_e2, w_nil, w_fun, w_nt, w_nf, w_add, w_sub, w_eqt, w_eqf, w_net, w_nef, w_ltt, w_ltf, w_let, w_lef, w_gtt', w_gtf', w_get, w_gef, toNat_of, of_add, cast_add, nth_0, nth_s, Nat.zero_add, Nat.reduceAdd, Nat.reduceMul, Nat.add_zero, List.length_cons, List.length_nil, List.drop_zero, List.drop_succ_cons, List.take_succ_cons, List.take_zero, List.take_nil, true_and, and_true, Int.toNat_natCast, List.append_nil, List.nil_append, List.cons_append]
          refine wp_putF g3 hp b3 (by omega) (by simp) rfl fun h4 g4 b4 e4 => ?_
          simp only [overL] at b4
          replace B1 := (e4 s (by omega)).trans B1
          replace B2 := (e4 s4 (by omega)).trans B2
          have ow4 : Own h4 s1 p2 len l := ow.but g2.fresh fun i hi hi' => by rw [e4 i (by omega), c3.keep i hi']
          have r4' : Sl EK h4 p len len l := (r.from g1.fresh (c2.trans c3)).but fun hc => e4 _ (by have := r.lt g1.fresh hc; omega)
          try simp (disch := first | assumption | omega | (simp only [Int.ofNat_eq_natCast, neg_one]; done) | (simp only [Int.ofNat_eq_natCast, neg_one]; omega)) only [tysW, w_bindJ, w_logJ, w_ct, w_cf, w_gtt, w_gft, w_gtf, w_gff, w_pt, w_pf, w_lret, w_e0, w_e1, w_e2, w_nil, w_fun, w_nt, w_nf, w_add, w_sub, w_eqt, w_eqf, w_net, w_nef, w_ltt, w_ltf, w_let, w_lef, w_gtt', w_gtf', w_get, w_gef, toNat_of, of_add, cast_add, nth_0, nth_s, Nat.zero_add, Nat.reduceAdd, Nat.reduceMul, Nat.add_zero, List.length_cons, List.length_nil, List.drop_zero, List.drop_succ_cons, List.take_succ_cons, List.take_zero, List.take_nil, true_and, and_true, Int.toNat_natCast, List.append_nil, List.nil_append, List.cons_append, ldB B1, clB B1, ldBL B1, clBL B1, ldB B2, clB B2, ldBL B2, clBL B2, blt_min]
          unfold X10_1
          try simp (disch := first | assumption | omega | (simp only [Int.ofNat_eq_natCast, neg_one]; done) | (simp only [Int.ofNat_eq_natCast, neg_one]; omega)) only [tysW, w_bindJ, w_logJ, w_ct, w_cf, w_gtt, w_gft, w_gtf, w_gff, w_pt, w_pf, w_lret, w_e0, w_e1, w_e2, w_nil, w_fun, w_nt, w_nf, w_add, w_sub, w_eqt, w_eqf, w_net, w_nef, w_ltt, w_ltf, w_let, w_lef, w_gtt', w_gtf', w_get, w_gef, toNat_of, of_add, cast_add, nth_0, nth_s, Nat.zero_add, Nat.reduceAdd, Nat.reduceMul, Nat.add_zero, List.length_cons, List.length_nil, List.drop_zero, List.drop_succ_cons, List.take_succ_cons, List.take_zero, List.take_nil, true_and, and_true, Int.toNat_natCast, List.append_nil, List.nil_append, List.cons_append, ldB b4, clB b4, ldBL b4, clBL b4, ldB B2, clB B2, ldBL B2, clBL B2]
          refine ValS.go g4 hp (s60 (d := d + 9) hN g4.fresh ow4.sl.row r4'.row (by omega)) fun h5 s5 g5 c5 => ?_
          have l5 := c5.le
          replace B1 := c5.box B1 (by omega)
          replace B2 := c5.box B2 (by omega)
          replace b4 := c5.box b4 (by omega)
          try simp (disch := first | assumption | omega | (simp only [Int.ofNat_eq_natCast, neg_one]; done) | (simp only [Int.ofNat_eq_natCast, neg_one]; omega)) only [tysW, w_bindJ, w_logJ, w_ct, w_cf, w_gtt, w_gft, w_gtf, w_gff, w_pt, w_pf, w_lret, w_e0, w_e1, w_e2, w_nil, w_fun, w_nt, w_nf, w_add, w_sub, w_eqt, w_eqf, w_net, w_nef, w_ltt, w_ltf, w_let, w_lef, w_gtt', w_gtf', w_get, w_gef, toNat_of, of_add, cast_add, nth_0, nth_s, Nat.zero_add, Nat.reduceAdd, Nat.reduceMul, Nat.add_zero, List.length_cons, List.length_nil, List.drop_zero, List.drop_succ_cons, List.take_succ_cons, List.take_zero, List.take_nil, true_and, and_true, Int.toNat_natCast, List.append_nil, List.nil_append, List.cons_append, ldB b4, clB b4, ldBL b4, clBL b4]
          refine wp_putF g5 hp B2 (by omega) (by simp) rfl fun h6 g6 b6 e6 => ?_
          simp only [overL] at b6
          try simp (disch := first | assumption | omega | (simp only [Int.ofNat_eq_natCast, neg_one]; done) | (simp only [Int.ofNat_eq_natCast, neg_one]; omega)) only [tysW, w_bindJ, w_logJ, w_ct, w_cf, w_gtt, w_gft, w_gtf, w_gff, w_pt, w_pf, w_lret, w_e0, w_e1, w_e2, w_nil, w_fun, w_nt, w_nf, w_add, w_sub, w_eqt, w_eqf, w_net, w_nef, w_ltt, w_ltf, w_let, w_lef, w_gtt', w_gtf', w_get, w_gef, toNat_of, of_add, cast_add, nth_0, nth_s, Nat.zero_add, Nat.reduceAdd, Nat.reduceMul, Nat.add_zero, List.length_cons, List.length_nil, List.drop_zero, List.drop_succ_cons, List.take_succ_cons, List.take_zero, List.take_nil, true_and, and_true, Int.toNat_natCast, List.append_nil, List.nil_append, List.cons_append]
          have ne4 : nall ≠ 0 → blk pall ≠ s4 := fun h => by have := hab h; omega
          have rall6 : Sl EK h6 pall nall nall all := (((rall.from g1.fresh (c2.trans c3)).but fun hc => e4 _ (by have := rall.lt g1.fresh hc; omega)).from g4.fresh c5).but fun hc => e6 _ (ne4 hc)
          have ow6 : Sl EK h6 p2 len len l := ((ow4.sl).from g4.fresh c5).but fun hc => e6 _ (by
            obtain ⟨_, ⟨_, z⟩ | ⟨n, f, z, z2, _⟩⟩ := ow4
            · exact absurd z hc
            · rw [z]; show n ≠ s4; omega)
          exact ih (i + 1) _ pall nall all low high base (clean + tickN y clean len) p2 len l h6 s5 (by omega) (by omega) (by omega) g6 (by omega) ((e6 s (by omega)).trans B1) b6 ow6 (fits_iff.2 ⟨f1, f2, by rw [hlen]; exact f3, f4, by rw [hlen]; omega, f6⟩) rall6 hri hl hlow hhigh hab
        | false =>
          try simp (disch := first | assumption | omega | (simp only [Int.ofNat_eq_natCast, neg_one]; done) | (simp only [Int.ofNat_eq_natCast, neg_one]; omega)) only [tysW, w_bindJ, w_logJ, w_ct, w_cf, w_gtt, w_gft, w_gtf, w_gff, w_pt, w_pf, w_lret, w_e0, w_e1, w_e2, w_nil, w_fun, w_nt, w_nf, w_add, w_sub, w_eqt, w_eqf, w_net, w_nef, w_ltt, w_ltf, w_let, w_lef, w_gtt', w_gtf', w_get, w_gef, toNat_of, of_add, cast_add, nth_0, nth_s, Nat.zero_add, Nat.reduceAdd, Nat.reduceMul, Nat.add_zero, List.length_cons, List.length_nil, List.drop_zero, List.drop_succ_cons, List.take_succ_cons, List.take_zero, List.take_nil, true_and, and_true, Int.toNat_natCast, List.append_nil, List.nil_append, List.cons_append, ldB B1, clB B1, ldBL B1, clBL B1, ldB B2, clB B2, ldBL B2, clBL B2, xaA ra1 (j := (i : Int)) (by omega) (by omega), actT ra1 ha, hat, actKL ra1 ha]
          have hpa : blk pa < s1 := ra1.below g1.fresh hlt
          unfold X10_24
          refine PureS.goL g1 hp (s41 (d := d + 1) hN g1.fresh y base clean r (by omega) a.k) fun v h2 s2 ts2 ws2 g2 c2 hv hw2 ht2 => ?_
          have l2 := c2.le
          have B1' := c2.box B1 (by omega)
          have B2' := c2.box B2 (by omega)
          by_cases hj : judgeK y base clean l a.k = 0
          case neg =>
            rw [if_neg hj] at hv
            subst hv
            simp only [shval, shv]
            try simp (disch := first | assumption | omega | (simp only [Int.ofNat_eq_natCast, neg_one]; done) | (simp only [Int.ofNat_eq_natCast, neg_one]; omega)) only [tysW, w_bindJ, w_logJ, w_ct, w_cf, w_gtt, w_gft, w_gtf, w_gff, w_pt, w_pf, w_lret, w_e0, w_e1, w_e2, w_nil, w_fun, w_nt, w_nf, w_add, w_sub, w_eqt, w_eqf, w_net, w_nef, w_ltt, w_ltf, w_let, w_lef, w_gtt', w_gtf', w_get, w_gef, toNat_of, of_add, cast_add, nth_0, nth_s, Nat.zero_add, Nat.reduceAdd, Nat.reduceMul, Nat.add_zero, List.length_cons, List.length_nil, List.drop_zero, List.drop_succ_cons, List.take_succ_cons, List.take_zero, List.take_nil, true_and, and_true, Int.toNat_natCast, List.append_nil, List.nil_append, List.cons_append]
            refine wp_boxL g2 hp fun h3 g3 c3 b3 => ?_
            try simp (disch := first | assumption | omega | (simp only [Int.ofNat_eq_natCast, neg_one]; done) | (simp only [Int.ofNat_eq_natCast, neg_one]; omega)) only [tysW, w_bindJ, w_logJ, w_ct, w_cf, w_gtt, w_gft, w_gtf, w_gff, w_pt, w_pf, w_lret, w_e0, w_e1, w_e2, w_nil, w_fun, w_nt, w_nf, w_add, w_sub, w_eqt, w_eqf, w_net, w_nef, w_ltt, w_ltf, w_let, w_lef, w_gtt', w_gtf', w_get, w_gef, toNat_of, of_add, cast_add, nth_0, nth_s, Nat.zero_add, Nat.reduceAdd, Nat.reduceMul, Nat.add_zero, List.length_cons, List.length_nil, List.drop_zero, List.drop_succ_cons, List.take_succ_cons, List.take_zero, List.take_nil, true_and, and_true, Int.toNat_natCast, List.append_nil, List.nil_append, List.cons_append]
            refine wp_putL g3 hp b3 (by omega) (by simp) rfl fun h4 g4 b4 e4 => ?_
            replace B1' := (e4 s (by omega)).trans (c3.box B1' (by omega))
            replace B2' := (e4 s4 (by omega)).trans (c3.box B2' (by omega))
            have k4 : From s1 h1 h4 (s2 + 1) := ⟨by omega, fun n hn => by rw [e4 n (by omega), c3.keep n (by omega), c2.keep n hn], g4.fresh⟩
            have ra4 := (k4.row g1.fresh ra1)
            unfold X10_23
            rw [wp_guard, if_pos (by repeat' (first | exact dynOk_nil _ _ | refine dyn_skip' ?_ | refine dyn_cons ?_ ?_ | exact allF_nil _ _ | refine allF_cons ?_ ?_ | exact disj_below hw2 (by omega) | exact disjA hw2 (by omega) | exact disjB hw2 (by omega) | exact disjC hw2 (by assumption) | exact disjD (fun m hm => by have := hw2 m hm; omega) | exact disj_below ht2 (by omega) | exact disjA ht2 (by omega) | exact disjB ht2 (by omega) | exact disjC ht2 (by assumption) | exact disjD (fun m hm => by have := ht2 m hm; omega) | exact disjN _ | exact disj1 (by omega) | exact disj2 (by omega) | exact disj3 (by assumption)))]
            try simp (disch := first | assumption | omega | (simp only [Int.ofNat_eq_natCast, neg_one]; done) | (simp only [Int.ofNat_eq_natCast, neg_one]; omega)) only [tysW, w_bindJ, w_logJ, w_ct, w_cf, w_gtt, w_gft, w_gtf, w_gff, w_pt, w_pf, w_lret, w_e0, w_e1, w_e2, w_nil, w_fun, w_nt, w_nf, w_add, w_sub, w_eqt, w_eqf, w_net, w_nef, w_ltt, w_ltf, w_let, w_lef, w_gtt', w_gtf', w_get, w_gef, toNat_of, of_add, cast_add, nth_0, nth_s, Nat.zero_add, Nat.reduceAdd, Nat.reduceMul, Nat.add_zero, List.length_cons, List.length_nil, List.drop_zero, List.drop_succ_cons, List.take_succ_cons, List.take_zero, List.take_nil, true_and, and_true, Int.toNat_natCast, List.append_nil, List.nil_append, List.cons_append, ldB B1', clB B1', ldBL B1', clBL B1', ldB B2', clB B2', ldBL B2', clBL B2', xaA ra4 (j := (i : Int)) (by omega) (by omega), actKL ra4 ha]
            unfold X10_22
            refine ValS.goL g4 hp (s30 (d := d + 2) hN g4.fresh y base clean (r.from g1.fresh k4) (by omega) a.k) fun h5 s5 ts5 ws5 g5 c5 hw5 ht5 => ?_
            have l5 := c5.le
            try simp (disch := first | assumption | omega | (simp only [Int.ofNat_eq_natCast, neg_one]; done) | (simp only [Int.ofNat_eq_natCast, neg_one]; omega)) only [tysW, w_bindJ, w_logJ, w_ct, w_cf, w_gtt, w_gft, w_gtf, w_gff, w_pt, w_pf, w_lret, w_e0, w_e1, w_e2, w_nil, w_fun, w_nt, w_nf, w_add, w_sub, w_eqt, w_eqf, w_net, w_nef, w_ltt, w_ltf, w_let, w_lef, w_gtt', w_gtf', w_get, w_gef, toNat_of, of_add, cast_add, nth_0, nth_s, Nat.zero_add, Nat.reduceAdd, Nat.reduceMul, Nat.add_zero, List.length_cons, List.length_nil, List.drop_zero, List.drop_succ_cons, List.take_succ_cons, List.take_zero, List.take_nil, true_and, and_true, Int.toNat_natCast, List.append_nil, List.nil_append, List.cons_append]
            have k5 := k4.trans c5
            exact ih (i + 1) _ pall nall all low high base clean p len l h5 s5 (by omega) (by omega) (by omega) g5 (by omega) (c5.box B1' (by omega)) (c5.box B2' (by omega)) (r.from g1.fresh k5) hfit (rall.from g1.fresh k5) hri hl hlow hhigh hab
          rw [if_pos hj] at hv
          obtain ⟨p2, rfl, ow⟩ := hv
          obtain ⟨pf1, pf2, pf3, pf4, pf5, pf6⟩ := put_fits hj
          obtain ⟨pa1, pa2, pa3⟩ := put_all hn hj hri hl
          have hrl : (restK y l).length ≤ len := by rw [← hlen]; unfold restK; split <;> simp
          have hpl := pl_le a.k (restK y l)
          have hcp : cleanP y clean l a.k ≤ (plK a.k (restK y l) : Int) := by unfold cleanP; omega
          generalize hl' : insK a.k (restK y l) = l' at *
          generalize hb' : baseP y base l = base' at *
          generalize hcl' : cleanP y clean l a.k = clean' at *
          generalize hat' : plK a.k (restK y l) = at' at *
          have hl'len : l'.length = (restK y l).length + 1 := by rw [← hl', ins_length]
          generalize hrn : (restK y l).length = rn at *
          have hl'at : l'[at']? = some a.k := by rw [← hl', ins_at, hat', if_neg (by omega), if_pos rfl]
          simp only [shval, shv]
          try simp (disch := first | assumption | omega | (simp only [Int.ofNat_eq_natCast, neg_one]; done) | (simp only [Int.ofNat_eq_natCast, neg_one]; omega)) only [tysW, w_bindJ, w_logJ, w_ct, w_cf, w_gtt, w_gft, w_gtf, w_gff, w_pt, w_pf, w_lret, w_e0, w_e1, w_e2, w_nil, w_fun, w_nt, w_nf, w_add, w_sub, w_eqt, w_eqf, w_net, w_nef, w_ltt, w_ltf, w_let, w_lef, w_gtt', w_gtf', w_get, w_gef, toNat_of, of_add, cast_add, nth_0, nth_s, Nat.zero_add, Nat.reduceAdd, Nat.reduceMul, Nat.add_zero, List.length_cons, List.length_nil, List.drop_zero, List.drop_succ_cons, List.take_succ_cons, List.take_zero, List.take_nil, true_and, and_true, Int.toNat_natCast, List.append_nil, List.nil_append, List.cons_append]
          refine wp_boxL g2 hp fun h3 g3 c3 b3 => ?_
          try simp (disch := first | assumption | omega | (simp only [Int.ofNat_eq_natCast, neg_one]; done) | (simp only [Int.ofNat_eq_natCast, neg_one]; omega)) only [tysW, w_bindJ, w_logJ, w_ct, w_cf, w_gtt, w_gft, w_gtf, w_gff, w_pt, w_pf, w_lret, w_e0, w_e1, w_e2, w_nil, w_fun, w_nt, w_nf, w_add, w_sub, w_eqt, w_eqf, w_net, w_nef, w_ltt, w_ltf, w_let, w_lef, w_gtt', w_gtf', w_get, w_gef, toNat_of, of_add, cast_add, nth_0, nth_s, Nat.zero_add, Nat.reduceAdd, Nat.reduceMul, Nat.add_zero, List.length_cons, List.length_nil, List.drop_zero, List.drop_succ_cons, List.take_succ_cons, List.take_zero, List.take_nil, true_and, and_true, Int.toNat_natCast, List.append_nil, List.nil_append, List.cons_append]
          refine wp_putL g3 hp b3 (by omega) (by simp) rfl fun h4 g4 b4 e4 => ?_
          simp only [overL] at b4
          replace B1' := (e4 s (by omega)).trans (c3.box B1' (by omega))
          replace B2' := (e4 s4 (by omega)).trans (c3.box B2' (by omega))
          have k4 : From s1 h1 h4 (s2 + 1) := ⟨by omega, fun n hn => by rw [e4 n (by omega), c3.keep n (by omega), c2.keep n hn], g4.fresh⟩
          have ra4 := (k4.row g1.fresh ra1)
          have ow4 : Own h4 s1 p2 (rn + 1) l' := ow.but g2.fresh fun i hi hi' => by rw [e4 i (by omega), c3.keep i hi']
          unfold X10_23
          rw [wp_guard, if_pos (by repeat' (first | exact dynOk_nil _ _ | refine dyn_skip' ?_ | refine dyn_cons ?_ ?_ | exact allF_nil _ _ | refine allF_cons ?_ ?_ | exact disj_below hw2 (by omega) | exact disjA hw2 (by omega) | exact disjB hw2 (by omega) | exact disjC hw2 (by assumption) | exact disjD (fun m hm => by have := hw2 m hm; omega) | exact disj_below ht2 (by omega) | exact disjA ht2 (by omega) | exact disjB ht2 (by omega) | exact disjC ht2 (by assumption) | exact disjD (fun m hm => by have := ht2 m hm; omega) | exact disjN _ | exact disj1 (by omega) | exact disj2 (by omega) | exact disj3 (by assumption)))]
          try simp (disch := first | assumption | omega | (simp only [Int.ofNat_eq_natCast, neg_one]; done) | (simp only [Int.ofNat_eq_natCast, neg_one]; omega)) only [tysW, w_bindJ, w_logJ, w_ct, w_cf, w_gtt, w_gft, w_gtf, w_gff, w_pt, w_pf, w_lret, w_e0, w_e1, w_e2, w_nil, w_fun, w_nt, w_nf, w_add, w_sub, w_eqt, w_eqf, w_net, w_nef, w_ltt, w_ltf, w_let, w_lef, w_gtt', w_gtf', w_get, w_gef, toNat_of, of_add, cast_add, nth_0, nth_s, Nat.zero_add, Nat.reduceAdd, Nat.reduceMul, Nat.add_zero, List.length_cons, List.length_nil, List.drop_zero, List.drop_succ_cons, List.take_succ_cons, List.take_zero, List.take_nil, true_and, and_true, Int.toNat_natCast, List.append_nil, List.nil_append, List.cons_append, ldB B1', clB B1', ldBL B1', clBL B1', ldB B2', clB B2', ldBL B2', clBL B2', xaA ra4 (j := (i : Int)) (by omega) (by omega), actKL ra4 ha]
          unfold X10_22
          refine ValS.goL g4 hp (s30 (d := d + 2) hN g4.fresh y base clean (r.from g1.fresh k4) (by omega) a.k) fun h5 s5 ts5 ws5 g5 c5 hw5 ht5 => ?_
          have l5 := c5.le
          rw [hj]
          have k5 := k4.trans c5
          have ra5 := (k5.row g1.fresh ra1)
          have ow5 := ow4.from g4.fresh c5
          have row5 := ow5.sl.row
          replace B1' := c5.box B1' (by omega)
          replace B2' := c5.box B2' (by omega)
          replace b4 := c5.box b4 (by omega)
          try simp (disch := first | assumption | omega | (simp only [Int.ofNat_eq_natCast, neg_one]; done) | (simp only [Int.ofNat_eq_natCast, neg_one]; omega)) only [tysW, w_bindJ, w_logJ, w_ct, w_cf, w_gtt, w_gft, w_gtf, w_gff, w_pt, w_pf, w_lret, w_e0, w_e1, w_e2, w_nil, w_fun, w_nt, w_nf, w_add, w_sub, w_eqt, w_eqf, w_net, w_nef, w_ltt, w_ltf, w_let, w_lef, w_gtt', w_gtf', w_get, w_gef, toNat_of, of_add, cast_add, nth_0, nth_s, Nat.zero_add, Nat.reduceAdd, Nat.reduceMul, Nat.add_zero, List.length_cons, List.length_nil, List.drop_zero, List.drop_succ_cons, List.take_succ_cons, List.take_zero, List.take_nil, true_and, and_true, Int.toNat_natCast, List.append_nil, List.nil_append, List.cons_append]
          unfold X10_21 X10_20
          try simp (disch := first | assumption | omega | (simp only [Int.ofNat_eq_natCast, neg_one]; done) | (simp only [Int.ofNat_eq_natCast, neg_one]; omega)) only [tysW, w_bindJ, w_logJ, w_ct, w_cf, w_gtt, w_gft, w_gtf, w_gff, w_pt, w_pf, w_lret, w_e0, w_e1, w_e2, w_nil, w_fun, w_nt, w_nf, w_add, w_sub, w_eqt, w_eqf, w_net, w_nef, w_ltt, w_ltf, w_let, w_lef, w_gtt', w_gtf', w_get, w_gef, toNat_of, of_add, cast_add, nth_0, nth_s, Nat.zero_add, Nat.reduceAdd, Nat.reduceMul, Nat.add_zero, List.length_cons, List.length_nil, List.drop_zero, List.drop_succ_cons, List.take_succ_cons, List.take_zero, List.take_nil, true_and, and_true, Int.toNat_natCast, List.append_nil, List.nil_append, List.cons_append, ldB b4, clB b4, ldBL b4, clBL b4]
          unfold X10_19 X10_18
          try simp (disch := first | assumption | omega | (simp only [Int.ofNat_eq_natCast, neg_one]; done) | (simp only [Int.ofNat_eq_natCast, neg_one]; omega)) only [tysW, w_bindJ, w_logJ, w_ct, w_cf, w_gtt, w_gft, w_gtf, w_gff, w_pt, w_pf, w_lret, w_e0, w_e1, w_e2, w_nil, w_fun, w_nt, w_nf, w_add, w_sub, w_eqt, w_eqf, w_net, w_nef, w_ltt, w_ltf, w_let, w_lef, w_gtt', w_gtf', w_get, w_gef, toNat_of, of_add, cast_add, nth_0, nth_s, Nat.zero_add, Nat.reduceAdd, Nat.reduceMul, Nat.add_zero, List.length_cons, List.length_nil, List.drop_zero, List.drop_succ_cons, List.take_succ_cons, List.take_zero, List.take_nil, true_and, and_true, Int.toNat_natCast, List.append_nil, List.nil_append, List.cons_append, ldB b4, clB b4, ldBL b4, clBL b4, xa3 row5 (j := (at' : Int)) (by omega) (by omega), row3L row5 hl'at]
          unfold X10_17
          try simp (disch := first | assumption | omega | (simp only [Int.ofNat_eq_natCast, neg_one]; done) | (simp only [Int.ofNat_eq_natCast, neg_one]; omega)) only [tysW, w_bindJ, w_logJ, w_ct, w_cf, w_gtt, w_gft, w_gtf, w_gff, w_pt, w_pf, w_lret, w_e0, w_e1, w_e2, w_nil, w_fun, w_nt, w_nf, w_add, w_sub, w_eqt, w_eqf, w_net, w_nef, w_ltt, w_ltf, w_let, w_lef, w_gtt', w_gtf', w_get, w_gef, toNat_of, of_add, cast_add, nth_0, nth_s, Nat.zero_add, Nat.reduceAdd, Nat.reduceMul, Nat.add_zero, List.length_cons, List.length_nil, List.drop_zero, List.drop_succ_cons, List.take_succ_cons, List.take_zero, List.take_nil, true_and, and_true, Int.toNat_natCast, List.append_nil, List.nil_append, List.cons_append, ldB b4, clB b4, ldBL b4, clBL b4, xaA ra5 (j := (i : Int)) (by omega) (by omega), actKL ra5 ha]
          rw [ne_self]
          unfold X10_16
          try simp (disch := first | assumption | omega | (simp only [Int.ofNat_eq_natCast, neg_one]; done) | (simp only [Int.ofNat_eq_natCast, neg_one]; omega)) only [tysW, w_bindJ, w_logJ, w_ct, w_cf, w_gtt, w_gft, w_gtf, w_gff, w_pt, w_pf, w_lret, w_e0, w_e1, w_e2, w_nil, w_fun, w_nt, w_nf, w_add, w_sub, w_eqt, w_eqf, w_net, w_nef, w_ltt, w_ltf, w_let, w_lef, w_gtt', w_gtf', w_get, w_gef, toNat_of, of_add, cast_add, nth_0, nth_s, Nat.zero_add, Nat.reduceAdd, Nat.reduceMul, Nat.add_zero, List.length_cons, List.length_nil, List.drop_zero, List.drop_succ_cons, List.take_succ_cons, List.take_zero, List.take_nil, true_and, and_true, Int.toNat_natCast, List.append_nil, List.nil_append, List.cons_append, ldB b4, clB b4, ldBL b4, clBL b4, ldB B2', clB B2', ldBL B2', clBL B2']
          unfold X10_15 X10_14
          try simp (disch := first | assumption | omega | (simp only [Int.ofNat_eq_natCast, neg_one]; done) | (simp only [Int.ofNat_eq_natCast, neg_one]; omega)) only [tysW, w_bindJ, w_logJ, w_ct, w_cf, w_gtt, w_gft, w_gtf, w_gff, w_pt, w_pf, w_lret, w_e0, w_e1, w_e2, w_nil, w_fun, w_nt, w_nf, w_add, w_sub, w_eqt, w_eqf, w_net, w_nef, w_ltt, w_ltf, w_let, w_lef, w_gtt', w_gtf', w_get, w_gef, toNat_of, of_add, cast_add, nth_0, nth_s, Nat.zero_add, Nat.reduceAdd, Nat.reduceMul, Nat.add_zero, List.length_cons, List.length_nil, List.drop_zero, List.drop_succ_cons, List.take_succ_cons, List.take_zero, List.take_nil, true_and, and_true, Int.toNat_natCast, List.append_nil, List.nil_append, List.cons_append, ldB b4, clB b4, ldBL b4, clBL b4, ldB B2', clB B2', ldBL B2', clBL B2']
          unfold X10_13
          try simp (disch := first | assumption | omega | (simp only [Int.ofNat_eq_natCast, neg_one]; done) | (simp only [Int.ofNat_eq_natCast, neg_one]; omega)) only [tysW, w_bindJ, w_logJ, w_ct, w_cf, w_gtt, w_gft, w_gtf, w_gff, w_pt, w_pf, w_lret, w_e0, w_e1, w_e2, w_nil, w_fun, w_nt, w_nf, w_add, w_sub, w_eqt, w_eqf, w_net, w_nef, w_ltt, w_ltf, w_let, w_lef, w_gtt', w_gtf', w_get, w_gef, toNat_of, of_add, cast_add, nth_0, nth_s, Nat.zero_add, Nat.reduceAdd, Nat.reduceMul, Nat.add_zero, List.length_cons, List.length_nil, List.drop_zero, List.drop_succ_cons, List.take_succ_cons, List.take_zero, List.take_nil, true_and, and_true, Int.toNat_natCast, List.append_nil, List.nil_append, List.cons_append, xaA ra5 (j := (i : Int)) (by omega) (by omega), actK ra5 ha]
          refine ValS.go g5 hp (s61 (d := d + 4) hN g5.fresh (rall.from g1.fresh k5).row (by omega) (rall.emp) a.k) fun h6 s6' g6' c6 => ?_
          have l6 := c6.le
          have k6 := k5.trans c6
          have ra6 := (k6.row g1.fresh ra1)
          have rall6 := rall.from g1.fresh k6
          have alen := rall.row.1
          have hpa' := pl_le a.k all
          replace B1' := c6.box B1' (by omega)
          replace B2' := c6.box B2' (by omega)
          replace b4 := c6.box b4 (by omega)
          have ow6 := ow5.from g5.fresh c6
          rw [find_rise hri]
          generalize hpq : plK a.k all = q at *
          try simp (disch := first | assumption | omega | (simp only [Int.ofNat_eq_natCast, neg_one]; done) | (simp only [Int.ofNat_eq_natCast, neg_one]; omega)) only [tysW, w_bindJ, w_logJ, w_ct, w_cf, w_gtt, w_gft, w_gtf, w_gff, w_pt, w_pf, w_lret, w_e0, w_e1, w_e2, w_nil, w_fun, w_nt, w_nf, w_add, w_sub, w_eqt, w_eqf, w_net, w_nef, w_ltt, w_ltf, w_let, w_lef, w_gtt', w_gtf', w_get, w_gef, toNat_of, of_add, cast_add, nth_0, nth_s, Nat.zero_add, Nat.reduceAdd, Nat.reduceMul, Nat.add_zero, List.length_cons, List.length_nil, List.drop_zero, List.drop_succ_cons, List.take_succ_cons, List.take_zero, List.take_nil, true_and, and_true, Int.toNat_natCast, List.append_nil, List.nil_append, List.cons_append]
          refine rall6.cutL (ab_to (i := q) (by omega) .i64) (by omega) (by omega) (by omega) (by omega) fun p7 ts7 r7 hb7 ht7 => ?_
          have ht7' : ∀ n ∈ ts7, n < s6' := fun n hn => (ht7 n hn).1 ▸ rall6.lt g6'.fresh (ht7 n hn).2
          simp only [Nat.sub_zero, List.drop_zero] at r7
          unfold X10_12
          try simp (disch := first | assumption | omega | (simp only [Int.ofNat_eq_natCast, neg_one]; done) | (simp only [Int.ofNat_eq_natCast, neg_one]; omega)) only [tysW, w_bindJ, w_logJ, w_ct, w_cf, w_gtt, w_gft, w_gtf, w_gff, w_pt, w_pf, w_lret, w_e0, w_e1, w_e2, w_nil, w_fun, w_nt, w_nf, w_add, w_sub, w_eqt, w_eqf, w_net, w_nef, w_ltt, w_ltf, w_let, w_lef, w_gtt', w_gtf', w_get, w_gef, toNat_of, of_add, cast_add, nth_0, nth_s, Nat.zero_add, Nat.reduceAdd, Nat.reduceMul, Nat.add_zero, List.length_cons, List.length_nil, List.drop_zero, List.drop_succ_cons, List.take_succ_cons, List.take_zero, List.take_nil, true_and, and_true, Int.toNat_natCast, List.append_nil, List.nil_append, List.cons_append, Nat.sub_zero]
          refine PureS.goL g6' hp (s62o (d := d + 9) g6'.fresh r7 (by omega)) fun v h8 s8 ts8 ws8 g8 c8 hv hw8 ht8 => ?_
          obtain ⟨n8, f8, rfl, n81, n82, b8, hf8⟩ := hv
          have l8 := c8.le
          have k8 := k6.trans c8
          have ra8 := (k8.row g1.fresh ra1)
          try simp (disch := first | assumption | omega | (simp only [Int.ofNat_eq_natCast, neg_one]; done) | (simp only [Int.ofNat_eq_natCast, neg_one]; omega)) only [tysW, w_bindJ, w_logJ, w_ct, w_cf, w_gtt, w_gft, w_gtf, w_gff, w_pt, w_pf, w_lret, w_e0, w_e1, w_e2, w_nil, w_fun, w_nt, w_nf, w_add, w_sub, w_eqt, w_eqf, w_net, w_nef, w_ltt, w_ltf, w_let, w_lef, w_gtt', w_gtf', w_get, w_gef, toNat_of, of_add, cast_add, nth_0, nth_s, Nat.zero_add, Nat.reduceAdd, Nat.reduceMul, Nat.add_zero, List.length_cons, List.length_nil, List.drop_zero, List.drop_succ_cons, List.take_succ_cons, List.take_zero, List.take_nil, true_and, and_true, Int.toNat_natCast, List.append_nil, List.nil_append, List.cons_append, xaA ra8 (j := (i : Int)) (by omega) (by omega), actKL ra8 ha]
          simp only [kv]
          try simp (disch := first | assumption | omega | (simp only [Int.ofNat_eq_natCast, neg_one]; done) | (simp only [Int.ofNat_eq_natCast, neg_one]; omega)) only [tysW, w_bindJ, w_logJ, w_ct, w_cf, w_gtt, w_gft, w_gtf, w_gff, w_pt, w_pf, w_lret, w_e0, w_e1, w_e2, w_nil, w_fun, w_nt, w_nf, w_add, w_sub, w_eqt, w_eqf, w_net, w_nef, w_ltt, w_ltf, w_let, w_lef, w_gtt', w_gtf', w_get, w_gef, toNat_of, of_add, cast_add, nth_0, nth_s, Nat.zero_add, Nat.reduceAdd, Nat.reduceMul, Nat.add_zero, List.length_cons, List.length_nil, List.drop_zero, List.drop_succ_cons, List.take_succ_cons, List.take_zero, List.take_nil, true_and, and_true, Int.toNat_natCast, List.append_nil, List.nil_append, List.cons_append]
          refine wp_newL (q := fun b => .slice (some ⟨b, 0, none⟩) 1 1) g8 hp fun h9 g9 c9 b9 => ?_
          have rk9 : Row EK h9 (some ⟨s8, 0, none⟩) 1 [a.k] := .of_cells b9 rfl
          have b8' := c9.box b8 n82
          have k9 := k8.trans c9
          unfold X10_11
          try simp (disch := first | assumption | omega | (simp only [Int.ofNat_eq_natCast, neg_one]; done) | (simp only [Int.ofNat_eq_natCast, neg_one]; omega)) only [tysW, w_bindJ, w_logJ, w_ct, w_cf, w_gtt, w_gft, w_gtf, w_gff, w_pt, w_pf, w_lret, w_e0, w_e1, w_e2, w_nil, w_fun, w_nt, w_nf, w_add, w_sub, w_eqt, w_eqf, w_net, w_nef, w_ltt, w_ltf, w_let, w_lef, w_gtt', w_gtf', w_get, w_gef, toNat_of, of_add, cast_add, nth_0, nth_s, Nat.zero_add, Nat.reduceAdd, Nat.reduceMul, Nat.add_zero, List.length_cons, List.length_nil, List.drop_zero, List.drop_succ_cons, List.take_succ_cons, List.take_zero, List.take_nil, true_and, and_true, Int.toNat_natCast, List.append_nil, List.nil_append, List.cons_append]
          have hq7 : (all.take q).length = q := by rw [List.length_take]; omega
          refine log_wp (W := fun n => s6' ≤ n) (Q := fun v h' s' => v = .slice (some ⟨s8 + 1, 0, none⟩) (q + 1) (q + 1) ∧ s' = s8 + 1 + 1 ∧ h'.get (s8 + 1) = some (.cells ⟨(all.take q ++ [a.k]).flatMap kv⟩ 48 (4, 0)) ∧ ∀ n, n ≠ n8 → n ≠ s8 + 1 → h'.get n = h9.get n) ?_ (fun n hn => hp n (by have := g6'.le; omega)) ?_
          · refine Sl.addK (E := EK) (Sl.own (E := EK) b8' hf8 hq7) rk9 (fun _ => rfl) (by decide) (by omega) (by omega) (g9.fresh _ (Nat.le_refl _)) (by omega) (fun m o sp e => ?_) fun h10 b10 e10 => ?_
            · cases e
              exact ⟨n81, by omega, _, _, _, _, b8', hf8⟩
            · exact ⟨_, _, rfl, rfl, rfl, b10, fun n h1 h2 => e10 n (fun _ => h1) h2⟩
          rintro v h10 s10 ts10 ws10 ⟨rfl, rfl, b10, e10⟩ hw10 ht10
          have g10 : From s h h10 (s8 + 1 + 1) := ⟨by have := g9.le; omega, fun n hn => by rw [e10 n (by have := g6'.le; omega) (by have := g9.le; omega)]; exact g9.keep n hn, fun n hn => by rw [e10 n (by omega) (by omega)]; exact g9.fresh n (by omega)⟩
          have k10 : From s1 h1 h10 (s8 + 1 + 1) := ⟨by omega, fun n hn => by rw [e10 n (by omega) (by omega)]; exact k9.keep n hn, g10.fresh⟩
          have rall10 := rall.from g1.fresh k10
          have m10 : ∀ n, n < s6' → h10.get n = h6.get n := fun n hn => by rw [e10 n (by omega) (by omega), c9.keep n (by omega), c8.keep n hn]
          try simp (disch := first | assumption | omega | (simp only [Int.ofNat_eq_natCast, neg_one]; done) | (simp only [Int.ofNat_eq_natCast, neg_one]; omega)) only [tysW, w_bindJ, w_logJ, w_ct, w_cf, w_gtt, w_gft, w_gtf, w_gff, w_pt, w_pf, w_lret, w_e0, w_e1, w_e2, w_nil, w_fun, w_nt, w_nf, w_add, w_sub, w_eqt, w_eqf, w_net, w_nef, w_ltt, w_ltf, w_let, w_lef, w_gtt', w_gtf', w_get, w_gef, toNat_of, of_add, cast_add, nth_0, nth_s, Nat.zero_add, Nat.reduceAdd, Nat.reduceMul, Nat.add_zero, List.length_cons, List.length_nil, List.drop_zero, List.drop_succ_cons, List.take_succ_cons, List.take_zero, List.take_nil, true_and, and_true, Int.toNat_natCast, List.append_nil, List.nil_append, List.cons_append]
          refine rall10.cutL (ab_from (i := q) (by omega) (Nat.le_refl _) .i64) (by omega) (Nat.le_refl _) (Nat.le_refl _) (Nat.le_refl _) fun p11 ts11 r11 hb11 ht11 => ?_
          have ht11' : ∀ n ∈ ts11, n < s6' := fun n hn => (ht11 n hn).1 ▸ rall6.lt g6'.fresh (ht11 n hn).2
          have hdr : ((all.drop q).take (nall - q)) = all.drop q := List.take_of_length_le (by simp; omega)
          rw [hdr] at r11
          have hins : all.take q ++ [a.k] ++ all.drop q = insK a.k all := by unfold insK; rw [hpq, List.append_assoc]; rfl
          have hin1 : (all.take q ++ [a.k]).length = q + 1 := by simp [hq7]
          have hw10' : ∀ n ∈ ws10, s6' ≤ n ∧ n < s8 + 1 + 1 := fun n hn => ⟨(hw10 n hn).1, lt_of_some g10.fresh (hw10 n hn).2⟩
          have ht10' : ∀ n ∈ ts10, n < s8 + 1 + 1 := fun n hn => lt_of_some g10.fresh (ht10 n hn)
          try simp (disch := first | assumption | omega | (simp only [Int.ofNat_eq_natCast, neg_one]; done) | (simp only [Int.ofNat_eq_natCast, neg_one]; omega)) only [tysW, w_bindJ, w_logJ, w_ct, w_cf, w_gtt, w_gft, w_gtf, w_gff, w_pt, w_pf, w_lret, w_e0, w_e1, w_e2, w_nil, w_fun, w_nt, w_nf, w_add, w_sub, w_eqt, w_eqf, w_net, w_nef, w_ltt, w_ltf, w_let, w_lef, w_gtt', w_gtf', w_get, w_gef, toNat_of, of_add, cast_add, nth_0, nth_s, Nat.zero_add, Nat.reduceAdd, Nat.reduceMul, Nat.add_zero, List.length_cons, List.length_nil, List.drop_zero, List.drop_succ_cons, List.take_succ_cons, List.take_zero, List.take_nil, true_and, and_true, Int.toNat_natCast, List.append_nil, List.nil_append, List.cons_append]
          refine log_wp (W := fun n => s6' ≤ n) (Q := fun v h' s' => ∃ m, v = .slice (some ⟨m, 0, none⟩) (nall + 1) (nall + 1) ∧ s8 + 1 ≤ m ∧ s8 + 1 + 1 ≤ s' ∧ (∀ n, s' ≤ n → h'.get n = none) ∧ h'.get m = some (.cells ⟨(insK a.k all).flatMap kv⟩ 48 (4, 0)) ∧ ∀ n, n < s8 + 1 → h'.get n = h10.get n) ?_ (fun n hn => hp n (by have := g6'.le; omega)) ?_
          · by_cases hz : nall - q = 0
            · rw [hz]
              refine wp_ap_none (by omega) (Nat.le_refl _) ?_
              refine ⟨_, _, rfl, s8 + 1, ?_, Nat.le_refl _, Nat.le_refl _, g10.fresh, ?_, fun n _ => rfl⟩
              · rw [show q = nall by omega]
              · rw [b10, ← hins, List.drop_eq_nil_of_le (by omega), List.append_nil]
            · refine Sl.addK (E := EK) (Sl.own (E := EK) b10 (.inr rfl) hin1) r11.row (fun _ => rfl) hz (by omega) (by omega) (g10.fresh _ (Nat.le_refl _)) (by omega) (fun m o sp e => ?_) fun h12 b12 e12 => ?_
              · cases e
                exact ⟨by omega, by omega, _, _, _, _, b10, .inr rfl⟩
              · refine ⟨_, _, rfl, s8 + 1 + 1, ?_, by omega, by omega, fun n hn => by rw [e12 n (fun _ => by show n ≠ s8 + 1; omega) (by omega)]; exact g10.fresh n (by omega), by rw [b12, hins]; rfl, fun n hn => e12 n (fun _ => by show n ≠ s8 + 1; omega) (by omega)⟩
                rw [show q + 1 + (nall - q) = nall + 1 by omega]
          rintro v h12 s12 ts12 ws12 ⟨m12, rfl, hm12, hs12, f12, b12, e12⟩ hw12 ht12
          have g12 : From s h h12 s12 := ⟨by have := g10.le; omega, fun n hn => by rw [e12 n (by have := g9.le; omega)]; exact g10.keep n hn, f12⟩
          have k12 : From s1 h1 h12 s12 := ⟨by omega, fun n hn => by rw [e12 n (by omega)]; exact k10.keep n hn, f12⟩
          have m12' : ∀ n, n < s6' → h12.get n = h6.get n := fun n hn => by rw [e12 n (by omega)]; exact m10 n hn
          have D1 := (m12' s (by omega)).trans B1'
          have D2 := (m12' s4 (by omega)).trans B2'
          have D4 := (m12' s2 (by omega)).trans b4
          have ow12 : Own h12 s1 p2 (rn + 1) l' := ow6.but g6'.fresh fun i _ hi' => m12' i hi'
          have hm12s : m12 < s12 := lt_of_some f12 ⟨_, b12⟩
          unfold X10_10
          rw [wp_guard, if_pos (by repeat' (first | exact dynOk_nil _ _ | refine dyn_skip' ?_ | refine dyn_cons ?_ ?_ | exact allF_nil _ _ | refine allF_cons ?_ ?_ | exact disj_below hw8 (by omega) | exact disjA hw8 (by omega) | exact disjB hw8 (by omega) | exact disjC hw8 (by assumption) | exact disjD (fun m hm => by have := hw8 m hm; omega) | exact disj_below ht8 (by omega) | exact disjA ht8 (by omega) | exact disjB ht8 (by omega) | exact disjC ht8 (by assumption) | exact disjD (fun m hm => by have := ht8 m hm; omega) | exact disj_below ht7' (by omega) | exact disjA ht7' (by omega) | exact disjB ht7' (by omega) | exact disjC ht7' (by assumption) | exact disjD (fun m hm => by have := ht7' m hm; omega) | exact disj_below ht11' (by omega) | exact disjA ht11' (by omega) | exact disjB ht11' (by omega) | exact disjC ht11' (by assumption) | exact disjD (fun m hm => by have := ht11' m hm; omega) | exact disj_below hw10' (by omega) | exact disjA hw10' (by omega) | exact disjB hw10' (by omega) | exact disjC hw10' (by assumption) | exact disjD (fun m hm => by have := hw10' m hm; omega) | exact disjN _ | exact disj1 (by omega) | exact disj2 (by omega) | exact disj3 (by assumption)))]
          try simp (disch := first | assumption | omega | (simp only [Int.ofNat_eq_natCast, neg_one]; done) | (simp only [Int.ofNat_eq_natCast, neg_one]; omega)) only [tysW, w_bindJ, w_logJ, w_ct, w_cf, w_gtt, w_gft, w_gtf, w_gff, w_pt, w_pf, w_lret, w_e0, w_e1, w_e2, w_nil, w_fun, w_nt, w_nf, w_add, w_sub, w_eqt, w_eqf, w_net, w_nef, w_ltt, w_ltf, w_let, w_lef, w_gtt', w_gtf', w_get, w_gef, toNat_of, of_add, cast_add, nth_0, nth_s, Nat.zero_add, Nat.reduceAdd, Nat.reduceMul, Nat.add_zero, List.length_cons, List.length_nil, List.drop_zero, List.drop_succ_cons, List.take_succ_cons, List.take_zero, List.take_nil, true_and, and_true, Int.toNat_natCast, List.append_nil, List.nil_append, List.cons_append, ldB D4, clB D4, ldBL D4, clBL D4]
          refine wp_putF g12 hp D2 (by omega) (by simp) rfl fun h13 g13 b13 e13 => ?_
          simp only [overL] at b13
          replace D1 := (e13 s (by omega)).trans D1
          have ow13 : Own h13 s1 p2 (rn + 1) l' := ow12.but f12 fun i hi hi' => e13 i (by omega)
          have b12' := (e13 m12 (by omega)).trans b12
          have ra13 : Row EA h13 pa lena la := ⟨ra1.1, (k12.row g1.fresh ra1).2.of_eq fun _ => e13 _ (by have := ra.below hf hlt; omega)⟩
          try simp (disch := first | assumption | omega | (simp only [Int.ofNat_eq_natCast, neg_one]; done) | (simp only [Int.ofNat_eq_natCast, neg_one]; omega)) only [tysW, w_bindJ, w_logJ, w_ct, w_cf, w_gtt, w_gft, w_gtf, w_gff, w_pt, w_pf, w_lret, w_e0, w_e1, w_e2, w_nil, w_fun, w_nt, w_nf, w_add, w_sub, w_eqt, w_eqf, w_net, w_nef, w_ltt, w_ltf, w_let, w_lef, w_gtt', w_gtf', w_get, w_gef, toNat_of, of_add, cast_add, nth_0, nth_s, Nat.zero_add, Nat.reduceAdd, Nat.reduceMul, Nat.add_zero, List.length_cons, List.length_nil, List.drop_zero, List.drop_succ_cons, List.take_succ_cons, List.take_zero, List.take_nil, true_and, and_true, Int.toNat_natCast, List.append_nil, List.nil_append, List.cons_append, ldB D1, clB D1, ldBL D1, clBL D1, ldB b13, clB b13, ldBL b13, clBL b13]
          refine ValS.go g13 hp (s33 (d := d + 3) hN g13.fresh y base' clean' ow13.sl (by omega)) fun h14 s14 g14 c14 => ?_
          rw [if_pos pf1]
          have l14 := c14.le
          replace D1 := c14.box D1 (by omega)
          replace b13 := c14.box b13 (by omega)
          replace b12' := c14.box b12' (by omega)
          have ow14 := ow13.from g13.fresh c14
          have hflow : ¬ floorK y base' l' < low := by omega
          have hfnew : ¬ newK base' l' < high := by omega
          try simp (disch := first | assumption | omega | (simp only [Int.ofNat_eq_natCast, neg_one]; done) | (simp only [Int.ofNat_eq_natCast, neg_one]; omega)) only [tysW, w_bindJ, w_logJ, w_ct, w_cf, w_gtt, w_gft, w_gtf, w_gff, w_pt, w_pf, w_lret, w_e0, w_e1, w_e2, w_nil, w_fun, w_nt, w_nf, w_add, w_sub, w_eqt, w_eqf, w_net, w_nef, w_ltt, w_ltf, w_let, w_lef, w_gtt', w_gtf', w_get, w_gef, toNat_of, of_add, cast_add, nth_0, nth_s, Nat.zero_add, Nat.reduceAdd, Nat.reduceMul, Nat.add_zero, List.length_cons, List.length_nil, List.drop_zero, List.drop_succ_cons, List.take_succ_cons, List.take_zero, List.take_nil, true_and, and_true, Int.toNat_natCast, List.append_nil, List.nil_append, List.cons_append]
          unfold X10_9
          try simp (disch := first | assumption | omega | (simp only [Int.ofNat_eq_natCast, neg_one]; done) | (simp only [Int.ofNat_eq_natCast, neg_one]; omega)) only [tysW, w_bindJ, w_logJ, w_ct, w_cf, w_gtt, w_gft, w_gtf, w_gff, w_pt, w_pf, w_lret, w_e0, w_e1, w_e2, w_nil, w_fun, w_nt, w_nf, w_add, w_sub, w_eqt, w_eqf, w_net, w_nef, w_ltt, w_ltf, w_let, w_lef, w_gtt', w_gtf', w_get, w_gef, toNat_of, of_add, cast_add, nth_0, nth_s, Nat.zero_add, Nat.reduceAdd, Nat.reduceMul, Nat.add_zero, List.length_cons, List.length_nil, List.drop_zero, List.drop_succ_cons, List.take_succ_cons, List.take_zero, List.take_nil, true_and, and_true, Int.toNat_natCast, List.append_nil, List.nil_append, List.cons_append, ldB b13, clB b13, ldBL b13, clBL b13]
          refine ValS.goL g14 hp (s49 (d := d + 9) g14.fresh base' clean' ow14.sl.row (by omega)) fun h15 s15 ts15 ws15 g15 c15 hw15 ht15 => ?_
          have l15 := c15.le
          replace D1 := c15.box D1 (by omega)
          replace b13 := c15.box b13 (by omega)
          replace b12' := c15.box b12' (by omega)
          have ow15 := ow14.from g14.fresh c15
          try simp (disch := first | assumption | omega | (simp only [Int.ofNat_eq_natCast, neg_one]; done) | (simp only [Int.ofNat_eq_natCast, neg_one]; omega)) only [tysW, w_bindJ, w_logJ, w_ct, w_cf, w_gtt, w_gft, w_gtf, w_gff, w_pt, w_pf, w_lret, w_e0, w_e1, w_e2, w_nil, w_fun, w_nt, w_nf, w_add, w_sub, w_eqt, w_eqf, w_net, w_nef, w_ltt, w_ltf, w_let, w_lef, w_gtt', w_gtf', w_get, w_gef, toNat_of, of_add, cast_add, nth_0, nth_s, Nat.zero_add, Nat.reduceAdd, Nat.reduceMul, Nat.add_zero, List.length_cons, List.length_nil, List.drop_zero, List.drop_succ_cons, List.take_succ_cons, List.take_zero, List.take_nil, true_and, and_true, Int.toNat_natCast, List.append_nil, List.nil_append, List.cons_append]
          unfold X10_8
          try simp (disch := first | assumption | omega | (simp only [Int.ofNat_eq_natCast, neg_one]; done) | (simp only [Int.ofNat_eq_natCast, neg_one]; omega)) only [tysW, w_bindJ, w_logJ, w_ct, w_cf, w_gtt, w_gft, w_gtf, w_gff, w_pt, w_pf, w_lret, w_e0, w_e1, w_e2, w_nil, w_fun, w_nt, w_nf, w_add, w_sub, w_eqt, w_eqf, w_net, w_nef, w_ltt, w_ltf, w_let, w_lef, w_gtt', w_gtf', w_get, w_gef, toNat_of, of_add, cast_add, nth_0, nth_s, Nat.zero_add, Nat.reduceAdd, Nat.reduceMul, Nat.add_zero, List.length_cons, List.length_nil, List.drop_zero, List.drop_succ_cons, List.take_succ_cons, List.take_zero, List.take_nil, true_and, and_true, Int.toNat_natCast, List.append_nil, List.nil_append, List.cons_append, ldB D1, clB D1, ldBL D1, clBL D1, ldB b13, clB b13, ldBL b13, clBL b13]
          unfold X10_7
          try simp (disch := first | assumption | omega | (simp only [Int.ofNat_eq_natCast, neg_one]; done) | (simp only [Int.ofNat_eq_natCast, neg_one]; omega)) only [tysW, w_bindJ, w_logJ, w_ct, w_cf, w_gtt, w_gft, w_gtf, w_gff, w_pt, w_pf, w_lret, w_e0, w_e1, w_e2, w_nil, w_fun, w_nt, w_nf, w_add, w_sub, w_eqt, w_eqf, w_net, w_nef, w_ltt, w_ltf, w_let, w_lef, w_gtt', w_gtf', w_get, w_gef, toNat_of, of_add, cast_add, nth_0, nth_s, Nat.zero_add, Nat.reduceAdd, Nat.reduceMul, Nat.add_zero, List.length_cons, List.length_nil, List.drop_zero, List.drop_succ_cons, List.take_succ_cons, List.take_zero, List.take_nil, true_and, and_true, Int.toNat_natCast, List.append_nil, List.nil_append, List.cons_append]
          refine ValS.goL g15 hp (s31 (d := d + 4) hN g15.fresh y base' clean' ow15.sl (by omega)) fun h16 s16 ts16 ws16 g16 c16 hw16 ht16 => ?_
          have l16 := c16.le
          replace D1 := c16.box D1 (by omega)
          replace b13 := c16.box b13 (by omega)
          replace b12' := c16.box b12' (by omega)
          have ow16 := ow15.from g15.fresh c16
          rw [pf1]
          try simp (disch := first | assumption | omega | (simp only [Int.ofNat_eq_natCast, neg_one]; done) | (simp only [Int.ofNat_eq_natCast, neg_one]; omega)) only [tysW, w_bindJ, w_logJ, w_ct, w_cf, w_gtt, w_gft, w_gtf, w_gff, w_pt, w_pf, w_lret, w_e0, w_e1, w_e2, w_nil, w_fun, w_nt, w_nf, w_add, w_sub, w_eqt, w_eqf, w_net, w_nef, w_ltt, w_ltf, w_let, w_lef, w_gtt', w_gtf', w_get, w_gef, toNat_of, of_add, cast_add, nth_0, nth_s, Nat.zero_add, Nat.reduceAdd, Nat.reduceMul, Nat.add_zero, List.length_cons, List.length_nil, List.drop_zero, List.drop_succ_cons, List.take_succ_cons, List.take_zero, List.take_nil, true_and, and_true, Int.toNat_natCast, List.append_nil, List.nil_append, List.cons_append, ldB b13, clB b13, ldBL b13, clBL b13, show errI true = 0 from rfl]
          unfold X10_6
          try simp (disch := first | assumption | omega | (simp only [Int.ofNat_eq_natCast, neg_one]; done) | (simp only [Int.ofNat_eq_natCast, neg_one]; omega)) only [tysW, w_bindJ, w_logJ, w_ct, w_cf, w_gtt, w_gft, w_gtf, w_gff, w_pt, w_pf, w_lret, w_e0, w_e1, w_e2, w_nil, w_fun, w_nt, w_nf, w_add, w_sub, w_eqt, w_eqf, w_net, w_nef, w_ltt, w_ltf, w_let, w_lef, w_gtt', w_gtf', w_get, w_gef, toNat_of, of_add, cast_add, nth_0, nth_s, Nat.zero_add, Nat.reduceAdd, Nat.reduceMul, Nat.add_zero, List.length_cons, List.length_nil, List.drop_zero, List.drop_succ_cons, List.take_succ_cons, List.take_zero, List.take_nil, true_and, and_true, Int.toNat_natCast, List.append_nil, List.nil_append, List.cons_append, ldB b13, clB b13, ldBL b13, clBL b13]
          unfold X10_5
          try simp (disch := first | assumption | omega | (simp only [Int.ofNat_eq_natCast, neg_one]; done) | (simp only [Int.ofNat_eq_natCast, neg_one]; omega)) only [tysW, w_bindJ, w_logJ, w_ct, w_cf, w_gtt, w_gft, w_gtf, w_gff, w_pt, w_pf, w_lret, w_e0, w_e1, w_e2, w_nil, w_fun, w_nt, w_nf, w_add, w_sub, w_eqt, w_eqf, w_net, w_nef, w_ltt, w_ltf, w_let, w_lef, w_gtt', w_gtf', w_get, w_gef, toNat_of, of_add, cast_add, nth_0, nth_s, Nat.zero_add, Nat.reduceAdd, Nat.reduceMul, Nat.add_zero, List.length_cons, List.length_nil, List.drop_zero, List.drop_succ_cons, List.take_succ_cons, List.take_zero, List.take_nil, true_and, and_true, Int.toNat_natCast, List.append_nil, List.nil_append, List.cons_append, ldB D1, clB D1, ldBL D1, clBL D1]
          unfold X10_4
          try simp (disch := first | assumption | omega | (simp only [Int.ofNat_eq_natCast, neg_one]; done) | (simp only [Int.ofNat_eq_natCast, neg_one]; omega)) only [tysW, w_bindJ, w_logJ, w_ct, w_cf, w_gtt, w_gft, w_gtf, w_gff, w_pt, w_pf, w_lret, w_e0, w_e1, w_e2, w_nil, w_fun, w_nt, w_nf, w_add, w_sub, w_eqt, w_eqf, w_net, w_nef, w_ltt, w_ltf, w_let, w_lef, w_gtt', w_gtf', w_get, w_gef, toNat_of, of_add, cast_add, nth_0, nth_s, Nat.zero_add, Nat.reduceAdd, Nat.reduceMul, Nat.add_zero, List.length_cons, List.length_nil, List.drop_zero, List.drop_succ_cons, List.take_succ_cons, List.take_zero, List.take_nil, true_and, and_true, Int.toNat_natCast, List.append_nil, List.nil_append, List.cons_append, blt_max]
          rw [show max (Int.ofNat 0) (((nall + 1 : Nat) : Int) - y.keep) = ((nall + 1 - n : Nat) : Int) by rw [hn]; simp only [Int.ofNat_eq_natCast]; omega]
          have hil' : (insK a.k all).length = nall + 1 := by rw [ins_length, alen]
          rw [hil'] at pa3
          have hrn' : rn + 1 = nall + 1 - (nall + 1 - n) := by rw [← hl'len, pa3, List.length_drop, hil']
          unfold X10_3
          try simp (disch := first | assumption | omega | (simp only [Int.ofNat_eq_natCast, neg_one]; done) | (simp only [Int.ofNat_eq_natCast, neg_one]; omega)) only [tysW, w_bindJ, w_logJ, w_ct, w_cf, w_gtt, w_gft, w_gtf, w_gff, w_pt, w_pf, w_lret, w_e0, w_e1, w_e2, w_nil, w_fun, w_nt, w_nf, w_add, w_sub, w_eqt, w_eqf, w_net, w_nef, w_ltt, w_ltf, w_let, w_lef, w_gtt', w_gtf', w_get, w_gef, toNat_of, of_add, cast_add, nth_0, nth_s, Nat.zero_add, Nat.reduceAdd, Nat.reduceMul, Nat.add_zero, List.length_cons, List.length_nil, List.drop_zero, List.drop_succ_cons, List.take_succ_cons, List.take_zero, List.take_nil, true_and, and_true, Int.toNat_natCast, List.append_nil, List.nil_append, List.cons_append]
          refine (Sl.own (E := EK) (len := nall + 1) b12' (.inr rfl) hil').cutL (ab_from (i := nall + 1 - n) (by omega) (Nat.le_refl _) .i64) (by omega) (Nat.le_refl _) (Nat.le_refl _) (Nat.le_refl _) fun p17 ts17 r17 hb17 ht17 => ?_
          rw [← hrn'] at r17 ⊢
          have hdr17 : (((insK a.k all).drop (nall + 1 - n)).take (rn + 1)) = l' := by rw [← pa3]; exact List.take_of_length_le (by omega)
          rw [hdr17] at r17
          clear hdr17 hrn' hb17 ht17
          try simp (disch := first | assumption | omega | (simp only [Int.ofNat_eq_natCast, neg_one]; done) | (simp only [Int.ofNat_eq_natCast, neg_one]; omega)) only [tysW, w_bindJ, w_logJ, w_ct, w_cf, w_gtt, w_gft, w_gtf, w_gff, w_pt, w_pf, w_lret, w_e0, w_e1, w_e2, w_nil, w_fun, w_nt, w_nf, w_add, w_sub, w_eqt, w_eqf, w_net, w_nef, w_ltt, w_ltf, w_let, w_lef, w_gtt', w_gtf', w_get, w_gef, toNat_of, of_add, cast_add, nth_0, nth_s, Nat.zero_add, Nat.reduceAdd, Nat.reduceMul, Nat.add_zero, List.length_cons, List.length_nil, List.drop_zero, List.drop_succ_cons, List.take_succ_cons, List.take_zero, List.take_nil, true_and, and_true, Int.toNat_natCast, List.append_nil, List.nil_append, List.cons_append]
          refine ValS.goL g16 hp (s60 (d := d + 9) hN g16.fresh ow16.sl.row r17.row (by omega)) fun h18 s18 ts18 ws18 g18 c18 hw18 ht18 => ?_
          have l18 := c18.le
          replace D1 := c18.box D1 (by omega)
          replace b13 := c18.box b13 (by omega)
          replace b12' := c18.box b12' (by omega)
          have ow18 := ow16.from g16.fresh c18
          try simp (disch := first | assumption | omega | (simp only [Int.ofNat_eq_natCast, neg_one]; done) | (simp only [Int.ofNat_eq_natCast, neg_one]; omega)) only [tysW, w_bindJ, w_logJ, w_ct, w_cf, w_gtt, w_gft, w_gtf, w_gff, w_pt, w_pf, w_lret, w_e0, w_e1, w_e2, w_nil, w_fun, w_nt, w_nf, w_add, w_sub, w_eqt, w_eqf, w_net, w_nef, w_ltt, w_ltf, w_let, w_lef, w_gtt', w_gtf', w_get, w_gef, toNat_of, of_add, cast_add, nth_0, nth_s, Nat.zero_add, Nat.reduceAdd, Nat.reduceMul, Nat.add_zero, List.length_cons, List.length_nil, List.drop_zero, List.drop_succ_cons, List.take_succ_cons, List.take_zero, List.take_nil, true_and, and_true, Int.toNat_natCast, List.append_nil, List.nil_append, List.cons_append]
          unfold X10_2
          try simp (disch := first | assumption | omega | (simp only [Int.ofNat_eq_natCast, neg_one]; done) | (simp only [Int.ofNat_eq_natCast, neg_one]; omega)) only [tysW, w_bindJ, w_logJ, w_ct, w_cf, w_gtt, w_gft, w_gtf, w_gff, w_pt, w_pf, w_lret, w_e0, w_e1, w_e2, w_nil, w_fun, w_nt, w_nf, w_add, w_sub, w_eqt, w_eqf, w_net, w_nef, w_ltt, w_ltf, w_let, w_lef, w_gtt', w_gtf', w_get, w_gef, toNat_of, of_add, cast_add, nth_0, nth_s, Nat.zero_add, Nat.reduceAdd, Nat.reduceMul, Nat.add_zero, List.length_cons, List.length_nil, List.drop_zero, List.drop_succ_cons, List.take_succ_cons, List.take_zero, List.take_nil, true_and, and_true, Int.toNat_natCast, List.append_nil, List.nil_append, List.cons_append]
          rw [wp_guard, if_pos (by repeat' (first | exact dynOk_nil _ _ | refine dyn_skip' ?_ | refine dyn_cons ?_ ?_ | exact allF_nil _ _ | refine allF_cons ?_ ?_ | exact disj_below hw18 (by omega) | exact disjA hw18 (by omega) | exact disjB hw18 (by omega) | exact disjC hw18 (by assumption) | exact disjD (fun m hm => by have := hw18 m hm; omega) | exact disj_below ht18 (by omega) | exact disjA ht18 (by omega) | exact disjB ht18 (by omega) | exact disjC ht18 (by assumption) | exact disjD (fun m hm => by have := ht18 m hm; omega) | exact disjN _ | exact disj1 (by omega) | exact disj2 (by omega) | exact disj3 (by assumption)))]
          try simp (disch := first | assumption | omega | (simp only [Int.ofNat_eq_natCast, neg_one]; done) | (simp only [Int.ofNat_eq_natCast, neg_one]; omega)) only [tysW, w_bindJ, w_logJ, w_ct, w_cf, w_gtt, w_gft, w_gtf, w_gff, w_pt, w_pf, w_lret, w_e0, w_e1, w_e2, w_nil, w_fun, w_nt, w_nf, w_add, w_sub, w_eqt, w_eqf, w_net, w_nef, w_ltt, w_ltf, w_let, w_lef, w_gtt', w_gtf', w_get, w_gef, toNat_of, of_add, cast_add, nth_0, nth_s, Nat.zero_add, Nat.reduceAdd, Nat.reduceMul, Nat.add_zero, List.length_cons, List.length_nil, List.drop_zero, List.drop_succ_cons, List.take_succ_cons, List.take_zero, List.take_nil, true_and, and_true, Int.toNat_natCast, List.append_nil, List.nil_append, List.cons_append, ldB b13, clB b13, ldBL b13, clBL b13]
          refine ValS.go g18 hp (s49 (d := d + 9) g18.fresh base' clean' ow18.sl.row (by omega)) fun h19 s19 g19 c19 => ?_
          have l19 := c19.le
          replace D1 := c19.box D1 (by omega)
          replace b13 := c19.box b13 (by omega)
          replace b12' := c19.box b12' (by omega)
          have ow19 := ow18.from g18.fresh c19
          try simp (disch := first | assumption | omega | (simp only [Int.ofNat_eq_natCast, neg_one]; done) | (simp only [Int.ofNat_eq_natCast, neg_one]; omega)) only [tysW, w_bindJ, w_logJ, w_ct, w_cf, w_gtt, w_gft, w_gtf, w_gff, w_pt, w_pf, w_lret, w_e0, w_e1, w_e2, w_nil, w_fun, w_nt, w_nf, w_add, w_sub, w_eqt, w_eqf, w_net, w_nef, w_ltt, w_ltf, w_let, w_lef, w_gtt', w_gtf', w_get, w_gef, toNat_of, of_add, cast_add, nth_0, nth_s, Nat.zero_add, Nat.reduceAdd, Nat.reduceMul, Nat.add_zero, List.length_cons, List.length_nil, List.drop_zero, List.drop_succ_cons, List.take_succ_cons, List.take_zero, List.take_nil, true_and, and_true, Int.toNat_natCast, List.append_nil, List.nil_append, List.cons_append]
          exact ih (i + 1) _ (some ⟨m12, 0, none⟩) (nall + 1) (insK a.k all) (floorK y base' l') (newK base' l') base' clean' p2 (rn + 1) l' h19 s19 (by omega) (by omega) (by omega) g19 (by omega) D1 b13 ow19.sl pf1 (.own b12' (.inr rfl) hil') pa2 (by rw [hil']; exact pa3) (Int.le_refl _) rfl (fun _ => by show s4 < m12; omega)
      · obtain rfl : i = lena := by omega
        try simp (disch := first | assumption | omega | (simp only [Int.ofNat_eq_natCast, neg_one]; done) | (simp only [Int.ofNat_eq_natCast, neg_one]; omega)) only [tysW, w_bindJ, w_logJ, w_ct, w_cf, w_gtt, w_gft, w_gtf, w_gff, w_pt, w_pf, w_lret, w_e0, w_e1, w_e2, w_nil, w_fun, w_nt, w_nf, w_add, w_sub, w_eqt, w_eqf, w_net, w_nef, w_ltt, w_ltf, w_let, w_lef, w_gtt', w_gtf', w_get, w_gef, toNat_of, of_add, cast_add, nth_0, nth_s, Nat.zero_add, Nat.reduceAdd, Nat.reduceMul, Nat.add_zero, List.length_cons, List.length_nil, List.drop_zero, List.drop_succ_cons, List.take_succ_cons, List.take_zero, List.take_nil, true_and, and_true, Int.toNat_natCast, List.append_nil, List.nil_append, List.cons_append]
        exact done_ _ _ g1
  refine loop _ (fun _ _ _ _ _ _ _ => rfl) N 0 _ none 0 [] (pickZ b0 101) (pickZ b0 101) (pickZ b0 101) 0 none 0 [] h6 _ (by omega) (by omega) (Nat.le_refl _) g6 (by omega) b3 b6 (Sl.nil _) ?_ (Sl.nil _) rfl (by simp) (floor_ge _ _ _).1 rfl (fun h => absurd rfl h)
  refine fits_iff.2 ⟨hchk, ⟨by omega, by unfold maxT; omega⟩, by rw [hn]; simp, rfl, ⟨by omega, by simp⟩, fun j k _ hj => by simp at hj⟩
end
end Go.Ev.R

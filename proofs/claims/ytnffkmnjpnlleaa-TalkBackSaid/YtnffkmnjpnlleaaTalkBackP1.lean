/- The law TalkBack, part 1: what the functions answer, by their terms. No condition. -/
import Derived.Test.YtnffkmnjpnlleaaTalkBackP0
set_option linter.unusedVariables false
set_option linter.unusedSimpArgs false
set_option maxRecDepth 100000
namespace Go.Ev.R
open Go Go.RowKit
/-- All numbers' bytes. -/
def bys (w : Nat) (l : List Int) : List Int := l.flatMap (be w)
theorem bys_len (w : Nat) : ∀ l : List Int, (bys w l).length = l.length * w
  | [] => by simp [bys]
  | x :: l => by
    have := bys_len w l
    unfold bys at this ⊢
    rw [List.flatMap_cons, List.length_append, this, be_len, List.length_cons, Nat.succ_mul]; omega
theorem take_succ {l : List Int} {i : Nat} {x : Int} (hx : l[i]? = some x) : l.take (i + 1) = l.take i ++ [x] := by
  rw [List.take_add_one, hx]; rfl
theorem bys_take {l : List Int} {i : Nat} {x : Int} (hx : l[i]? = some x) (w : Nat) : bys w (l.take (i + 1)) = bys w (l.take i) ++ be w x := by
  unfold bys
  rw [take_succ hx, List.flatMap_append]; simp
theorem fits_t {w : Nat} (hw : isW w) {n : Int} : fitsW w n = true ↔ ¬ ((w : Int) < 8 ∧ (n < 0 ∨ ¬ n < 256 ^ w)) := by
  unfold fitsW
  rcases hw with rfl | rfl | rfl | rfl <;> simp <;> omega
section
variable (N : Nat) (C : CallT) (K : KV) (v2 v10 v11 v12 : Value) (j20 : Value → Value → Value → Nat → AM) (s : Nat) {pw : Nat → Prop} {Z : Value → T → Prop} {h : T} (n : Int)
theorem no141 : X141_2 N C K (.bool true) v2 (vi n) j20 v10 v11 v12 (.bool true) s = K (.tuple ⟨[.slice none 0 0, i64 4]⟩) s := rfl
theorem ok141_8 : (X141_2 N C K (.bool false) (vi (8 : Nat)) (vi n) j20 v10 v11 v12 undef s).wp pw Z h = ((loopJ N 2 (fun _ _ _ => AM.fail) (X141_1 N C K (vi n) j20 v10 v11) : Value → Value → Nat → AM) v12 (vi 7) s).wp pw Z h := by
  unfold X141_2
  try simp (disch := first | assumption | omega | (simp only [Int.ofNat_eq_natCast, neg_one]; done) | (simp only [Int.ofNat_eq_natCast, neg_one]; omega)) only [tysW, w_bindJ, w_logJ, w_ct, w_cf, w_gtt, w_gft, w_gtf, w_gff, w_pt, w_pf, w_lret, w_e0, w_e1, w_e2, w_nil, w_fun, w_nt, w_nf, w_add, w_sub, w_eqt, w_eqf, w_net, w_nef, w_ltt, w_ltf, w_let, w_lef, w_gtt', w_gtf', w_get, w_gef, toNat_of, of_add, cast_add, nth_0, nth_s, Nat.zero_add, Nat.reduceAdd, Nat.reduceMul, Nat.add_zero, List.length_cons, List.length_nil, List.drop_zero, List.drop_succ_cons, List.take_succ_cons, List.take_zero, List.take_nil, true_and, and_true, Int.toNat_natCast, List.append_nil, List.nil_append, List.cons_append]
  rfl
theorem go141 {w : Nat} (hw : w = 1 ∨ w = 2 ∨ w = 4) : (X141_2 N C K (.bool true) (vi w) (vi n) j20 v10 v11 v12 (.bool false) s).wp pw Z h = if n < 256 ^ w then ((loopJ N 2 (fun _ _ _ => AM.fail) (X141_1 N C K (vi n) j20 v10 v11) : Value → Value → Nat → AM) v12 (vi ((w : Int) - 1)) s).wp pw Z h else (K (.tuple ⟨[.slice none 0 0, i64 4]⟩) s).wp pw Z h := by
  unfold X141_2
  rcases hw with rfl | rfl | rfl
  · try simp (disch := first | assumption | omega | (simp only [Int.ofNat_eq_natCast, neg_one]; done) | (simp only [Int.ofNat_eq_natCast, neg_one]; omega)) only [tysW, w_bindJ, w_logJ, w_ct, w_cf, w_gtt, w_gft, w_gtf, w_gff, w_pt, w_pf, w_lret, w_e0, w_e1, w_e2, w_nil, w_fun, w_nt, w_nf, w_add, w_sub, w_eqt, w_eqf, w_net, w_nef, w_ltt, w_ltf, w_let, w_lef, w_gtt', w_gtf', w_get, w_gef, toNat_of, of_add, cast_add, nth_0, nth_s, Nat.zero_add, Nat.reduceAdd, Nat.reduceMul, Nat.add_zero, List.length_cons, List.length_nil, List.drop_zero, List.drop_succ_cons, List.take_succ_cons, List.take_zero, List.take_nil, true_and, and_true, Int.toNat_natCast, List.append_nil, List.nil_append, List.cons_append, fit1, Int.natCast_one, Int.cast_ofNat_Int]
    by_cases h1 : (256 : Int) ≤ n
    · rw [if_neg (by simp; omega)]
      try simp (disch := first | assumption | omega | (simp only [Int.ofNat_eq_natCast, neg_one]; done) | (simp only [Int.ofNat_eq_natCast, neg_one]; omega)) only [tysW, w_bindJ, w_logJ, w_ct, w_cf, w_gtt, w_gft, w_gtf, w_gff, w_pt, w_pf, w_lret, w_e0, w_e1, w_e2, w_nil, w_fun, w_nt, w_nf, w_add, w_sub, w_eqt, w_eqf, w_net, w_nef, w_ltt, w_ltf, w_let, w_lef, w_gtt', w_gtf', w_get, w_gef, toNat_of, of_add, cast_add, nth_0, nth_s, Nat.zero_add, Nat.reduceAdd, Nat.reduceMul, Nat.add_zero, List.length_cons, List.length_nil, List.drop_zero, List.drop_succ_cons, List.take_succ_cons, List.take_zero, List.take_nil, true_and, and_true, Int.toNat_natCast, List.append_nil, List.nil_append, List.cons_append]
    · rw [if_pos (by simp; omega)]
      try simp (disch := first | assumption | omega | (simp only [Int.ofNat_eq_natCast, neg_one]; done) | (simp only [Int.ofNat_eq_natCast, neg_one]; omega)) only [tysW, w_bindJ, w_logJ, w_ct, w_cf, w_gtt, w_gft, w_gtf, w_gff, w_pt, w_pf, w_lret, w_e0, w_e1, w_e2, w_nil, w_fun, w_nt, w_nf, w_add, w_sub, w_eqt, w_eqf, w_net, w_nef, w_ltt, w_ltf, w_let, w_lef, w_gtt', w_gtf', w_get, w_gef, toNat_of, of_add, cast_add, nth_0, nth_s, Nat.zero_add, Nat.reduceAdd, Nat.reduceMul, Nat.add_zero, List.length_cons, List.length_nil, List.drop_zero, List.drop_succ_cons, List.take_succ_cons, List.take_zero, List.take_nil, true_and, and_true, Int.toNat_natCast, List.append_nil, List.nil_append, List.cons_append]
      rfl
  · try simp (disch := first | assumption | omega | (simp only [Int.ofNat_eq_natCast, neg_one]; done) | (simp only [Int.ofNat_eq_natCast, neg_one]; omega)) only [tysW, w_bindJ, w_logJ, w_ct, w_cf, w_gtt, w_gft, w_gtf, w_gff, w_pt, w_pf, w_lret, w_e0, w_e1, w_e2, w_nil, w_fun, w_nt, w_nf, w_add, w_sub, w_eqt, w_eqf, w_net, w_nef, w_ltt, w_ltf, w_let, w_lef, w_gtt', w_gtf', w_get, w_gef, toNat_of, of_add, cast_add, nth_0, nth_s, Nat.zero_add, Nat.reduceAdd, Nat.reduceMul, Nat.add_zero, List.length_cons, List.length_nil, List.drop_zero, List.drop_succ_cons, List.take_succ_cons, List.take_zero, List.take_nil, true_and, and_true, Int.toNat_natCast, List.append_nil, List.nil_append, List.cons_append, fit2, Int.cast_ofNat_Int]
    by_cases h1 : (65536 : Int) ≤ n
    · rw [if_neg (by simp; omega)]
      try simp (disch := first | assumption | omega | (simp only [Int.ofNat_eq_natCast, neg_one]; done) | (simp only [Int.ofNat_eq_natCast, neg_one]; omega)) only [tysW, w_bindJ, w_logJ, w_ct, w_cf, w_gtt, w_gft, w_gtf, w_gff, w_pt, w_pf, w_lret, w_e0, w_e1, w_e2, w_nil, w_fun, w_nt, w_nf, w_add, w_sub, w_eqt, w_eqf, w_net, w_nef, w_ltt, w_ltf, w_let, w_lef, w_gtt', w_gtf', w_get, w_gef, toNat_of, of_add, cast_add, nth_0, nth_s, Nat.zero_add, Nat.reduceAdd, Nat.reduceMul, Nat.add_zero, List.length_cons, List.length_nil, List.drop_zero, List.drop_succ_cons, List.take_succ_cons, List.take_zero, List.take_nil, true_and, and_true, Int.toNat_natCast, List.append_nil, List.nil_append, List.cons_append]
    · rw [if_pos (by simp; omega)]
      try simp (disch := first | assumption | omega | (simp only [Int.ofNat_eq_natCast, neg_one]; done) | (simp only [Int.ofNat_eq_natCast, neg_one]; omega)) only [tysW, w_bindJ, w_logJ, w_ct, w_cf, w_gtt, w_gft, w_gtf, w_gff, w_pt, w_pf, w_lret, w_e0, w_e1, w_e2, w_nil, w_fun, w_nt, w_nf, w_add, w_sub, w_eqt, w_eqf, w_net, w_nef, w_ltt, w_ltf, w_let, w_lef, w_gtt', w_gtf', w_get, w_gef, toNat_of, of_add, cast_add, nth_0, nth_s, Nat.zero_add, Nat.reduceAdd, Nat.reduceMul, Nat.add_zero, List.length_cons, List.length_nil, List.drop_zero, List.drop_succ_cons, List.take_succ_cons, List.take_zero, List.take_nil, true_and, and_true, Int.toNat_natCast, List.append_nil, List.nil_append, List.cons_append]
      rfl
  · try simp (disch := first | assumption | omega | (simp only [Int.ofNat_eq_natCast, neg_one]; done) | (simp only [Int.ofNat_eq_natCast, neg_one]; omega)) only [tysW, w_bindJ, w_logJ, w_ct, w_cf, w_gtt, w_gft, w_gtf, w_gff, w_pt, w_pf, w_lret, w_e0, w_e1, w_e2, w_nil, w_fun, w_nt, w_nf, w_add, w_sub, w_eqt, w_eqf, w_net, w_nef, w_ltt, w_ltf, w_let, w_lef, w_gtt', w_gtf', w_get, w_gef, toNat_of, of_add, cast_add, nth_0, nth_s, Nat.zero_add, Nat.reduceAdd, Nat.reduceMul, Nat.add_zero, List.length_cons, List.length_nil, List.drop_zero, List.drop_succ_cons, List.take_succ_cons, List.take_zero, List.take_nil, true_and, and_true, Int.toNat_natCast, List.append_nil, List.nil_append, List.cons_append, fit4, Int.cast_ofNat_Int]
    by_cases h1 : (4294967296 : Int) ≤ n
    · rw [if_neg (by simp; omega)]
      try simp (disch := first | assumption | omega | (simp only [Int.ofNat_eq_natCast, neg_one]; done) | (simp only [Int.ofNat_eq_natCast, neg_one]; omega)) only [tysW, w_bindJ, w_logJ, w_ct, w_cf, w_gtt, w_gft, w_gtf, w_gff, w_pt, w_pf, w_lret, w_e0, w_e1, w_e2, w_nil, w_fun, w_nt, w_nf, w_add, w_sub, w_eqt, w_eqf, w_net, w_nef, w_ltt, w_ltf, w_let, w_lef, w_gtt', w_gtf', w_get, w_gef, toNat_of, of_add, cast_add, nth_0, nth_s, Nat.zero_add, Nat.reduceAdd, Nat.reduceMul, Nat.add_zero, List.length_cons, List.length_nil, List.drop_zero, List.drop_succ_cons, List.take_succ_cons, List.take_zero, List.take_nil, true_and, and_true, Int.toNat_natCast, List.append_nil, List.nil_append, List.cons_append]
    · rw [if_pos (by simp; omega)]
      try simp (disch := first | assumption | omega | (simp only [Int.ofNat_eq_natCast, neg_one]; done) | (simp only [Int.ofNat_eq_natCast, neg_one]; omega)) only [tysW, w_bindJ, w_logJ, w_ct, w_cf, w_gtt, w_gft, w_gtf, w_gff, w_pt, w_pf, w_lret, w_e0, w_e1, w_e2, w_nil, w_fun, w_nt, w_nf, w_add, w_sub, w_eqt, w_eqf, w_net, w_nef, w_ltt, w_ltf, w_let, w_lef, w_gtt', w_gtf', w_get, w_gef, toNat_of, of_add, cast_add, nth_0, nth_s, Nat.zero_add, Nat.reduceAdd, Nat.reduceMul, Nat.add_zero, List.length_cons, List.length_nil, List.drop_zero, List.drop_succ_cons, List.take_succ_cons, List.take_zero, List.take_nil, true_and, and_true, Int.toNat_natCast, List.append_nil, List.nil_append, List.cons_append]
      rfl
end
section
variable {N d : Nat} (hN : 100000 ≤ N) {h : T} {s : Nat} (hf : ∀ n, s ≤ n → h.get n = none)
include hN
/-- A number's bytes, laid one after the other. -/
theorem lay141 {C : CallT} {h0 : T} {s0 t : Nat} {K : KV} {pw : Nat → Prop} {Z : Value → T → Prop} (hp : ∀ n, s0 ≤ n → pw n) (ht : s0 ≤ t) (n : Int) (j20 : Value → Value → Value → Nat → AM) (v10 v11 : Value) {w : Nat} (hw : w ≤ 8) {p : Option Addr} {len : Nat} {l : List Int} (hl : len ≤ 100000) (g : From s0 h0 h s) (hts : t ≤ s) (o : OwnG EB 5 h t p len l)
    (hk : ∀ p' h' s', From s0 h0 h' s' → s ≤ s' → OwnG EB 5 h' t p' (len + w) (l ++ be w n) → (∀ i, i < t → h'.get i = h.get i) → (j20 v10 v11 (.slice p' (len + w) (len + w)) s').wp pw Z h') :
    ((loopJ N 2 (fun _ _ _ => AM.fail) (X141_1 N C K (vi n) j20 v10 v11) : Value → Value → Nat → AM) (.slice p len len) (vi ((w : Int) - 1)) s).wp pw Z h := by
  have loop : ∀ (B : (Value → Value → Nat → AM) → Value → Value → Nat → AM) (hB : ∀ H u i s', B H u i s' = X141_1 N C K (vi n) j20 v10 v11 H u i s') (m : Nat) (w' : Nat) (p1 : Option Addr) (len1 : Nat) (l1 : List Int) (h1 : T) (s1 : Nat), w' < m → w' ≤ w → len1 + w' = len + w → From s0 h0 h1 s1 → s ≤ s1 → OwnG EB 5 h1 t p1 len1 l1 → l1 ++ be w' n = l ++ be w n → (∀ i, i < t → h1.get i = h.get i) →
      (loopJ m 2 (fun _ _ _ => AM.fail) B (.slice p1 len1 len1) (vi ((w' : Int) - 1)) s1).wp pw Z h1 := by
    intro B hB m
    induction m with
    | zero => intro w' p1 len1 l1 h1 s1 hm; omega
    | succ m ih =>
      intro w' p1 len1 l1 h1 s1 hm hww hlen g1 hs1 o1 e1 k1
      rw [loopJ_succ, hB]
      unfold X141_1
      cases w' with
      | zero =>
        try simp (disch := first | assumption | omega | (simp only [Int.ofNat_eq_natCast, neg_one]; done) | (simp only [Int.ofNat_eq_natCast, neg_one]; omega)) only [tysW, w_bindJ, w_logJ, w_ct, w_cf, w_gtt, w_gft, w_gtf, w_gff, w_pt, w_pf, w_lret, w_e0, w_e1, w_e2, w_nil, w_fun, w_nt, w_nf, w_add, w_sub, w_eqt, w_eqf, w_net, w_nef, w_ltt, w_ltf, w_let, w_lef, w_gtt', w_gtf', w_get, w_gef, toNat_of, of_add, cast_add, nth_0, nth_s, Nat.zero_add, Nat.reduceAdd, Nat.reduceMul, Nat.add_zero, List.length_cons, List.length_nil, List.drop_zero, List.drop_succ_cons, List.take_succ_cons, List.take_zero, List.take_nil, true_and, and_true, Int.toNat_natCast, List.append_nil, List.nil_append, List.cons_append]
        obtain rfl : len1 = len + w := by omega
        rw [show l1 = l ++ be w n by rw [← e1]; simp [be]] at o1
        exact hk _ _ _ g1 hs1 o1 k1
      | succ w' =>
        rw [show ((w' + 1 : Nat) : Int) - 1 = (w' : Int) by omega]
        try simp (disch := first | assumption | omega | (simp only [Int.ofNat_eq_natCast, neg_one]; done) | (simp only [Int.ofNat_eq_natCast, neg_one]; omega)) only [tysW, w_bindJ, w_logJ, w_ct, w_cf, w_gtt, w_gft, w_gtf, w_gff, w_pt, w_pf, w_lret, w_e0, w_e1, w_e2, w_nil, w_fun, w_nt, w_nf, w_add, w_sub, w_eqt, w_eqf, w_net, w_nef, w_ltt, w_ltf, w_let, w_lef, w_gtt', w_gtf', w_get, w_gef, toNat_of, of_add, cast_add, nth_0, nth_s, Nat.zero_add, Nat.reduceAdd, Nat.reduceMul, Nat.add_zero, List.length_cons, List.length_nil, List.drop_zero, List.drop_succ_cons, List.take_succ_cons, List.take_zero, List.take_nil, true_and, and_true, Int.toNat_natCast, List.append_nil, List.nil_append, List.cons_append, byte_step n (show w' < 8 by omega)]
        refine wp_newF g1 hp fun h2 g2 c2 b2 => ?_
        try simp (disch := first | assumption | omega | (simp only [Int.ofNat_eq_natCast, neg_one]; done) | (simp only [Int.ofNat_eq_natCast, neg_one]; omega)) only [tysW, w_bindJ, w_logJ, w_ct, w_cf, w_gtt, w_gft, w_gtf, w_gff, w_pt, w_pf, w_lret, w_e0, w_e1, w_e2, w_nil, w_fun, w_nt, w_nf, w_add, w_sub, w_eqt, w_eqf, w_net, w_nef, w_ltt, w_ltf, w_let, w_lef, w_gtt', w_gtf', w_get, w_gef, toNat_of, of_add, cast_add, nth_0, nth_s, Nat.zero_add, Nat.reduceAdd, Nat.reduceMul, Nat.add_zero, List.length_cons, List.length_nil, List.drop_zero, List.drop_succ_cons, List.take_succ_cons, List.take_zero, List.take_nil, true_and, and_true, Int.toNat_natCast, List.append_nil, List.nil_append, List.cons_append]
        refine apG (E := EB) (t := t) g2 hp (o1.from g1.fresh c2) ht (by omega) (Row.of_cells (l := [byteN n w']) b2 rfl) (fun _ => rfl) (by omega) fun p' h3 s3 g3 l3 o3 e3 => ?_
        try simp (disch := first | assumption | omega | (simp only [Int.ofNat_eq_natCast, neg_one]; done) | (simp only [Int.ofNat_eq_natCast, neg_one]; omega)) only [tysW, w_bindJ, w_logJ, w_ct, w_cf, w_gtt, w_gft, w_gtf, w_gff, w_pt, w_pf, w_lret, w_e0, w_e1, w_e2, w_nil, w_fun, w_nt, w_nf, w_add, w_sub, w_eqt, w_eqf, w_net, w_nef, w_ltt, w_ltf, w_let, w_lef, w_gtt', w_gtf', w_get, w_gef, toNat_of, of_add, cast_add, nth_0, nth_s, Nat.zero_add, Nat.reduceAdd, Nat.reduceMul, Nat.add_zero, List.length_cons, List.length_nil, List.drop_zero, List.drop_succ_cons, List.take_succ_cons, List.take_zero, List.take_nil, true_and, and_true, Int.toNat_natCast, List.append_nil, List.nil_append, List.cons_append]
        refine ih w' p' (len1 + 1) _ h3 s3 (by omega) (by omega) (by omega) g3 (by omega) o3 ?_ fun i hi => ?_
        · rw [← e1, List.append_assoc]; rfl
        · rw [e3 i (by omega) fun hp => by have := o1.lt g1.fresh hp; omega, c2.keep i (by omega)]
          exact k1 i hi
  exact loop _ (fun _ _ _ _ => rfl) N w p len l h s (by omega) (Nat.le_refl _) rfl g (Nat.le_refl _) o rfl fun _ _ => rfl
include hf
theorem s141 {w : Nat} (hw : isW w) {p q : Option Addr} {len cap n c : Nat} {b l : List Int} (r : Sl EB h p len cap b) (r2 : Row EI h q n l) (hl : len ≤ 50000) (hn : n ≤ 1000) : PureS (D N (d + 2)) 141 [.slice p len cap, vi w, .slice q n c] h s (fun v h' s' =>
    if l.all (fitsW w) = true then ∃ p', v = .tuple ⟨[.slice p' (len + n * w) (len + n * w), vi 0]⟩ ∧ OwnG EB 5 h' s p' (len + n * w) (b ++ bys w l) else v = .tuple ⟨[.slice none 0 0, vi 4]⟩) := by
  refine PureS.of hf fun K pw Z g hp hk => ?_
  rw [D_141]; unfold F141; rw [app3_eq]
  refine ValS.go g hp (s167 (d := d) hf hw) fun h1 s1 g1 c1 => ?_
  try simp (disch := first | assumption | omega | (simp only [Int.ofNat_eq_natCast, neg_one]; done) | (simp only [Int.ofNat_eq_natCast, neg_one]; omega)) only [tysW, w_bindJ, w_logJ, w_ct, w_cf, w_gtt, w_gft, w_gtf, w_gff, w_pt, w_pf, w_lret, w_e0, w_e1, w_e2, w_nil, w_fun, w_nt, w_nf, w_add, w_sub, w_eqt, w_eqf, w_net, w_nef, w_ltt, w_ltf, w_let, w_lef, w_gtt', w_gtf', w_get, w_gef, toNat_of, of_add, cast_add, nth_0, nth_s, Nat.zero_add, Nat.reduceAdd, Nat.reduceMul, Nat.add_zero, List.length_cons, List.length_nil, List.drop_zero, List.drop_succ_cons, List.take_succ_cons, List.take_zero, List.take_nil, true_and, and_true, Int.toNat_natCast, List.append_nil, List.nil_append, List.cons_append]
  refine PureS.go g1 hp (s112 (d := d) g1.fresh (r.from hf g1) (by omega)) fun v h2 s2 g2 c2 hv => ?_
  obtain ⟨p2, rfl, o2⟩ := hv
  have l1 := c1.le
  have l2 := c2.le
  have hql := r2.1
  have hw8 : w ≤ 8 := by rcases hw with rfl | rfl | rfl | rfl <;> omega
  try simp (disch := first | assumption | omega | (simp only [Int.ofNat_eq_natCast, neg_one]; done) | (simp only [Int.ofNat_eq_natCast, neg_one]; omega)) only [tysW, w_bindJ, w_logJ, w_ct, w_cf, w_gtt, w_gft, w_gtf, w_gff, w_pt, w_pf, w_lret, w_e0, w_e1, w_e2, w_nil, w_fun, w_nt, w_nf, w_add, w_sub, w_eqt, w_eqf, w_net, w_nef, w_ltt, w_ltf, w_let, w_lef, w_gtt', w_gtf', w_get, w_gef, toNat_of, of_add, cast_add, nth_0, nth_s, Nat.zero_add, Nat.reduceAdd, Nat.reduceMul, Nat.add_zero, List.length_cons, List.length_nil, List.drop_zero, List.drop_succ_cons, List.take_succ_cons, List.take_zero, List.take_nil, true_and, and_true, Int.toNat_natCast, List.append_nil, List.nil_append, List.cons_append]
  have loop : ∀ (J : Value → Nat → AM) (hJ : ∀ v s, J v s = K (.tuple ⟨[v, i64 0]⟩) s) (B : (Value → Value → Value → Value → Nat → AM) → Value → Value → Value → Value → Nat → AM) (hB : ∀ H u v x i s', B H u v x i s' = X141_3 N (D N (d + 1)) K (vi n) (.slice q n c) (vi w) J H u v x i s') (m i : Nat) (u v : Value) (p3 : Option Addr) (h3 : T) (s3 : Nat), n - i < m → i ≤ n → From s h h3 s3 → s2 ≤ s3 → OwnG EB 5 h3 s1 p3 (len + i * w) (b ++ bys w (l.take i)) → (l.take i).all (fitsW w) = true →
      (loopJ m 4 (fun _ _ _ _ _ => AM.fail) B u v (.slice p3 (len + i * w) (len + i * w)) (vi i) s3).wp pw Z h3 := by
    intro J hJ B hB m
    induction m with
    | zero => intro i u v p3 h3 s3 hm; omega
    | succ m ih =>
      intro i u v p3 h3 s3 hm hin g3 hs3 o3 ha
      have r3 := g3.row hf r2
      rw [loopJ_succ, hB]
      unfold X141_3
      by_cases hlt : i < n
      · obtain ⟨x, hx⟩ := get_some (l := l) (i := i) (by rw [r2.1]; exact hlt)
        have hxm : x ∈ l := List.mem_of_getElem? hx
        try simp (disch := first | assumption | omega | (simp only [Int.ofNat_eq_natCast, neg_one]; done) | (simp only [Int.ofNat_eq_natCast, neg_one]; omega)) only [tysW, w_bindJ, w_logJ, w_ct, w_cf, w_gtt, w_gft, w_gtf, w_gff, w_pt, w_pf, w_lret, w_e0, w_e1, w_e2, w_nil, w_fun, w_nt, w_nf, w_add, w_sub, w_eqt, w_eqf, w_net, w_nef, w_ltt, w_ltf, w_let, w_lef, w_gtt', w_gtf', w_get, w_gef, toNat_of, of_add, cast_add, nth_0, nth_s, Nat.zero_add, Nat.reduceAdd, Nat.reduceMul, Nat.add_zero, List.length_cons, List.length_nil, List.drop_zero, List.drop_succ_cons, List.take_succ_cons, List.take_zero, List.take_nil, true_and, and_true, Int.toNat_natCast, List.append_nil, List.nil_append, List.cons_append, xaI r3 (j := (i : Int)) (by omega) (by omega), r3.int hx]
        have bad : fitsW w x = false → (K (.tuple ⟨[.slice none 0 0, i64 4]⟩) s3).wp pw Z h3 := fun hb => by
          refine hk _ _ _ g3 ?_
          rw [if_neg]
          · rfl
          · rw [Bool.not_eq_true, List.all_eq_false]
            exact ⟨x, hxm, by simp [hb]⟩
        have hmul : i * w ≤ 8000 := by
          calc i * w ≤ 1000 * 8 := Nat.mul_le_mul (by omega) hw8
          _ = 8000 := rfl
        have good : fitsW w x = true → (loopJ N 2 (fun _ _ _ => AM.fail) (X141_1 N (D N (d + 1)) K (vi x) (fun v16 v17 v18 s => addX P 3 3 false true (vi i) (i64 1) (fun v19 s => loopJ m 4 (fun _ _ _ _ _ => AM.fail) B v16 v17 v18 v19 s) s) u v) (.slice p3 (len + i * w) (len + i * w)) (vi ((w : Int) - 1)) s3).wp pw Z h3 := fun hfit => by
          refine lay141 (t := s1) hN hp (by omega) x _ _ _ hw8 (by omega) g3 (by omega) o3 fun p4 h4 s4 g4 l4 o4 e4 => ?_
          try simp (disch := first | assumption | omega | (simp only [Int.ofNat_eq_natCast, neg_one]; done) | (simp only [Int.ofNat_eq_natCast, neg_one]; omega)) only [tysW, w_bindJ, w_logJ, w_ct, w_cf, w_gtt, w_gft, w_gtf, w_gff, w_pt, w_pf, w_lret, w_e0, w_e1, w_e2, w_nil, w_fun, w_nt, w_nf, w_add, w_sub, w_eqt, w_eqf, w_net, w_nef, w_ltt, w_ltf, w_let, w_lef, w_gtt', w_gtf', w_get, w_gef, toNat_of, of_add, cast_add, nth_0, nth_s, Nat.zero_add, Nat.reduceAdd, Nat.reduceMul, Nat.add_zero, List.length_cons, List.length_nil, List.drop_zero, List.drop_succ_cons, List.take_succ_cons, List.take_zero, List.take_nil, true_and, and_true, Int.toNat_natCast, List.append_nil, List.nil_append, List.cons_append]
          have e : len + i * w + w = len + (i + 1) * w := by rw [Nat.succ_mul]; omega
          rw [e] at o4 ⊢
          refine ih (i + 1) u v p4 h4 s4 (by omega) (by omega) g4 (by omega) ?_ ?_
          · rw [bys_take hx, ← List.append_assoc]; exact o4
          · rw [take_succ hx, List.all_append, ha]; simp [hfit]
        by_cases h8 : w = 8
        · subst h8
          try simp (disch := first | assumption | omega | (simp only [Int.ofNat_eq_natCast, neg_one]; done) | (simp only [Int.ofNat_eq_natCast, neg_one]; omega)) only [tysW, w_bindJ, w_logJ, w_ct, w_cf, w_gtt, w_gft, w_gtf, w_gff, w_pt, w_pf, w_lret, w_e0, w_e1, w_e2, w_nil, w_fun, w_nt, w_nf, w_add, w_sub, w_eqt, w_eqf, w_net, w_nef, w_ltt, w_ltf, w_let, w_lef, w_gtt', w_gtf', w_get, w_gef, toNat_of, of_add, cast_add, nth_0, nth_s, Nat.zero_add, Nat.reduceAdd, Nat.reduceMul, Nat.add_zero, List.length_cons, List.length_nil, List.drop_zero, List.drop_succ_cons, List.take_succ_cons, List.take_zero, List.take_nil, true_and, and_true, Int.toNat_natCast, List.append_nil, List.nil_append, List.cons_append]
          rw [ok141_8]
          exact good (by simp [fitsW])
        · have h8' : (w : Int) < 8 := by omega
          have hw' : w = 1 ∨ w = 2 ∨ w = 4 := by rcases hw with rfl | rfl | rfl | rfl <;> simp at h8 ⊢
          by_cases hx0 : x < 0
          · try simp (disch := first | assumption | omega | (simp only [Int.ofNat_eq_natCast, neg_one]; done) | (simp only [Int.ofNat_eq_natCast, neg_one]; omega)) only [tysW, w_bindJ, w_logJ, w_ct, w_cf, w_gtt, w_gft, w_gtf, w_gff, w_pt, w_pf, w_lret, w_e0, w_e1, w_e2, w_nil, w_fun, w_nt, w_nf, w_add, w_sub, w_eqt, w_eqf, w_net, w_nef, w_ltt, w_ltf, w_let, w_lef, w_gtt', w_gtf', w_get, w_gef, toNat_of, of_add, cast_add, nth_0, nth_s, Nat.zero_add, Nat.reduceAdd, Nat.reduceMul, Nat.add_zero, List.length_cons, List.length_nil, List.drop_zero, List.drop_succ_cons, List.take_succ_cons, List.take_zero, List.take_nil, true_and, and_true, Int.toNat_natCast, List.append_nil, List.nil_append, List.cons_append]
            rw [no141]
            exact bad (by rw [← Bool.not_eq_true, fits_t hw]; simp [h8', hx0])
          · try simp (disch := first | assumption | omega | (simp only [Int.ofNat_eq_natCast, neg_one]; done) | (simp only [Int.ofNat_eq_natCast, neg_one]; omega)) only [tysW, w_bindJ, w_logJ, w_ct, w_cf, w_gtt, w_gft, w_gtf, w_gff, w_pt, w_pf, w_lret, w_e0, w_e1, w_e2, w_nil, w_fun, w_nt, w_nf, w_add, w_sub, w_eqt, w_eqf, w_net, w_nef, w_ltt, w_ltf, w_let, w_lef, w_gtt', w_gtf', w_get, w_gef, toNat_of, of_add, cast_add, nth_0, nth_s, Nat.zero_add, Nat.reduceAdd, Nat.reduceMul, Nat.add_zero, List.length_cons, List.length_nil, List.drop_zero, List.drop_succ_cons, List.take_succ_cons, List.take_zero, List.take_nil, true_and, and_true, Int.toNat_natCast, List.append_nil, List.nil_append, List.cons_append]
            rw [go141 (hw := hw')]
            by_cases hx1 : x < 256 ^ w
            · rw [if_pos hx1]
              exact good (by rw [fits_t hw]; simp [hx0, hx1])
            · rw [if_neg hx1]
              exact bad (by rw [← Bool.not_eq_true, fits_t hw]; simp [h8']; omega)
      · obtain rfl : i = n := by omega
        try simp (disch := first | assumption | omega | (simp only [Int.ofNat_eq_natCast, neg_one]; done) | (simp only [Int.ofNat_eq_natCast, neg_one]; omega)) only [tysW, w_bindJ, w_logJ, w_ct, w_cf, w_gtt, w_gft, w_gtf, w_gff, w_pt, w_pf, w_lret, w_e0, w_e1, w_e2, w_nil, w_fun, w_nt, w_nf, w_add, w_sub, w_eqt, w_eqf, w_net, w_nef, w_ltt, w_ltf, w_let, w_lef, w_gtt', w_gtf', w_get, w_gef, toNat_of, of_add, cast_add, nth_0, nth_s, Nat.zero_add, Nat.reduceAdd, Nat.reduceMul, Nat.add_zero, List.length_cons, List.length_nil, List.drop_zero, List.drop_succ_cons, List.take_succ_cons, List.take_zero, List.take_nil, true_and, and_true, Int.toNat_natCast, List.append_nil, List.nil_append, List.cons_append]
        rw [hJ]
        refine hk _ _ _ g3 ?_
        rw [List.take_of_length_le (by omega)] at o3 ha
        rw [if_pos ha]
        exact ⟨p3, rfl, o3.less l1⟩
  have := loop (fun v7 s => K (.tuple ⟨[v7, i64 0]⟩) s) (fun _ _ => rfl) _ (fun _ _ _ _ _ _ => rfl) N 0 (.slice none 0 0) (i64 0) p2 h2 s2 (by omega) (by omega) g2 (Nat.le_refl _) (by simpa [bys] using o2) rfl
  rw [Nat.zero_mul, Nat.add_zero] at this
  exact this
end
end Go.Ev.R
namespace Go.Ev.R
open Go Go.RowKit
/-- A list's bytes. -/
def lis (l : List Int) : List Int := bys 1 [(l.length : Int)] ++ bys 8 l
theorem lis_len (l : List Int) : (lis l).length = 1 + l.length * 8 := by simp [lis, bys_len]
theorem fits8 : ∀ l : List Int, l.all (fitsW 8) = true
  | [] => rfl
  | x :: l => by rw [List.all_cons, fits8 l]; rfl
section
variable {N d : Nat} (hN : 100000 ≤ N) {h : T} {s : Nat} (hf : ∀ n, s ≤ n → h.get n = none)
include hN hf
theorem s147 {p q : Option Addr} {len cap n c : Nat} {b l : List Int} (r : Sl EB h p len cap b) (r2 : Row EI h q n l) (hl : len ≤ 40000) (hn : n ≤ 1000) : PureS (D N (d + 3)) 147 [.slice p len cap, .slice q n c] h s (fun v h' s' =>
    if n ≤ 24 then ∃ p', v = .tuple ⟨[.slice p' (len + (1 + n * 8)) (len + (1 + n * 8)), vi 0]⟩ ∧ OwnG EB 5 h' s p' (len + (1 + n * 8)) (b ++ lis l) else v = .tuple ⟨[.slice none 0 0, vi 16]⟩) := by
  refine PureS.of hf fun K pw Z g hp hk => ?_
  rw [D_147]; unfold F147; rw [app2_eq]
  have hql := r2.1
  by_cases h24 : (24 : Int) < (n : Int)
  · try simp (disch := first | assumption | omega | (simp only [Int.ofNat_eq_natCast, neg_one]; done) | (simp only [Int.ofNat_eq_natCast, neg_one]; omega)) only [tysW, w_bindJ, w_logJ, w_ct, w_cf, w_gtt, w_gft, w_gtf, w_gff, w_pt, w_pf, w_lret, w_e0, w_e1, w_e2, w_nil, w_fun, w_nt, w_nf, w_add, w_sub, w_eqt, w_eqf, w_net, w_nef, w_ltt, w_ltf, w_let, w_lef, w_gtt', w_gtf', w_get, w_gef, toNat_of, of_add, cast_add, nth_0, nth_s, Nat.zero_add, Nat.reduceAdd, Nat.reduceMul, Nat.add_zero, List.length_cons, List.length_nil, List.drop_zero, List.drop_succ_cons, List.take_succ_cons, List.take_zero, List.take_nil, true_and, and_true, Int.toNat_natCast, List.append_nil, List.nil_append, List.cons_append]
    refine hk _ _ _ g ?_
    rw [if_neg (by omega)]; rfl
  · try simp (disch := first | assumption | omega | (simp only [Int.ofNat_eq_natCast, neg_one]; done) | (simp only [Int.ofNat_eq_natCast, neg_one]; omega)) only [tysW, w_bindJ, w_logJ, w_ct, w_cf, w_gtt, w_gft, w_gtf, w_gff, w_pt, w_pf, w_lret, w_e0, w_e1, w_e2, w_nil, w_fun, w_nt, w_nf, w_add, w_sub, w_eqt, w_eqf, w_net, w_nef, w_ltt, w_ltf, w_let, w_lef, w_gtt', w_gtf', w_get, w_gef, toNat_of, of_add, cast_add, nth_0, nth_s, Nat.zero_add, Nat.reduceAdd, Nat.reduceMul, Nat.add_zero, List.length_cons, List.length_nil, List.drop_zero, List.drop_succ_cons, List.take_succ_cons, List.take_zero, List.take_nil, true_and, and_true, Int.toNat_natCast, List.append_nil, List.nil_append, List.cons_append]
    refine wp_newF g hp fun h1 g1 c1 b1 => ?_
    try simp (disch := first | assumption | omega | (simp only [Int.ofNat_eq_natCast, neg_one]; done) | (simp only [Int.ofNat_eq_natCast, neg_one]; omega)) only [tysW, w_bindJ, w_logJ, w_ct, w_cf, w_gtt, w_gft, w_gtf, w_gff, w_pt, w_pf, w_lret, w_e0, w_e1, w_e2, w_nil, w_fun, w_nt, w_nf, w_add, w_sub, w_eqt, w_eqf, w_net, w_nef, w_ltt, w_ltf, w_let, w_lef, w_gtt', w_gtf', w_get, w_gef, toNat_of, of_add, cast_add, nth_0, nth_s, Nat.zero_add, Nat.reduceAdd, Nat.reduceMul, Nat.add_zero, List.length_cons, List.length_nil, List.drop_zero, List.drop_succ_cons, List.take_succ_cons, List.take_zero, List.take_nil, true_and, and_true, Int.toNat_natCast, List.append_nil, List.nil_append, List.cons_append]
    refine PureS.go g1 hp (s141 (d := d) (w := 1) hN g1.fresh (.inl rfl) (r.from hf g1) (Row.of_cells (E := EI) (l := [(n : Int)]) b1 rfl) (by omega) (by omega)) fun v h2 s2 g2 c2 hv => ?_
    have l2 := c2.le
    rw [if_pos (by simp [fitsW]; omega)] at hv
    obtain ⟨p', rfl, o⟩ := hv
    try simp (disch := first | assumption | omega | (simp only [Int.ofNat_eq_natCast, neg_one]; done) | (simp only [Int.ofNat_eq_natCast, neg_one]; omega)) only [tysW, w_bindJ, w_logJ, w_ct, w_cf, w_gtt, w_gft, w_gtf, w_gff, w_pt, w_pf, w_lret, w_e0, w_e1, w_e2, w_nil, w_fun, w_nt, w_nf, w_add, w_sub, w_eqt, w_eqf, w_net, w_nef, w_ltt, w_ltf, w_let, w_lef, w_gtt', w_gtf', w_get, w_gef, toNat_of, of_add, cast_add, nth_0, nth_s, Nat.zero_add, Nat.reduceAdd, Nat.reduceMul, Nat.add_zero, List.length_cons, List.length_nil, List.drop_zero, List.drop_succ_cons, List.take_succ_cons, List.take_zero, List.take_nil, true_and, and_true, Int.toNat_natCast, List.append_nil, List.nil_append, List.cons_append]
    refine PureS.go g2 hp (s141 (d := d) (w := 8) hN g2.fresh (.inr (.inr (.inr rfl))) o.sl (g2.row hf r2) (by omega) (by omega)) fun v h3 s3 g3 c3 hv => ?_
    rw [if_pos (fits8 l)] at hv
    obtain ⟨p3, rfl, o3⟩ := hv
    try simp (disch := first | assumption | omega | (simp only [Int.ofNat_eq_natCast, neg_one]; done) | (simp only [Int.ofNat_eq_natCast, neg_one]; omega)) only [tysW, w_bindJ, w_logJ, w_ct, w_cf, w_gtt, w_gft, w_gtf, w_gff, w_pt, w_pf, w_lret, w_e0, w_e1, w_e2, w_nil, w_fun, w_nt, w_nf, w_add, w_sub, w_eqt, w_eqf, w_net, w_nef, w_ltt, w_ltf, w_let, w_lef, w_gtt', w_gtf', w_get, w_gef, toNat_of, of_add, cast_add, nth_0, nth_s, Nat.zero_add, Nat.reduceAdd, Nat.reduceMul, Nat.add_zero, List.length_cons, List.length_nil, List.drop_zero, List.drop_succ_cons, List.take_succ_cons, List.take_zero, List.take_nil, true_and, and_true, Int.toNat_natCast, List.append_nil, List.nil_append, List.cons_append]
    refine hk _ _ _ g3 ?_
    rw [if_pos (by omega)]
    rw [show len + 1 * 1 + n * 8 = len + (1 + n * 8) by omega] at o3 ⊢
    refine ⟨p3, rfl, ?_⟩
    rw [List.append_assoc] at o3
    unfold lis
    rw [hql]
    exact o3.less (by omega)
end
theorem fit1' (n : Value) (K : KV) (s : Nat) : mulX P 3 3 true false (i64 8) (vi 1) (fun v11 s => convX P 3 168 v11 (fun v12 s => shlX P 3 168 true false (i64 1) v12 (fun v13 s => ltX P 3 3 false false n v13 K s) s) s) s = ltX P 3 3 false false n (vi 256) K s := by kernel_rfl
theorem fit2' (n : Value) (K : KV) (s : Nat) : mulX P 3 3 true false (i64 8) (vi 2) (fun v11 s => convX P 3 168 v11 (fun v12 s => shlX P 3 168 true false (i64 1) v12 (fun v13 s => ltX P 3 3 false false n v13 K s) s) s) s = ltX P 3 3 false false n (vi 65536) K s := by kernel_rfl
theorem fit4' (n : Value) (K : KV) (s : Nat) : mulX P 3 3 true false (i64 8) (vi 4) (fun v11 s => convX P 3 168 v11 (fun v12 s => shlX P 3 168 true false (i64 1) v12 (fun v13 s => ltX P 3 3 false false n v13 K s) s) s) s = ltX P 3 3 false false n (vi 4294967296) K s := by kernel_rfl
theorem remU (x : Int) {b : Int} (hb : b ≠ 0) (k : KV) (s : Nat) : remX P 180 180 false true (.int .u64 x) (.int .u64 b) k s = k (.int .u64 (x.tmod b)) s := by
  show Bool.rec (motive := fun _ => AM) (k (.int .u64 (x.tmod b)) s) _ (eqZ b (.ofNat 0)) = _
  rw [eqZ_eq, show (b == Int.ofNat 0) = false by simpa using hb]
theorem quoU (x : Int) {b : Int} (hb : b ≠ 0) (k : KV) (s : Nat) : quoX P 180 180 false true (.int .u64 x) (.int .u64 b) k s = k (.int .u64 (IntKind.u64.wrap (x.tdiv b))) s := by
  show Bool.rec (motive := fun _ => AM) (k (.int .u64 (wrapZ .u64 (x.tdiv b))) s) _ (eqZ b (.ofNat 0)) = _
  rw [eqZ_eq, show (b == Int.ofNat 0) = false by simpa using hb, wrapZ_eq]
theorem rem64 (x : Int) (k : KV) (s : Nat) : remX P 180 180 false true (.int .u64 x) (.int .u64 (.ofNat 256)) k s = k (.int .u64 (x.tmod 256)) s := remU x (by decide) k s
theorem quo64 (x : Int) (k : KV) (s : Nat) : quoX P 180 180 false true (.int .u64 x) (.int .u64 (.ofNat 256)) k s = k (.int .u64 (IntKind.u64.wrap (x.tdiv 256))) s := quoU x (by decide) k s
theorem ms1 (K : KV) (s : Nat) : amakeSlice P 25 (vi 1) (vi 1) K s = anew (.cells ⟨(List.replicate 1 (0 : Int)).flatMap EB.f⟩ 5 (0, 0)) (fun b => K (.slice (some ⟨b, 0, none⟩) 1 1)) s := by kernel_rfl
theorem ms2 (K : KV) (s : Nat) : amakeSlice P 25 (vi 2) (vi 2) K s = anew (.cells ⟨(List.replicate 2 (0 : Int)).flatMap EB.f⟩ 5 (0, 0)) (fun b => K (.slice (some ⟨b, 0, none⟩) 2 2)) s := by kernel_rfl
theorem ms4 (K : KV) (s : Nat) : amakeSlice P 25 (vi 4) (vi 4) K s = anew (.cells ⟨(List.replicate 4 (0 : Int)).flatMap EB.f⟩ 5 (0, 0)) (fun b => K (.slice (some ⟨b, 0, none⟩) 4 4)) s := by kernel_rfl
theorem ms8 (K : KV) (s : Nat) : amakeSlice P 25 (vi 8) (vi 8) K s = anew (.cells ⟨(List.replicate 8 (0 : Int)).flatMap EB.f⟩ 5 (0, 0)) (fun b => K (.slice (some ⟨b, 0, none⟩) 8 8)) s := by kernel_rfl
theorem msW {w : Nat} (hw : isW w) (K : KV) (s : Nat) : amakeSlice P 25 (vi w) (vi w) K s = anew (.cells ⟨(List.replicate w (0 : Int)).flatMap EB.f⟩ 5 (0, 0)) (fun b => K (.slice (some ⟨b, 0, none⟩) w w)) s := by
  rcases hw with rfl | rfl | rfl | rfl
  · exact ms1 K s
  · exact ms2 K s
  · exact ms4 K s
  · exact ms8 K s
theorem flatB : ∀ l : List Int, l.flatMap EB.f = l.map u8
  | [] => rfl
  | x :: l => by rw [List.flatMap_cons, flatB l]; rfl
theorem set_place (cs : List Value) (i : Nat) (v : Value) (hi : i < cs.length) : overL cs i [v] = cs.set i v := by
  induction cs generalizing i with
  | nil => simp at hi
  | cons x cs ih =>
    cases i with
    | zero => cases cs <;> rfl
    | succ i =>
      show x :: overL cs i [v] = _
      rw [ih i (by simpa using hi)]; rfl
theorem set_byte (i : Nat) (x : Int) (m : List Int) : overL ((List.replicate (i + 1) (0 : Int) ++ m).flatMap EB.f) i [u8 x] = (List.replicate i (0 : Int) ++ (x :: m)).flatMap EB.f := by
  rw [flatB, set_place _ _ _ (by simp; omega), flatB, ← List.map_set]
  congr 1
  rw [List.replicate_succ', List.append_assoc, List.set_append_right _ _ (by simp)]
  simp
theorem u64_div (n : Int) (j : Nat) (hj : j < 8) : (n % 18446744073709551616 / 256 ^ j).tmod 256 % 256 = byteN n j ∧ (n % 18446744073709551616 / 256 ^ j).tdiv 256 % 18446744073709551616 = n % 18446744073709551616 / 256 ^ (j + 1) := by
  have h0 : 0 ≤ n % 18446744073709551616 / 256 ^ j := Int.ediv_nonneg (by omega) (Int.le_of_lt (Int.pow_pos (by decide)))
  have h1 : n % 18446744073709551616 / 256 ^ j ≤ n % 18446744073709551616 := Int.ediv_le_self _ (by omega)
  rw [← div_div]
  refine ⟨?_, ?_⟩
  · rw [Int.tmod_eq_emod_of_nonneg h0, Int.emod_emod_of_dvd _ (by decide)]
    exact byte_u64 n j hj
  · rw [Int.tdiv_eq_ediv_of_nonneg h0]
    generalize n % 18446744073709551616 / 256 ^ j = y at *
    omega
section
variable {N d : Nat} {h : T} {s : Nat} (hf : ∀ n, s ≤ n → h.get n = none)
include hf
theorem s169 (n : Int) {w : Nat} (hw : isW w) : ValS (D N (d + 1)) 169 [vi n, vi w] h s (.bool (fitsW w n)) := by
  refine ValS.of hf fun K pw Z g hp hk => ?_
  have hk := hk _ _ g
  rw [D_169]; unfold F169; rw [app2_eq]
  by_cases h8 : w = 8
  · subst h8
    try simp (disch := first | assumption | omega | (simp only [Int.ofNat_eq_natCast, neg_one]; done) | (simp only [Int.ofNat_eq_natCast, neg_one]; omega)) only [tysW, w_bindJ, w_logJ, w_ct, w_cf, w_gtt, w_gft, w_gtf, w_gff, w_pt, w_pf, w_lret, w_e0, w_e1, w_e2, w_nil, w_fun, w_nt, w_nf, w_add, w_sub, w_eqt, w_eqf, w_net, w_nef, w_ltt, w_ltf, w_let, w_lef, w_gtt', w_gtf', w_get, w_gef, toNat_of, of_add, cast_add, nth_0, nth_s, Nat.zero_add, Nat.reduceAdd, Nat.reduceMul, Nat.add_zero, List.length_cons, List.length_nil, List.drop_zero, List.drop_succ_cons, List.take_succ_cons, List.take_zero, List.take_nil, true_and, and_true, Int.toNat_natCast, List.append_nil, List.nil_append, List.cons_append]
    unfold X169_1
    try simp (disch := first | assumption | omega | (simp only [Int.ofNat_eq_natCast, neg_one]; done) | (simp only [Int.ofNat_eq_natCast, neg_one]; omega)) only [tysW, w_bindJ, w_logJ, w_ct, w_cf, w_gtt, w_gft, w_gtf, w_gff, w_pt, w_pf, w_lret, w_e0, w_e1, w_e2, w_nil, w_fun, w_nt, w_nf, w_add, w_sub, w_eqt, w_eqf, w_net, w_nef, w_ltt, w_ltf, w_let, w_lef, w_gtt', w_gtf', w_get, w_gef, toNat_of, of_add, cast_add, nth_0, nth_s, Nat.zero_add, Nat.reduceAdd, Nat.reduceMul, Nat.add_zero, List.length_cons, List.length_nil, List.drop_zero, List.drop_succ_cons, List.take_succ_cons, List.take_zero, List.take_nil, true_and, and_true, Int.toNat_natCast, List.append_nil, List.nil_append, List.cons_append]
    exact hk
  · have h8' : ¬ (w : Int) = 8 := by omega
    have hw' : w = 1 ∨ w = 2 ∨ w = 4 := by rcases hw with rfl | rfl | rfl | rfl <;> simp at h8 ⊢
    by_cases h0 : 0 ≤ n
    · try simp (disch := first | assumption | omega | (simp only [Int.ofNat_eq_natCast, neg_one]; done) | (simp only [Int.ofNat_eq_natCast, neg_one]; omega)) only [tysW, w_bindJ, w_logJ, w_ct, w_cf, w_gtt, w_gft, w_gtf, w_gff, w_pt, w_pf, w_lret, w_e0, w_e1, w_e2, w_nil, w_fun, w_nt, w_nf, w_add, w_sub, w_eqt, w_eqf, w_net, w_nef, w_ltt, w_ltf, w_let, w_lef, w_gtt', w_gtf', w_get, w_gef, toNat_of, of_add, cast_add, nth_0, nth_s, Nat.zero_add, Nat.reduceAdd, Nat.reduceMul, Nat.add_zero, List.length_cons, List.length_nil, List.drop_zero, List.drop_succ_cons, List.take_succ_cons, List.take_zero, List.take_nil, true_and, and_true, Int.toNat_natCast, List.append_nil, List.nil_append, List.cons_append]
      unfold X169_1
      have e : fitsW w n = decide (n < 256 ^ w) := by unfold fitsW; rw [decide_eq_false h8]; simp [h0]
      rw [e] at hk
      rcases hw' with rfl | rfl | rfl
      · by_cases h1 : n < (256 : Int)
        · try simp (disch := first | assumption | omega | (simp only [Int.ofNat_eq_natCast, neg_one]; done) | (simp only [Int.ofNat_eq_natCast, neg_one]; omega)) only [tysW, w_bindJ, w_logJ, w_ct, w_cf, w_gtt, w_gft, w_gtf, w_gff, w_pt, w_pf, w_lret, w_e0, w_e1, w_e2, w_nil, w_fun, w_nt, w_nf, w_add, w_sub, w_eqt, w_eqf, w_net, w_nef, w_ltt, w_ltf, w_let, w_lef, w_gtt', w_gtf', w_get, w_gef, toNat_of, of_add, cast_add, nth_0, nth_s, Nat.zero_add, Nat.reduceAdd, Nat.reduceMul, Nat.add_zero, List.length_cons, List.length_nil, List.drop_zero, List.drop_succ_cons, List.take_succ_cons, List.take_zero, List.take_nil, true_and, and_true, Int.toNat_natCast, List.append_nil, List.nil_append, List.cons_append, fit1', Int.natCast_one, Int.cast_ofNat_Int]
          rw [decide_eq_true (by simpa using h1)] at hk; exact hk
        · try simp (disch := first | assumption | omega | (simp only [Int.ofNat_eq_natCast, neg_one]; done) | (simp only [Int.ofNat_eq_natCast, neg_one]; omega)) only [tysW, w_bindJ, w_logJ, w_ct, w_cf, w_gtt, w_gft, w_gtf, w_gff, w_pt, w_pf, w_lret, w_e0, w_e1, w_e2, w_nil, w_fun, w_nt, w_nf, w_add, w_sub, w_eqt, w_eqf, w_net, w_nef, w_ltt, w_ltf, w_let, w_lef, w_gtt', w_gtf', w_get, w_gef, toNat_of, of_add, cast_add, nth_0, nth_s, Nat.zero_add, Nat.reduceAdd, Nat.reduceMul, Nat.add_zero, List.length_cons, List.length_nil, List.drop_zero, List.drop_succ_cons, List.take_succ_cons, List.take_zero, List.take_nil, true_and, and_true, Int.toNat_natCast, List.append_nil, List.nil_append, List.cons_append, fit1', Int.natCast_one, Int.cast_ofNat_Int]
          rw [decide_eq_false (by simpa using h1)] at hk; exact hk
      · by_cases h1 : n < (65536 : Int)
        · try simp (disch := first | assumption | omega | (simp only [Int.ofNat_eq_natCast, neg_one]; done) | (simp only [Int.ofNat_eq_natCast, neg_one]; omega)) only [tysW, w_bindJ, w_logJ, w_ct, w_cf, w_gtt, w_gft, w_gtf, w_gff, w_pt, w_pf, w_lret, w_e0, w_e1, w_e2, w_nil, w_fun, w_nt, w_nf, w_add, w_sub, w_eqt, w_eqf, w_net, w_nef, w_ltt, w_ltf, w_let, w_lef, w_gtt', w_gtf', w_get, w_gef, toNat_of, of_add, cast_add, nth_0, nth_s, Nat.zero_add, Nat.reduceAdd, Nat.reduceMul, Nat.add_zero, List.length_cons, List.length_nil, List.drop_zero, List.drop_succ_cons, List.take_succ_cons, List.take_zero, List.take_nil, true_and, and_true, Int.toNat_natCast, List.append_nil, List.nil_append, List.cons_append, fit2', Int.cast_ofNat_Int]
          rw [decide_eq_true (by simpa using h1)] at hk; exact hk
        · try simp (disch := first | assumption | omega | (simp only [Int.ofNat_eq_natCast, neg_one]; done) | (simp only [Int.ofNat_eq_natCast, neg_one]; omega)) only [tysW, w_bindJ, w_logJ, w_ct, w_cf, w_gtt, w_gft, w_gtf, w_gff, w_pt, w_pf, w_lret, w_e0, w_e1, w_e2, w_nil, w_fun, w_nt, w_nf, w_add, w_sub, w_eqt, w_eqf, w_net, w_nef, w_ltt, w_ltf, w_let, w_lef, w_gtt', w_gtf', w_get, w_gef, toNat_of, of_add, cast_add, nth_0, nth_s, Nat.zero_add, Nat.reduceAdd, Nat.reduceMul, Nat.add_zero, List.length_cons, List.length_nil, List.drop_zero, List.drop_succ_cons, List.take_succ_cons, List.take_zero, List.take_nil, true_and, and_true, Int.toNat_natCast, List.append_nil, List.nil_append, List.cons_append, fit2', Int.cast_ofNat_Int]
          rw [decide_eq_false (by simpa using h1)] at hk; exact hk
      · by_cases h1 : n < (4294967296 : Int)
        · try simp (disch := first | assumption | omega | (simp only [Int.ofNat_eq_natCast, neg_one]; done) | (simp only [Int.ofNat_eq_natCast, neg_one]; omega)) only [tysW, w_bindJ, w_logJ, w_ct, w_cf, w_gtt, w_gft, w_gtf, w_gff, w_pt, w_pf, w_lret, w_e0, w_e1, w_e2, w_nil, w_fun, w_nt, w_nf, w_add, w_sub, w_eqt, w_eqf, w_net, w_nef, w_ltt, w_ltf, w_let, w_lef, w_gtt', w_gtf', w_get, w_gef, toNat_of, of_add, cast_add, nth_0, nth_s, Nat.zero_add, Nat.reduceAdd, Nat.reduceMul, Nat.add_zero, List.length_cons, List.length_nil, List.drop_zero, List.drop_succ_cons, List.take_succ_cons, List.take_zero, List.take_nil, true_and, and_true, Int.toNat_natCast, List.append_nil, List.nil_append, List.cons_append, fit4', Int.cast_ofNat_Int]
          rw [decide_eq_true (by simpa using h1)] at hk; exact hk
        · try simp (disch := first | assumption | omega | (simp only [Int.ofNat_eq_natCast, neg_one]; done) | (simp only [Int.ofNat_eq_natCast, neg_one]; omega)) only [tysW, w_bindJ, w_logJ, w_ct, w_cf, w_gtt, w_gft, w_gtf, w_gff, w_pt, w_pf, w_lret, w_e0, w_e1, w_e2, w_nil, w_fun, w_nt, w_nf, w_add, w_sub, w_eqt, w_eqf, w_net, w_nef, w_ltt, w_ltf, w_let, w_lef, w_gtt', w_gtf', w_get, w_gef, toNat_of, of_add, cast_add, nth_0, nth_s, Nat.zero_add, Nat.reduceAdd, Nat.reduceMul, Nat.add_zero, List.length_cons, List.length_nil, List.drop_zero, List.drop_succ_cons, List.take_succ_cons, List.take_zero, List.take_nil, true_and, and_true, Int.toNat_natCast, List.append_nil, List.nil_append, List.cons_append, fit4', Int.cast_ofNat_Int]
          rw [decide_eq_false (by simpa using h1)] at hk; exact hk
    · try simp (disch := first | assumption | omega | (simp only [Int.ofNat_eq_natCast, neg_one]; done) | (simp only [Int.ofNat_eq_natCast, neg_one]; omega)) only [tysW, w_bindJ, w_logJ, w_ct, w_cf, w_gtt, w_gft, w_gtf, w_gff, w_pt, w_pf, w_lret, w_e0, w_e1, w_e2, w_nil, w_fun, w_nt, w_nf, w_add, w_sub, w_eqt, w_eqf, w_net, w_nef, w_ltt, w_ltf, w_let, w_lef, w_gtt', w_gtf', w_get, w_gef, toNat_of, of_add, cast_add, nth_0, nth_s, Nat.zero_add, Nat.reduceAdd, Nat.reduceMul, Nat.add_zero, List.length_cons, List.length_nil, List.drop_zero, List.drop_succ_cons, List.take_succ_cons, List.take_zero, List.take_nil, true_and, and_true, Int.toNat_natCast, List.append_nil, List.nil_append, List.cons_append]
      unfold X169_1
      try simp (disch := first | assumption | omega | (simp only [Int.ofNat_eq_natCast, neg_one]; done) | (simp only [Int.ofNat_eq_natCast, neg_one]; omega)) only [tysW, w_bindJ, w_logJ, w_ct, w_cf, w_gtt, w_gft, w_gtf, w_gff, w_pt, w_pf, w_lret, w_e0, w_e1, w_e2, w_nil, w_fun, w_nt, w_nf, w_add, w_sub, w_eqt, w_eqf, w_net, w_nef, w_ltt, w_ltf, w_let, w_lef, w_gtt', w_gtf', w_get, w_gef, toNat_of, of_add, cast_add, nth_0, nth_s, Nat.zero_add, Nat.reduceAdd, Nat.reduceMul, Nat.add_zero, List.length_cons, List.length_nil, List.drop_zero, List.drop_succ_cons, List.take_succ_cons, List.take_zero, List.take_nil, true_and, and_true, Int.toNat_natCast, List.append_nil, List.nil_append, List.cons_append]
      have e : fitsW w n = false := by unfold fitsW; rw [decide_eq_false h8]; simp [h0]
      rw [e] at hk
      exact hk
end
section
variable {N d : Nat} (hN : 100000 ≤ N) {h : T} {s : Nat} (hf : ∀ n, s ≤ n → h.get n = none)
include hN hf
theorem s170 (n : Int) {w : Nat} (hw : isW w) : PureS (D N (d + 1)) 170 [vi n, vi w] h s (fun v h' s' => ∃ p', v = .slice p' w w ∧ OwnG EB 5 h' s p' w (be w n)) := by
  refine PureS.of hf fun K pw Z g hp hk => ?_
  rw [D_170]; unfold F170; rw [app2_eq, msW hw]
  have hw8 : w ≤ 8 := by rcases hw with rfl | rfl | rfl | rfl <;> omega
  refine wp_newF g hp fun h1 g1 c1 b1 => ?_
  try simp (disch := first | assumption | omega | (simp only [Int.ofNat_eq_natCast, neg_one]; done) | (simp only [Int.ofNat_eq_natCast, neg_one]; omega)) only [tysW, w_bindJ, w_logJ, w_ct, w_cf, w_gtt, w_gft, w_gtf, w_gff, w_pt, w_pf, w_lret, w_e0, w_e1, w_e2, w_nil, w_fun, w_nt, w_nf, w_add, w_sub, w_eqt, w_eqf, w_net, w_nef, w_ltt, w_ltf, w_let, w_lef, w_gtt', w_gtf', w_get, w_gef, toNat_of, of_add, cast_add, nth_0, nth_s, Nat.zero_add, Nat.reduceAdd, Nat.reduceMul, Nat.add_zero, List.length_cons, List.length_nil, List.drop_zero, List.drop_succ_cons, List.take_succ_cons, List.take_zero, List.take_nil, true_and, and_true, Int.toNat_natCast, List.append_nil, List.nil_append, List.cons_append, wrap_u64]
  have loop : ∀ (J : Nat → AM) (hJ : ∀ s', J s' = K (.slice (some ⟨s, 0, none⟩) w w) s') (B : (Value → Value → Nat → AM) → Value → Value → Nat → AM) (hB : ∀ H u i s', B H u i s' = X170_1 N (D N d) K (.slice (some ⟨s, 0, none⟩) w w) J H u i s') (m i : Nat) (h2 : T), i < m → i ≤ w → From s h h2 (s + 1) → h2.get s = some (.cells ⟨(List.replicate i (0 : Int) ++ be (w - i) n).flatMap EB.f⟩ 5 (0, 0)) →
      (loopJ m 2 (fun _ _ _ => AM.fail) B (.int .u64 (n % 18446744073709551616 / 256 ^ (w - i))) (vi ((i : Int) - 1)) (s + 1)).wp pw Z h2 := by
    intro J hJ B hB m
    induction m with
    | zero => intro i h2 hm; omega
    | succ m ih =>
      intro i h2 hm hi g2 b2
      rw [loopJ_succ, hB]
      unfold X170_1
      cases i with
      | zero =>
        try simp (disch := first | assumption | omega | (simp only [Int.ofNat_eq_natCast, neg_one]; done) | (simp only [Int.ofNat_eq_natCast, neg_one]; omega)) only [tysW, w_bindJ, w_logJ, w_ct, w_cf, w_gtt, w_gft, w_gtf, w_gff, w_pt, w_pf, w_lret, w_e0, w_e1, w_e2, w_nil, w_fun, w_nt, w_nf, w_add, w_sub, w_eqt, w_eqf, w_net, w_nef, w_ltt, w_ltf, w_let, w_lef, w_gtt', w_gtf', w_get, w_gef, toNat_of, of_add, cast_add, nth_0, nth_s, Nat.zero_add, Nat.reduceAdd, Nat.reduceMul, Nat.add_zero, List.length_cons, List.length_nil, List.drop_zero, List.drop_succ_cons, List.take_succ_cons, List.take_zero, List.take_nil, true_and, and_true, Int.toNat_natCast, List.append_nil, List.nil_append, List.cons_append]
        rw [hJ]
        exact hk _ _ _ g2 ⟨_, rfl, be_len n w, .inr ⟨s, 0, rfl, Nat.le_refl _, by simpa using b2, .inl rfl⟩⟩
      | succ i =>
        rw [show ((i + 1 : Nat) : Int) - 1 = (i : Int) by omega]
        obtain ⟨q1, q2⟩ := u64_div n (w - (i + 1)) (by omega)
        try simp (disch := first | assumption | omega | (simp only [Int.ofNat_eq_natCast, neg_one]; done) | (simp only [Int.ofNat_eq_natCast, neg_one]; omega)) only [tysW, w_bindJ, w_logJ, w_ct, w_cf, w_gtt, w_gft, w_gtf, w_gff, w_pt, w_pf, w_lret, w_e0, w_e1, w_e2, w_nil, w_fun, w_nt, w_nf, w_add, w_sub, w_eqt, w_eqf, w_net, w_nef, w_ltt, w_ltf, w_let, w_lef, w_gtt', w_gtf', w_get, w_gef, toNat_of, of_add, cast_add, nth_0, nth_s, Nat.zero_add, Nat.reduceAdd, Nat.reduceMul, Nat.add_zero, List.length_cons, List.length_nil, List.drop_zero, List.drop_succ_cons, List.take_succ_cons, List.take_zero, List.take_nil, true_and, and_true, Int.toNat_natCast, List.append_nil, List.nil_append, List.cons_append, rem64, wrap_u8]
        rw [q1]
        refine wp_putF g2 hp b2 (Nat.le_refl _) (by rw [flatB]; simp) rfl fun h3 g3 b3 e3 => ?_
        rw [set_byte] at b3
        try simp (disch := first | assumption | omega | (simp only [Int.ofNat_eq_natCast, neg_one]; done) | (simp only [Int.ofNat_eq_natCast, neg_one]; omega)) only [tysW, w_bindJ, w_logJ, w_ct, w_cf, w_gtt, w_gft, w_gtf, w_gff, w_pt, w_pf, w_lret, w_e0, w_e1, w_e2, w_nil, w_fun, w_nt, w_nf, w_add, w_sub, w_eqt, w_eqf, w_net, w_nef, w_ltt, w_ltf, w_let, w_lef, w_gtt', w_gtf', w_get, w_gef, toNat_of, of_add, cast_add, nth_0, nth_s, Nat.zero_add, Nat.reduceAdd, Nat.reduceMul, Nat.add_zero, List.length_cons, List.length_nil, List.drop_zero, List.drop_succ_cons, List.take_succ_cons, List.take_zero, List.take_nil, true_and, and_true, Int.toNat_natCast, List.append_nil, List.nil_append, List.cons_append, quo64, wrap_u64]
        rw [q2]
        have e : w - (i + 1) + 1 = w - i := by omega
        have e' : byteN n (w - (i + 1)) :: be (w - (i + 1)) n = be (w - i) n := by rw [← e]; rfl
        rw [e'] at b3
        rw [e]
        exact ih i h3 (by omega) (by omega) g3 b3
  have := loop (fun s' => K (.slice (some ⟨s, 0, none⟩) w w) s') (fun _ => rfl) _ (fun _ _ _ _ => rfl) N w h1 (by omega) (Nat.le_refl _) g1 (by simpa [be] using b1)
  rw [Nat.sub_self, Int.pow_zero, Int.ediv_one] at this
  exact this
theorem s148 {w : Nat} (hw : isW w) {p q : Option Addr} {len cap n c : Nat} {b l : List Int} (r : Sl EB h p len cap b) (r2 : Row EI h q n l) (hl : len ≤ 50000) (hn : n ≤ 1000) : PureS (D N (d + 2)) 148 [.slice p len cap, vi w, .slice q n c] h s (fun v h' s' =>
    if l.all (fitsW w) = true then ∃ p', v = .tuple ⟨[.slice p' (len + n * w) (len + n * w), vi 0]⟩ ∧ OwnG EB 5 h' s p' (len + n * w) (b ++ bys w l) else v = .tuple ⟨[.slice none 0 0, vi 4]⟩) := by
  refine PureS.of hf fun K pw Z g hp hk => ?_
  rw [D_148]; unfold F148; rw [app3_eq]
  refine ValS.go g hp (s168 (d := d) hf hw) fun h1 s1 g1 c1 => ?_
  try simp (disch := first | assumption | omega | (simp only [Int.ofNat_eq_natCast, neg_one]; done) | (simp only [Int.ofNat_eq_natCast, neg_one]; omega)) only [tysW, w_bindJ, w_logJ, w_ct, w_cf, w_gtt, w_gft, w_gtf, w_gff, w_pt, w_pf, w_lret, w_e0, w_e1, w_e2, w_nil, w_fun, w_nt, w_nf, w_add, w_sub, w_eqt, w_eqf, w_net, w_nef, w_ltt, w_ltf, w_let, w_lef, w_gtt', w_gtf', w_get, w_gef, toNat_of, of_add, cast_add, nth_0, nth_s, Nat.zero_add, Nat.reduceAdd, Nat.reduceMul, Nat.add_zero, List.length_cons, List.length_nil, List.drop_zero, List.drop_succ_cons, List.take_succ_cons, List.take_zero, List.take_nil, true_and, and_true, Int.toNat_natCast, List.append_nil, List.nil_append, List.cons_append]
  have l1 := c1.le
  have hql := r2.1
  have hw8 : w ≤ 8 := by rcases hw with rfl | rfl | rfl | rfl <;> omega
  refine wp_newF g1 hp fun h2 g2 c2 b2 => ?_
  try simp (disch := first | assumption | omega | (simp only [Int.ofNat_eq_natCast, neg_one]; done) | (simp only [Int.ofNat_eq_natCast, neg_one]; omega)) only [tysW, w_bindJ, w_logJ, w_ct, w_cf, w_gtt, w_gft, w_gtf, w_gff, w_pt, w_pf, w_lret, w_e0, w_e1, w_e2, w_nil, w_fun, w_nt, w_nf, w_add, w_sub, w_eqt, w_eqf, w_net, w_nef, w_ltt, w_ltf, w_let, w_lef, w_gtt', w_gtf', w_get, w_gef, toNat_of, of_add, cast_add, nth_0, nth_s, Nat.zero_add, Nat.reduceAdd, Nat.reduceMul, Nat.add_zero, List.length_cons, List.length_nil, List.drop_zero, List.drop_succ_cons, List.take_succ_cons, List.take_zero, List.take_nil, true_and, and_true, Int.toNat_natCast, List.append_nil, List.nil_append, List.cons_append]
  refine apG (E := EB) (l := []) (len := 0) (t := s1) g2 hp ⟨rfl, .inr ⟨s1, 0, rfl, Nat.le_refl _, b2, .inl rfl⟩⟩ l1 (by omega) (r.from hf g2).row (fun _ => rfl) (by omega) fun p2 h3 s3 g3 l3 o3 e3 => ?_
  rw [List.nil_append, Nat.zero_add] at *
  try simp (disch := first | assumption | omega | (simp only [Int.ofNat_eq_natCast, neg_one]; done) | (simp only [Int.ofNat_eq_natCast, neg_one]; omega)) only [tysW, w_bindJ, w_logJ, w_ct, w_cf, w_gtt, w_gft, w_gtf, w_gff, w_pt, w_pf, w_lret, w_e0, w_e1, w_e2, w_nil, w_fun, w_nt, w_nf, w_add, w_sub, w_eqt, w_eqf, w_net, w_nef, w_ltt, w_ltf, w_let, w_lef, w_gtt', w_gtf', w_get, w_gef, toNat_of, of_add, cast_add, nth_0, nth_s, Nat.zero_add, Nat.reduceAdd, Nat.reduceMul, Nat.add_zero, List.length_cons, List.length_nil, List.drop_zero, List.drop_succ_cons, List.take_succ_cons, List.take_zero, List.take_nil, true_and, and_true, Int.toNat_natCast, List.append_nil, List.nil_append, List.cons_append]
  have loop : ∀ (J : Value → Nat → AM) (hJ : ∀ v s, J v s = K (.tuple ⟨[v, i64 0]⟩) s) (B : (Value → Value → Value → Value → Nat → AM) → Value → Value → Value → Value → Nat → AM) (hB : ∀ H u v x i s', B H u v x i s' = X148_1 N (D N (d + 1)) K (.slice q n c) (vi w) J H u v x i s') (m i : Nat) (u v : Value) (p3 : Option Addr) (h4 : T) (s4 : Nat), n - i < m → i ≤ n → From s h h4 s4 → s3 ≤ s4 → OwnG EB 5 h4 s1 p3 (len + i * w) (b ++ bys w (l.take i)) → (l.take i).all (fitsW w) = true →
      (loopJ m 4 (fun _ _ _ _ _ => AM.fail) B u v (.slice p3 (len + i * w) (len + i * w)) (vi i) s4).wp pw Z h4 := by
    intro J hJ B hB m
    induction m with
    | zero => intro i u v p3 h3 s3 hm; omega
    | succ m ih =>
      intro i u v p3 h4 s4 hm hin g4 hs4 o4 ha
      have r4 := g4.row hf r2
      rw [loopJ_succ, hB]
      unfold X148_1
      by_cases hlt : i < n
      · obtain ⟨x, hx⟩ := get_some (l := l) (i := i) (by rw [r2.1]; exact hlt)
        have hxm : x ∈ l := List.mem_of_getElem? hx
        try simp (disch := first | assumption | omega | (simp only [Int.ofNat_eq_natCast, neg_one]; done) | (simp only [Int.ofNat_eq_natCast, neg_one]; omega)) only [tysW, w_bindJ, w_logJ, w_ct, w_cf, w_gtt, w_gft, w_gtf, w_gff, w_pt, w_pf, w_lret, w_e0, w_e1, w_e2, w_nil, w_fun, w_nt, w_nf, w_add, w_sub, w_eqt, w_eqf, w_net, w_nef, w_ltt, w_ltf, w_let, w_lef, w_gtt', w_gtf', w_get, w_gef, toNat_of, of_add, cast_add, nth_0, nth_s, Nat.zero_add, Nat.reduceAdd, Nat.reduceMul, Nat.add_zero, List.length_cons, List.length_nil, List.drop_zero, List.drop_succ_cons, List.take_succ_cons, List.take_zero, List.take_nil, true_and, and_true, Int.toNat_natCast, List.append_nil, List.nil_append, List.cons_append, xaI r4 (j := (i : Int)) (by omega) (by omega), r4.int hx]
        refine ValS.go g4 hp (s169 (d := d) g4.fresh x hw) fun h5 s5 g5 c5 => ?_
        have r5 := g5.row hf r2
        have l5 := c5.le
        have hmul : i * w ≤ 8000 := by
          calc i * w ≤ 1000 * 8 := Nat.mul_le_mul (by omega) hw8
          _ = 8000 := rfl
        cases hb : fitsW w x with
        | false =>
          try simp (disch := first | assumption | omega | (simp only [Int.ofNat_eq_natCast, neg_one]; done) | (simp only [Int.ofNat_eq_natCast, neg_one]; omega)) only [tysW, w_bindJ, w_logJ, w_ct, w_cf, w_gtt, w_gft, w_gtf, w_gff, w_pt, w_pf, w_lret, w_e0, w_e1, w_e2, w_nil, w_fun, w_nt, w_nf, w_add, w_sub, w_eqt, w_eqf, w_net, w_nef, w_ltt, w_ltf, w_let, w_lef, w_gtt', w_gtf', w_get, w_gef, toNat_of, of_add, cast_add, nth_0, nth_s, Nat.zero_add, Nat.reduceAdd, Nat.reduceMul, Nat.add_zero, List.length_cons, List.length_nil, List.drop_zero, List.drop_succ_cons, List.take_succ_cons, List.take_zero, List.take_nil, true_and, and_true, Int.toNat_natCast, List.append_nil, List.nil_append, List.cons_append]
          refine hk _ _ _ g5 ?_
          rw [if_neg]
          · rfl
          · rw [Bool.not_eq_true, List.all_eq_false]
            exact ⟨x, hxm, by simp [hb]⟩
        | true =>
          try simp (disch := first | assumption | omega | (simp only [Int.ofNat_eq_natCast, neg_one]; done) | (simp only [Int.ofNat_eq_natCast, neg_one]; omega)) only [tysW, w_bindJ, w_logJ, w_ct, w_cf, w_gtt, w_gft, w_gtf, w_gff, w_pt, w_pf, w_lret, w_e0, w_e1, w_e2, w_nil, w_fun, w_nt, w_nf, w_add, w_sub, w_eqt, w_eqf, w_net, w_nef, w_ltt, w_ltf, w_let, w_lef, w_gtt', w_gtf', w_get, w_gef, toNat_of, of_add, cast_add, nth_0, nth_s, Nat.zero_add, Nat.reduceAdd, Nat.reduceMul, Nat.add_zero, List.length_cons, List.length_nil, List.drop_zero, List.drop_succ_cons, List.take_succ_cons, List.take_zero, List.take_nil, true_and, and_true, Int.toNat_natCast, List.append_nil, List.nil_append, List.cons_append, xaI r5 (j := (i : Int)) (by omega) (by omega), r5.int hx]
          refine PureS.go g5 hp (s170 (d := d) hN g5.fresh x hw) fun v h6 s6 g6 c6 hv => ?_
          obtain ⟨p6, rfl, o6⟩ := hv
          have l6 := c6.le
          have o4' := (o4.from g4.fresh c5).from g5.fresh c6
          try simp (disch := first | assumption | omega | (simp only [Int.ofNat_eq_natCast, neg_one]; done) | (simp only [Int.ofNat_eq_natCast, neg_one]; omega)) only [tysW, w_bindJ, w_logJ, w_ct, w_cf, w_gtt, w_gft, w_gtf, w_gff, w_pt, w_pf, w_lret, w_e0, w_e1, w_e2, w_nil, w_fun, w_nt, w_nf, w_add, w_sub, w_eqt, w_eqf, w_net, w_nef, w_ltt, w_ltf, w_let, w_lef, w_gtt', w_gtf', w_get, w_gef, toNat_of, of_add, cast_add, nth_0, nth_s, Nat.zero_add, Nat.reduceAdd, Nat.reduceMul, Nat.add_zero, List.length_cons, List.length_nil, List.drop_zero, List.drop_succ_cons, List.take_succ_cons, List.take_zero, List.take_nil, true_and, and_true, Int.toNat_natCast, List.append_nil, List.nil_append, List.cons_append]
          refine apG (E := EB) (t := s1) g6 hp o4' l1 (by omega) o6.sl.row (fun _ => rfl) (by omega) fun p7 h7 s7 g7 l7 o7 e7 => ?_
          try simp (disch := first | assumption | omega | (simp only [Int.ofNat_eq_natCast, neg_one]; done) | (simp only [Int.ofNat_eq_natCast, neg_one]; omega)) only [tysW, w_bindJ, w_logJ, w_ct, w_cf, w_gtt, w_gft, w_gtf, w_gff, w_pt, w_pf, w_lret, w_e0, w_e1, w_e2, w_nil, w_fun, w_nt, w_nf, w_add, w_sub, w_eqt, w_eqf, w_net, w_nef, w_ltt, w_ltf, w_let, w_lef, w_gtt', w_gtf', w_get, w_gef, toNat_of, of_add, cast_add, nth_0, nth_s, Nat.zero_add, Nat.reduceAdd, Nat.reduceMul, Nat.add_zero, List.length_cons, List.length_nil, List.drop_zero, List.drop_succ_cons, List.take_succ_cons, List.take_zero, List.take_nil, true_and, and_true, Int.toNat_natCast, List.append_nil, List.nil_append, List.cons_append]
          have e : len + i * w + w = len + (i + 1) * w := by rw [Nat.succ_mul]; omega
          rw [e] at o7 ⊢
          refine ih (i + 1) u v p7 h7 s7 (by omega) (by omega) g7 (by omega) ?_ ?_
          · rw [bys_take hx, ← List.append_assoc]; exact o7
          · rw [take_succ hx, List.all_append, ha]; simp [hb]
      · obtain rfl : i = n := by omega
        try simp (disch := first | assumption | omega | (simp only [Int.ofNat_eq_natCast, neg_one]; done) | (simp only [Int.ofNat_eq_natCast, neg_one]; omega)) only [tysW, w_bindJ, w_logJ, w_ct, w_cf, w_gtt, w_gft, w_gtf, w_gff, w_pt, w_pf, w_lret, w_e0, w_e1, w_e2, w_nil, w_fun, w_nt, w_nf, w_add, w_sub, w_eqt, w_eqf, w_net, w_nef, w_ltt, w_ltf, w_let, w_lef, w_gtt', w_gtf', w_get, w_gef, toNat_of, of_add, cast_add, nth_0, nth_s, Nat.zero_add, Nat.reduceAdd, Nat.reduceMul, Nat.add_zero, List.length_cons, List.length_nil, List.drop_zero, List.drop_succ_cons, List.take_succ_cons, List.take_zero, List.take_nil, true_and, and_true, Int.toNat_natCast, List.append_nil, List.nil_append, List.cons_append]
        rw [hJ]
        refine hk _ _ _ g4 ?_
        rw [List.take_of_length_le (by omega)] at o4 ha
        rw [if_pos ha]
        exact ⟨p3, rfl, o4.less l1⟩
  have := loop (fun v7 s => K (.tuple ⟨[v7, i64 0]⟩) s) (fun _ _ => rfl) _ (fun _ _ _ _ _ _ => rfl) N 0 (.slice none 0 0) (i64 0) p2 h3 s3 (by omega) (by omega) g3 (Nat.le_refl _) (by simpa [bys] using o3) rfl
  rw [Nat.zero_mul, Nat.add_zero] at this
  exact this
theorem s91 {p q : Option Addr} {len cap n c : Nat} {b l : List Int} (r : Sl EB h p len cap b) (r2 : Row EI h q n l) (hl : len ≤ 40000) (hn : n ≤ 1000) : PureS (D N (d + 3)) 91 [.slice p len cap, .slice q n c] h s (fun v h' s' =>
    if n ≤ 24 then ∃ p', v = .tuple ⟨[.slice p' (len + (1 + n * 8)) (len + (1 + n * 8)), vi 0]⟩ ∧ OwnG EB 5 h' s p' (len + (1 + n * 8)) (b ++ lis l) else v = .tuple ⟨[.slice none 0 0, vi 16]⟩) := by
  refine PureS.of hf fun K pw Z g hp hk => ?_
  rw [D_91]; unfold F91; rw [app2_eq]
  have hql := r2.1
  by_cases h24 : (24 : Int) < (n : Int)
  · try simp (disch := first | assumption | omega | (simp only [Int.ofNat_eq_natCast, neg_one]; done) | (simp only [Int.ofNat_eq_natCast, neg_one]; omega)) only [tysW, w_bindJ, w_logJ, w_ct, w_cf, w_gtt, w_gft, w_gtf, w_gff, w_pt, w_pf, w_lret, w_e0, w_e1, w_e2, w_nil, w_fun, w_nt, w_nf, w_add, w_sub, w_eqt, w_eqf, w_net, w_nef, w_ltt, w_ltf, w_let, w_lef, w_gtt', w_gtf', w_get, w_gef, toNat_of, of_add, cast_add, nth_0, nth_s, Nat.zero_add, Nat.reduceAdd, Nat.reduceMul, Nat.add_zero, List.length_cons, List.length_nil, List.drop_zero, List.drop_succ_cons, List.take_succ_cons, List.take_zero, List.take_nil, true_and, and_true, Int.toNat_natCast, List.append_nil, List.nil_append, List.cons_append]
    refine hk _ _ _ g ?_
    rw [if_neg (by omega)]; rfl
  · try simp (disch := first | assumption | omega | (simp only [Int.ofNat_eq_natCast, neg_one]; done) | (simp only [Int.ofNat_eq_natCast, neg_one]; omega)) only [tysW, w_bindJ, w_logJ, w_ct, w_cf, w_gtt, w_gft, w_gtf, w_gff, w_pt, w_pf, w_lret, w_e0, w_e1, w_e2, w_nil, w_fun, w_nt, w_nf, w_add, w_sub, w_eqt, w_eqf, w_net, w_nef, w_ltt, w_ltf, w_let, w_lef, w_gtt', w_gtf', w_get, w_gef, toNat_of, of_add, cast_add, nth_0, nth_s, Nat.zero_add, Nat.reduceAdd, Nat.reduceMul, Nat.add_zero, List.length_cons, List.length_nil, List.drop_zero, List.drop_succ_cons, List.take_succ_cons, List.take_zero, List.take_nil, true_and, and_true, Int.toNat_natCast, List.append_nil, List.nil_append, List.cons_append]
    refine wp_newF g hp fun h1 g1 c1 b1 => ?_
    try simp (disch := first | assumption | omega | (simp only [Int.ofNat_eq_natCast, neg_one]; done) | (simp only [Int.ofNat_eq_natCast, neg_one]; omega)) only [tysW, w_bindJ, w_logJ, w_ct, w_cf, w_gtt, w_gft, w_gtf, w_gff, w_pt, w_pf, w_lret, w_e0, w_e1, w_e2, w_nil, w_fun, w_nt, w_nf, w_add, w_sub, w_eqt, w_eqf, w_net, w_nef, w_ltt, w_ltf, w_let, w_lef, w_gtt', w_gtf', w_get, w_gef, toNat_of, of_add, cast_add, nth_0, nth_s, Nat.zero_add, Nat.reduceAdd, Nat.reduceMul, Nat.add_zero, List.length_cons, List.length_nil, List.drop_zero, List.drop_succ_cons, List.take_succ_cons, List.take_zero, List.take_nil, true_and, and_true, Int.toNat_natCast, List.append_nil, List.nil_append, List.cons_append]
    refine apG (E := EB) (l := []) (len := 0) (t := s) g1 hp ⟨rfl, .inr ⟨s, 0, rfl, Nat.le_refl _, b1, .inl rfl⟩⟩ (Nat.le_refl _) (by omega) (r.from hf g1).row (fun _ => rfl) (by omega) fun p2 h2 s2 g2 l2 o2 e2 => ?_
    rw [List.nil_append, Nat.zero_add] at *
    try simp (disch := first | assumption | omega | (simp only [Int.ofNat_eq_natCast, neg_one]; done) | (simp only [Int.ofNat_eq_natCast, neg_one]; omega)) only [tysW, w_bindJ, w_logJ, w_ct, w_cf, w_gtt, w_gft, w_gtf, w_gff, w_pt, w_pf, w_lret, w_e0, w_e1, w_e2, w_nil, w_fun, w_nt, w_nf, w_add, w_sub, w_eqt, w_eqf, w_net, w_nef, w_ltt, w_ltf, w_let, w_lef, w_gtt', w_gtf', w_get, w_gef, toNat_of, of_add, cast_add, nth_0, nth_s, Nat.zero_add, Nat.reduceAdd, Nat.reduceMul, Nat.add_zero, List.length_cons, List.length_nil, List.drop_zero, List.drop_succ_cons, List.take_succ_cons, List.take_zero, List.take_nil, true_and, and_true, Int.toNat_natCast, List.append_nil, List.nil_append, List.cons_append, wrap_u8]
    refine wp_newF g2 hp fun h3 g3 c3 b3 => ?_
    try simp (disch := first | assumption | omega | (simp only [Int.ofNat_eq_natCast, neg_one]; done) | (simp only [Int.ofNat_eq_natCast, neg_one]; omega)) only [tysW, w_bindJ, w_logJ, w_ct, w_cf, w_gtt, w_gft, w_gtf, w_gff, w_pt, w_pf, w_lret, w_e0, w_e1, w_e2, w_nil, w_fun, w_nt, w_nf, w_add, w_sub, w_eqt, w_eqf, w_net, w_nef, w_ltt, w_ltf, w_let, w_lef, w_gtt', w_gtf', w_get, w_gef, toNat_of, of_add, cast_add, nth_0, nth_s, Nat.zero_add, Nat.reduceAdd, Nat.reduceMul, Nat.add_zero, List.length_cons, List.length_nil, List.drop_zero, List.drop_succ_cons, List.take_succ_cons, List.take_zero, List.take_nil, true_and, and_true, Int.toNat_natCast, List.append_nil, List.nil_append, List.cons_append]
    refine apG (E := EB) (t := s) g3 hp (o2.from g2.fresh c3) (Nat.le_refl _) (by omega) (Row.of_cells (E := EB) (l := [(n : Int) % 256]) b3 rfl) (fun _ => rfl) (by omega) fun p4 h4 s4 g4 l4 o4 e4 => ?_
    try simp (disch := first | assumption | omega | (simp only [Int.ofNat_eq_natCast, neg_one]; done) | (simp only [Int.ofNat_eq_natCast, neg_one]; omega)) only [tysW, w_bindJ, w_logJ, w_ct, w_cf, w_gtt, w_gft, w_gtf, w_gff, w_pt, w_pf, w_lret, w_e0, w_e1, w_e2, w_nil, w_fun, w_nt, w_nf, w_add, w_sub, w_eqt, w_eqf, w_net, w_nef, w_ltt, w_ltf, w_let, w_lef, w_gtt', w_gtf', w_get, w_gef, toNat_of, of_add, cast_add, nth_0, nth_s, Nat.zero_add, Nat.reduceAdd, Nat.reduceMul, Nat.add_zero, List.length_cons, List.length_nil, List.drop_zero, List.drop_succ_cons, List.take_succ_cons, List.take_zero, List.take_nil, true_and, and_true, Int.toNat_natCast, List.append_nil, List.nil_append, List.cons_append]
    refine PureS.go g4 hp (s148 (d := d) (w := 8) hN g4.fresh (.inr (.inr (.inr rfl))) o4.sl (g4.row hf r2) (by omega) (by omega)) fun v h5 s5 g5 c5 hv => ?_
    rw [if_pos (fits8 l)] at hv
    obtain ⟨p5, rfl, o5⟩ := hv
    try simp (disch := first | assumption | omega | (simp only [Int.ofNat_eq_natCast, neg_one]; done) | (simp only [Int.ofNat_eq_natCast, neg_one]; omega)) only [tysW, w_bindJ, w_logJ, w_ct, w_cf, w_gtt, w_gft, w_gtf, w_gff, w_pt, w_pf, w_lret, w_e0, w_e1, w_e2, w_nil, w_fun, w_nt, w_nf, w_add, w_sub, w_eqt, w_eqf, w_net, w_nef, w_ltt, w_ltf, w_let, w_lef, w_gtt', w_gtf', w_get, w_gef, toNat_of, of_add, cast_add, nth_0, nth_s, Nat.zero_add, Nat.reduceAdd, Nat.reduceMul, Nat.add_zero, List.length_cons, List.length_nil, List.drop_zero, List.drop_succ_cons, List.take_succ_cons, List.take_zero, List.take_nil, true_and, and_true, Int.toNat_natCast, List.append_nil, List.nil_append, List.cons_append]
    refine hk _ _ _ g5 ?_
    rw [if_pos (by omega)]
    rw [show len + 1 + n * 8 = len + (1 + n * 8) by omega] at o5 ⊢
    refine ⟨p5, rfl, ?_⟩
    rw [List.append_assoc] at o5
    unfold lis
    rw [hql]
    have e : bys 1 [(n : Int)] = [(n : Int) % 256] := by simp [bys, be, byteN]
    rw [e]
    exact o5.less (by omega)
theorem s89 {w : Nat} (hw : isW w) {p : Option Addr} {len cap : Nat} {b : List Int} (r : Sl EB h p len cap b) (hl : len ≤ 50000) (n : Int) (hn : fitsW w n = true) : PureS (D N (d + 3)) 89 [.slice p len cap, vi w, vi n] h s (fun v h' s' => ∃ p', v = .slice p' (len + w) (len + w) ∧ OwnG EB 5 h' s p' (len + w) (b ++ be w n)) := by
  refine PureS.of hf fun K pw Z g hp hk => ?_
  rw [D_89]; unfold F89; rw [app3_eq]
  try simp (disch := first | assumption | omega | (simp only [Int.ofNat_eq_natCast, neg_one]; done) | (simp only [Int.ofNat_eq_natCast, neg_one]; omega)) only [tysW, w_bindJ, w_logJ, w_ct, w_cf, w_gtt, w_gft, w_gtf, w_gff, w_pt, w_pf, w_lret, w_e0, w_e1, w_e2, w_nil, w_fun, w_nt, w_nf, w_add, w_sub, w_eqt, w_eqf, w_net, w_nef, w_ltt, w_ltf, w_let, w_lef, w_gtt', w_gtf', w_get, w_gef, toNat_of, of_add, cast_add, nth_0, nth_s, Nat.zero_add, Nat.reduceAdd, Nat.reduceMul, Nat.add_zero, List.length_cons, List.length_nil, List.drop_zero, List.drop_succ_cons, List.take_succ_cons, List.take_zero, List.take_nil, true_and, and_true, Int.toNat_natCast, List.append_nil, List.nil_append, List.cons_append]
  refine wp_newF g hp fun h1 g1 c1 b1 => ?_
  try simp (disch := first | assumption | omega | (simp only [Int.ofNat_eq_natCast, neg_one]; done) | (simp only [Int.ofNat_eq_natCast, neg_one]; omega)) only [tysW, w_bindJ, w_logJ, w_ct, w_cf, w_gtt, w_gft, w_gtf, w_gff, w_pt, w_pf, w_lret, w_e0, w_e1, w_e2, w_nil, w_fun, w_nt, w_nf, w_add, w_sub, w_eqt, w_eqf, w_net, w_nef, w_ltt, w_ltf, w_let, w_lef, w_gtt', w_gtf', w_get, w_gef, toNat_of, of_add, cast_add, nth_0, nth_s, Nat.zero_add, Nat.reduceAdd, Nat.reduceMul, Nat.add_zero, List.length_cons, List.length_nil, List.drop_zero, List.drop_succ_cons, List.take_succ_cons, List.take_zero, List.take_nil, true_and, and_true, Int.toNat_natCast, List.append_nil, List.nil_append, List.cons_append]
  refine PureS.go g1 hp (s148 (d := d) hN g1.fresh hw (r.from hf g1) (Row.of_cells (E := EI) (l := [n]) b1 rfl) (by omega) (by omega)) fun v h2 s2 g2 c2 hv => ?_
  rw [if_pos (by simp [hn])] at hv
  obtain ⟨p', rfl, o⟩ := hv
  try simp (disch := first | assumption | omega | (simp only [Int.ofNat_eq_natCast, neg_one]; done) | (simp only [Int.ofNat_eq_natCast, neg_one]; omega)) only [tysW, w_bindJ, w_logJ, w_ct, w_cf, w_gtt, w_gft, w_gtf, w_gff, w_pt, w_pf, w_lret, w_e0, w_e1, w_e2, w_nil, w_fun, w_nt, w_nf, w_add, w_sub, w_eqt, w_eqf, w_net, w_nef, w_ltt, w_ltf, w_let, w_lef, w_gtt', w_gtf', w_get, w_gef, toNat_of, of_add, cast_add, nth_0, nth_s, Nat.zero_add, Nat.reduceAdd, Nat.reduceMul, Nat.add_zero, List.length_cons, List.length_nil, List.drop_zero, List.drop_succ_cons, List.take_succ_cons, List.take_zero, List.take_nil, true_and, and_true, Int.toNat_natCast, List.append_nil, List.nil_append, List.cons_append]
  rw [Nat.one_mul] at *
  refine hk _ _ _ g2 ⟨p', rfl, ?_⟩
  simpa [bys] using o.less (by omega : s ≤ s + 1)
end
end Go.Ev.R
namespace Go.Ev.R
open Go Go.RowKit
theorem ne35 (a b : Int) (k : KV) (s : Nat) : neX P 35 35 false true (vi a) (vi b) k s = k (.bool (!decide (a = b))) s := ne_eq 35 35 false true a b k s
theorem eq32 (a b : Int) (k : KV) (s : Nat) : eqX P 21 21 false true (.int .i32 a) (.int .i32 b) k s = k (.bool (decide (a = b))) s := by
  show k (.bool (eqZ a b)) s = _
  rw [eqZ_eq]; rfl
theorem eq8 (a b : Int) (k : KV) (s : Nat) : eqX P 5 5 false true (u8 a) (u8 b) k s = k (.bool (decide (a = b))) s := by
  show k (.bool (eqZ a b)) s = _
  rw [eqZ_eq]; rfl
theorem dec1 {l : List UInt8} {p : Nat} {c : UInt8} (h : l[p]? = some c) (hc : c.toNat < 128) : Utf8.decode ⟨⟨l⟩⟩ p = (c.toNat, 1) := by
  have e : (⟨⟨l⟩⟩ : ByteArray).get! (p + 0) = c := by
    show (⟨l⟩ : Array UInt8)[p]! = c
    simp [h]
  unfold Utf8.decode
  dsimp only
  rw [if_pos (by rw [e]; exact hc), e]
section
variable {h : T} {pw : Nat → Prop} {Z : Value → T → Prop} {s0 s : Nat} {h0 : T}
theorem wp_next {it pos : Nat} {l : List UInt8} {c : UInt8} {K : KV} (g : From s0 h0 h s) (hp : ∀ n, s0 ≤ n → pw n) (hb : h.get it = some (.stringIter ⟨⟨l⟩⟩ pos)) (hit : s0 ≤ it) (hc : l[pos]? = some c) (hc1 : c.toNat < 128)
    (hk : ∀ h', From s0 h0 h' s → h'.get it = some (.stringIter ⟨⟨l⟩⟩ (pos + 1)) → (∀ i, i ≠ it → h'.get i = h.get i) → (K (.tuple ⟨[.bool true, goInt pos, .int .i32 c.toNat]⟩) s).wp pw Z h') : (anextOf (ptr it) K s).wp pw Z h := by
  have his := lt_of_some g.fresh ⟨_, hb⟩
  unfold anextOf
  dsimp only
  rw [show Nat.beq 0 0 = true from rfl]
  simp only [cond_true]
  rw [wp_get, hb]
  dsimp only
  have hl : pos < l.length := (List.getElem?_eq_some_iff.1 hc).1
  rw [show Nat.blt pos (⟨⟨l⟩⟩ : ByteArray).size = true by rw [Nat.blt_eq]; exact hl, dec1 hc hc1]
  simp only [cond_true]
  rw [wp_put, hb]
  refine ⟨hp it hit, ?_⟩
  exact hk _ ⟨g.le, fun n hn => by rw [get_ne (by omega)]; exact g.keep n hn, fun n hn => by rw [get_ne (by omega)]; exact g.fresh n hn⟩ get_eq fun i hi => get_ne (Ne.symm hi)
theorem wp_last {it : Nat} {l : List UInt8} {K : KV} (hb : h.get it = some (.stringIter ⟨⟨l⟩⟩ l.length)) : (anextOf (ptr it) K s).wp pw Z h = (K (.tuple ⟨[.bool false]⟩) s).wp pw Z h := by
  unfold anextOf
  dsimp only
  rw [show Nat.beq 0 0 = true from rfl]
  simp only [cond_true]
  rw [wp_get, hb]
  dsimp only
  rw [show Nat.blt l.length (⟨⟨l⟩⟩ : ByteArray).size = false by rw [← Bool.not_eq_true, Nat.blt_eq]; exact Nat.lt_irrefl _]
  rfl
end
section
variable {N d : Nat} (hN : 100000 ≤ N) {h0 h : T} {s0 s t : Nat} {K : KV} {pw : Nat → Prop} {Z : Value → T → Prop} (g : From s0 h0 h s) (hp : ∀ n, s0 ≤ n → pw n) {wb : Nat} (hwb : s0 ≤ wb) {p : Option Addr} {len : Nat} {b : List Int} (hw : h.get wb = some (.cells ⟨[.slice p len len, .bool false]⟩ 111 (0, 0))) (r : Sl EB h p len len b)
include hN g hp hwb hw r
theorem s86 {w : Nat} (hW : isW w) {q : Option Addr} {n : Int} (r2 : Row EI h q 1 [n]) (hn : fitsW w n = true) (hl : len ≤ 40000) (hk : ∀ p' h' s', From s0 h0 h' s' → s ≤ s' → h'.get wb = some (.cells ⟨[.slice p' (len + w) (len + w), .bool false]⟩ 111 (0, 0)) → OwnG EB 5 h' s p' (len + w) (b ++ be w n) → (∀ i, i < s → i ≠ wb → h'.get i = h.get i) → (K (.tuple ⟨[]⟩) s').wp pw Z h') :
    (D N (d + 3) 86 [ptr wb, vi w, .slice q 1 1] K s).wp pw Z h := by
  have hws := lt_of_some g.fresh ⟨_, hw⟩
  rw [D_86]; unfold F86; rw [app3_eq]
  unfold X86_1
  try simp (disch := first | assumption | omega | (simp only [Int.ofNat_eq_natCast, neg_one]; done) | (simp only [Int.ofNat_eq_natCast, neg_one]; omega)) only [tysW, w_bindJ, w_logJ, w_ct, w_cf, w_gtt, w_gft, w_gtf, w_gff, w_pt, w_pf, w_lret, w_e0, w_e1, w_e2, w_nil, w_fun, w_nt, w_nf, w_add, w_sub, w_eqt, w_eqf, w_net, w_nef, w_ltt, w_ltf, w_let, w_lef, w_gtt', w_gtf', w_get, w_gef, toNat_of, of_add, cast_add, nth_0, nth_s, Nat.zero_add, Nat.reduceAdd, Nat.reduceMul, Nat.add_zero, List.length_cons, List.length_nil, List.drop_zero, List.drop_succ_cons, List.take_succ_cons, List.take_zero, List.take_nil, true_and, and_true, Int.toNat_natCast, List.append_nil, List.nil_append, List.cons_append, ldB hw, clB hw, ldBL hw, clBL hw]
  refine PureS.go g hp (s141 (d := d) hN g.fresh hW r r2 (by omega) (by omega)) fun v h1 s1 g1 c1 hv => ?_
  have l1 := c1.le
  rw [if_pos (by simp [hn])] at hv
  obtain ⟨p', rfl, o⟩ := hv
  rw [Nat.one_mul] at *
  have hw1 := c1.box hw hws
  try simp (disch := first | assumption | omega | (simp only [Int.ofNat_eq_natCast, neg_one]; done) | (simp only [Int.ofNat_eq_natCast, neg_one]; omega)) only [tysW, w_bindJ, w_logJ, w_ct, w_cf, w_gtt, w_gft, w_gtf, w_gff, w_pt, w_pf, w_lret, w_e0, w_e1, w_e2, w_nil, w_fun, w_nt, w_nf, w_add, w_sub, w_eqt, w_eqf, w_net, w_nef, w_ltt, w_ltf, w_let, w_lef, w_gtt', w_gtf', w_get, w_gef, toNat_of, of_add, cast_add, nth_0, nth_s, Nat.zero_add, Nat.reduceAdd, Nat.reduceMul, Nat.add_zero, List.length_cons, List.length_nil, List.drop_zero, List.drop_succ_cons, List.take_succ_cons, List.take_zero, List.take_nil, true_and, and_true, Int.toNat_natCast, List.append_nil, List.nil_append, List.cons_append, ldB hw1, clB hw1, ldBL hw1, clBL hw1, ne35, decide_true]
  refine wp_putF g1 hp hw1 hwb (by simp) rfl fun h2 g2 b2 e2 => ?_
  simp only [overL] at b2
  try simp (disch := first | assumption | omega | (simp only [Int.ofNat_eq_natCast, neg_one]; done) | (simp only [Int.ofNat_eq_natCast, neg_one]; omega)) only [tysW, w_bindJ, w_logJ, w_ct, w_cf, w_gtt, w_gft, w_gtf, w_gff, w_pt, w_pf, w_lret, w_e0, w_e1, w_e2, w_nil, w_fun, w_nt, w_nf, w_add, w_sub, w_eqt, w_eqf, w_net, w_nef, w_ltt, w_ltf, w_let, w_lef, w_gtt', w_gtf', w_get, w_gef, toNat_of, of_add, cast_add, nth_0, nth_s, Nat.zero_add, Nat.reduceAdd, Nat.reduceMul, Nat.add_zero, List.length_cons, List.length_nil, List.drop_zero, List.drop_succ_cons, List.take_succ_cons, List.take_zero, List.take_nil, true_and, and_true, Int.toNat_natCast, List.append_nil, List.nil_append, List.cons_append, ldB b2, clB b2, ldBL b2, clBL b2]
  refine wp_putF g2 hp b2 hwb (by simp) rfl fun h3 g3 b3 e3 => ?_
  simp only [overL] at b3
  refine hk p' h3 s1 g3 l1 b3 ?_ ?_
  · have o' : OwnG EB 5 h1 s p' (len + w) (b ++ be w n) := by simpa [bys] using o
    exact o'.but fun hc => by have := o'.lt g1.fresh hc; rw [e3 _ (by omega), e2 _ (by omega)]
  · intro i h4 h5
    rw [e3 i h5, e2 i h5, c1.keep i h4]
theorem s88 {q : Option Addr} {n c : Nat} {l : List Int} (r2 : Row EI h q n l) (hn : n ≤ 24) (hl : len ≤ 30000) (hk : ∀ p' h' s', From s0 h0 h' s' → s ≤ s' → h'.get wb = some (.cells ⟨[.slice p' (len + (1 + n * 8)) (len + (1 + n * 8)), .bool false]⟩ 111 (0, 0)) → OwnG EB 5 h' s p' (len + (1 + n * 8)) (b ++ lis l) → (∀ i, i < s → i ≠ wb → h'.get i = h.get i) → (K (.tuple ⟨[]⟩) s').wp pw Z h') :
    (D N (d + 4) 88 [ptr wb, .slice q n c] K s).wp pw Z h := by
  have hws := lt_of_some g.fresh ⟨_, hw⟩
  rw [D_88]; unfold F88; rw [app2_eq]
  unfold X88_1
  try simp (disch := first | assumption | omega | (simp only [Int.ofNat_eq_natCast, neg_one]; done) | (simp only [Int.ofNat_eq_natCast, neg_one]; omega)) only [tysW, w_bindJ, w_logJ, w_ct, w_cf, w_gtt, w_gft, w_gtf, w_gff, w_pt, w_pf, w_lret, w_e0, w_e1, w_e2, w_nil, w_fun, w_nt, w_nf, w_add, w_sub, w_eqt, w_eqf, w_net, w_nef, w_ltt, w_ltf, w_let, w_lef, w_gtt', w_gtf', w_get, w_gef, toNat_of, of_add, cast_add, nth_0, nth_s, Nat.zero_add, Nat.reduceAdd, Nat.reduceMul, Nat.add_zero, List.length_cons, List.length_nil, List.drop_zero, List.drop_succ_cons, List.take_succ_cons, List.take_zero, List.take_nil, true_and, and_true, Int.toNat_natCast, List.append_nil, List.nil_append, List.cons_append, ldB hw, clB hw, ldBL hw, clBL hw]
  refine PureS.go g hp (s147 (d := d) hN g.fresh r r2 (by omega) (by omega)) fun v h1 s1 g1 c1 hv => ?_
  have l1 := c1.le
  rw [if_pos hn] at hv
  obtain ⟨p', rfl, o⟩ := hv
  have hw1 := c1.box hw hws
  try simp (disch := first | assumption | omega | (simp only [Int.ofNat_eq_natCast, neg_one]; done) | (simp only [Int.ofNat_eq_natCast, neg_one]; omega)) only [tysW, w_bindJ, w_logJ, w_ct, w_cf, w_gtt, w_gft, w_gtf, w_gff, w_pt, w_pf, w_lret, w_e0, w_e1, w_e2, w_nil, w_fun, w_nt, w_nf, w_add, w_sub, w_eqt, w_eqf, w_net, w_nef, w_ltt, w_ltf, w_let, w_lef, w_gtt', w_gtf', w_get, w_gef, toNat_of, of_add, cast_add, nth_0, nth_s, Nat.zero_add, Nat.reduceAdd, Nat.reduceMul, Nat.add_zero, List.length_cons, List.length_nil, List.drop_zero, List.drop_succ_cons, List.take_succ_cons, List.take_zero, List.take_nil, true_and, and_true, Int.toNat_natCast, List.append_nil, List.nil_append, List.cons_append, ldB hw1, clB hw1, ldBL hw1, clBL hw1, ne35, decide_true]
  refine wp_putF g1 hp hw1 hwb (by simp) rfl fun h2 g2 b2 e2 => ?_
  simp only [overL] at b2
  try simp (disch := first | assumption | omega | (simp only [Int.ofNat_eq_natCast, neg_one]; done) | (simp only [Int.ofNat_eq_natCast, neg_one]; omega)) only [tysW, w_bindJ, w_logJ, w_ct, w_cf, w_gtt, w_gft, w_gtf, w_gff, w_pt, w_pf, w_lret, w_e0, w_e1, w_e2, w_nil, w_fun, w_nt, w_nf, w_add, w_sub, w_eqt, w_eqf, w_net, w_nef, w_ltt, w_ltf, w_let, w_lef, w_gtt', w_gtf', w_get, w_gef, toNat_of, of_add, cast_add, nth_0, nth_s, Nat.zero_add, Nat.reduceAdd, Nat.reduceMul, Nat.add_zero, List.length_cons, List.length_nil, List.drop_zero, List.drop_succ_cons, List.take_succ_cons, List.take_zero, List.take_nil, true_and, and_true, Int.toNat_natCast, List.append_nil, List.nil_append, List.cons_append, ldB b2, clB b2, ldBL b2, clBL b2]
  refine wp_putF g2 hp b2 hwb (by simp) rfl fun h3 g3 b3 e3 => ?_
  simp only [overL] at b3
  refine hk p' h3 s1 g3 l1 b3 ?_ ?_
  · exact o.but fun hc => by have := o.lt g1.fresh hc; rw [e3 _ (by omega), e2 _ (by omega)]
  · intro i h4 h5
    rw [e3 i h5, e2 i h5, c1.keep i h4]
end
end Go.Ev.R
namespace Go.Ev.R
open Go Go.RowKit
theorem cst (p : Option Addr) (n c : Nat) (K : KV) (s : Nat) : convX P 25 9 (.slice p n c) K s = abytesStr (.slice p n c) K s := by kernel_rfl
theorem eqstr (a b : ByteArray) (K : KV) (s : Nat) : eqX P 9 9 false false (.string a) (.string b) K s = K (.bool (a.toList == b.toList)) s := by kernel_rfl
theorem bytesL_ok : ∀ l : List Int, bytesL (l.map u8) = some (l.map fun x => UInt8.ofNat x.toNat)
  | [] => rfl
  | x :: l => by
    simp only [List.map_cons, bytesL, byteOf?, bytesL_ok l]
theorem byte_inj : ∀ {a b : List Int}, (∀ x ∈ a, 0 ≤ x ∧ x < 256) → (∀ x ∈ b, 0 ≤ x ∧ x < 256) → (a.map fun x => UInt8.ofNat x.toNat) = (b.map fun x => UInt8.ofNat x.toNat) → a = b
  | [], [], _, _, _ => rfl
  | [], _ :: _, _, _, h => by simp at h
  | _ :: _, [], _, _, h => by simp at h
  | x :: a, y :: b, ha, hb, h => by
    simp only [List.map_cons, List.cons.injEq] at h
    have h1 := congrArg UInt8.toNat h.1
    have hx := ha x (by simp)
    have hy := hb y (by simp)
    simp only [UInt8.toNat_ofNat'] at h1
    have : x = y := by omega
    rw [this, byte_inj (fun z hz => ha z (by simp [hz])) (fun z hz => hb z (by simp [hz])) h.2]
section
variable {h : T} {pw : Nat → Prop} {Z : Value → T → Prop} {s : Nat}
theorem wp_bst {p : Option Addr} {n c : Nat} {l : List Int} (r : Row EB h p n l) (K : KV) : (abytesStr (.slice p n c) K s).wp pw Z h = (K (str (l.map fun x => UInt8.ofNat x.toNat)) s).wp pw Z h := by
  by_cases h0 : n = 0
  · subst h0
    have := List.eq_nil_of_length_eq_zero r.1
    subst this
    cases p with
    | none => rfl
    | some a => rfl
  · obtain ⟨m, o, q, rfl⟩ := r.2.is (by show n * 1 ≠ 0; omega)
    unfold abytesStr
    dsimp only
    rw [show Nat.beq n 0 = false from beq_no h0]
    simp only [cond_false]
    have := r.2.sub (j := 0) (z := n) (by omega) (by show 0 + n ≤ n * 1; omega) (pw := pw) (Z := Z) (fun l s => match bytesL l with | some bs => K (.string ⟨⟨bs⟩⟩) s | none => .fail) s
    simp only [blk, off, Nat.add_zero, List.drop_zero] at this
    refine this.trans ?_
    rw [List.take_of_length_le (by rw [flatB, List.length_map, r.1]; exact Nat.le_refl _), flatB, bytesL_ok]
end
section
variable {N d : Nat} {h : T} {s : Nat} (hf : ∀ n, s ≤ n → h.get n = none)
include hf
theorem s19 {p q : Option Addr} {n m c c' : Nat} {a b : List Int} (r : Row EB h p n a) (r' : Row EB h q m b) (ha : ∀ x ∈ a, 0 ≤ x ∧ x < 256) (hb : ∀ x ∈ b, 0 ≤ x ∧ x < 256) : ValS (D N (d + 1)) 19 [.slice p n c, .slice q m c'] h s (.bool (decide (a = b))) := by
  refine ValS.of hf fun K pw Z g hp hk => ?_
  rw [D_19]; unfold F19; rw [app2_eq, cst, wp_bst r, cst, wp_bst r', eqstr, ByteArray.toList_eq, ByteArray.toList_eq]
  have hk := hk _ _ g
  dsimp only
  have e : ((a.map fun x => UInt8.ofNat x.toNat) == (b.map fun x => UInt8.ofNat x.toNat)) = decide (a = b) := by
    by_cases h1 : a = b
    · subst h1; simp
    · rw [decide_eq_false h1, ← Bool.not_eq_true, beq_iff_eq]
      exact fun h2 => h1 (byte_inj ha hb h2)
  rw [e]
  exact hk
theorem s85 {p : Option Addr} {len cap : Nat} {l : List Int} (r : Sl EI h p len cap l) (hl : len ≤ 100000) : PureS (D N (d + 1)) 85 [.slice p len cap] h s (fun v h' s' => ∃ p', v = .slice p' len len ∧ OwnG EI 3 h' s p' len l) := by
  refine PureS.of hf fun K pw Z g hp hk => ?_
  rw [D_85]; unfold F85; rw [app1_eq]
  try simp (disch := first | assumption | omega | (simp only [Int.ofNat_eq_natCast, neg_one]; done) | (simp only [Int.ofNat_eq_natCast, neg_one]; omega)) only [tysW, w_bindJ, w_logJ, w_ct, w_cf, w_gtt, w_gft, w_gtf, w_gff, w_pt, w_pf, w_lret, w_e0, w_e1, w_e2, w_nil, w_fun, w_nt, w_nf, w_add, w_sub, w_eqt, w_eqf, w_net, w_nef, w_ltt, w_ltf, w_let, w_lef, w_gtt', w_gtf', w_get, w_gef, toNat_of, of_add, cast_add, nth_0, nth_s, Nat.zero_add, Nat.reduceAdd, Nat.reduceMul, Nat.add_zero, List.length_cons, List.length_nil, List.drop_zero, List.drop_succ_cons, List.take_succ_cons, List.take_zero, List.take_nil, true_and, and_true, Int.toNat_natCast, List.append_nil, List.nil_append, List.cons_append]
  refine wp_newF g hp fun h1 g1 c1 b1 => ?_
  try simp (disch := first | assumption | omega | (simp only [Int.ofNat_eq_natCast, neg_one]; done) | (simp only [Int.ofNat_eq_natCast, neg_one]; omega)) only [tysW, w_bindJ, w_logJ, w_ct, w_cf, w_gtt, w_gft, w_gtf, w_gff, w_pt, w_pf, w_lret, w_e0, w_e1, w_e2, w_nil, w_fun, w_nt, w_nf, w_add, w_sub, w_eqt, w_eqf, w_net, w_nef, w_ltt, w_ltf, w_let, w_lef, w_gtt', w_gtf', w_get, w_gef, toNat_of, of_add, cast_add, nth_0, nth_s, Nat.zero_add, Nat.reduceAdd, Nat.reduceMul, Nat.add_zero, List.length_cons, List.length_nil, List.drop_zero, List.drop_succ_cons, List.take_succ_cons, List.take_zero, List.take_nil, true_and, and_true, Int.toNat_natCast, List.append_nil, List.nil_append, List.cons_append]
  refine apG (E := EI) (l := []) (len := 0) (t := s) g1 hp ⟨rfl, .inr ⟨s, 0, rfl, Nat.le_refl _, b1, .inl rfl⟩⟩ (Nat.le_refl _) (by omega) (r.from hf g1).row (fun _ => rfl) (by omega) fun p' h2 s2 g2 _ o2 e2 => ?_
  rw [Nat.zero_add] at *
  exact hk _ _ _ g2 ⟨p', rfl, o2⟩
theorem s22 (x : SV) {dt : List Int} (r : Sl EI h x.p x.n x.c dt) (hl : x.n ≤ 100000) : PureS (D N (d + 2)) 22 [.agg ⟨svv x⟩] h s (fun v h' s' => ∃ p', v = .agg ⟨svv ⟨x.kind, x.sen, x.seq, x.time, p', x.n, x.n⟩⟩ ∧ OwnG EI 3 h' s p' x.n dt) := by
  refine PureS.of hf fun K pw Z g hp hk => ?_
  rw [D_22]; unfold F22; rw [app1_eq]
  refine wp_boxA g hp fun h1 g1 c1 b1 => ?_
  try simp (disch := first | assumption | omega | (simp only [Int.ofNat_eq_natCast, neg_one]; done) | (simp only [Int.ofNat_eq_natCast, neg_one]; omega)) only [tysW, w_bindJ, w_logJ, w_ct, w_cf, w_gtt, w_gft, w_gtf, w_gff, w_pt, w_pf, w_lret, w_e0, w_e1, w_e2, w_nil, w_fun, w_nt, w_nf, w_add, w_sub, w_eqt, w_eqf, w_net, w_nef, w_ltt, w_ltf, w_let, w_lef, w_gtt', w_gtf', w_get, w_gef, toNat_of, of_add, cast_add, nth_0, nth_s, Nat.zero_add, Nat.reduceAdd, Nat.reduceMul, Nat.add_zero, List.length_cons, List.length_nil, List.drop_zero, List.drop_succ_cons, List.take_succ_cons, List.take_zero, List.take_nil, true_and, and_true, Int.toNat_natCast, List.append_nil, List.nil_append, List.cons_append]
  refine wp_boxA g1 hp fun h2 g2 c2 b2 => ?_
  replace b1 := c2.box b1 (by omega)
  simp only [svv] at b1
  try simp (disch := first | assumption | omega | (simp only [Int.ofNat_eq_natCast, neg_one]; done) | (simp only [Int.ofNat_eq_natCast, neg_one]; omega)) only [tysW, w_bindJ, w_logJ, w_ct, w_cf, w_gtt, w_gft, w_gtf, w_gff, w_pt, w_pf, w_lret, w_e0, w_e1, w_e2, w_nil, w_fun, w_nt, w_nf, w_add, w_sub, w_eqt, w_eqf, w_net, w_nef, w_ltt, w_ltf, w_let, w_lef, w_gtt', w_gtf', w_get, w_gef, toNat_of, of_add, cast_add, nth_0, nth_s, Nat.zero_add, Nat.reduceAdd, Nat.reduceMul, Nat.add_zero, List.length_cons, List.length_nil, List.drop_zero, List.drop_succ_cons, List.take_succ_cons, List.take_zero, List.take_nil, true_and, and_true, Int.toNat_natCast, List.append_nil, List.nil_append, List.cons_append, ldB b1, clB b1, ldBL b1, clBL b1]
  refine PureS.go g2 hp (s85 (d := d) g2.fresh (r.from hf g2) hl) fun v h3 s3 g3 c3 hv => ?_
  obtain ⟨p', rfl, o3⟩ := hv
  have l3 := c3.le
  replace b1 := c3.box b1 (by omega)
  replace b2 := c3.box b2 (by omega)
  try simp (disch := first | assumption | omega | (simp only [Int.ofNat_eq_natCast, neg_one]; done) | (simp only [Int.ofNat_eq_natCast, neg_one]; omega)) only [tysW, w_bindJ, w_logJ, w_ct, w_cf, w_gtt, w_gft, w_gtf, w_gff, w_pt, w_pf, w_lret, w_e0, w_e1, w_e2, w_nil, w_fun, w_nt, w_nf, w_add, w_sub, w_eqt, w_eqf, w_net, w_nef, w_ltt, w_ltf, w_let, w_lef, w_gtt', w_gtf', w_get, w_gef, toNat_of, of_add, cast_add, nth_0, nth_s, Nat.zero_add, Nat.reduceAdd, Nat.reduceMul, Nat.add_zero, List.length_cons, List.length_nil, List.drop_zero, List.drop_succ_cons, List.take_succ_cons, List.take_zero, List.take_nil, true_and, and_true, Int.toNat_natCast, List.append_nil, List.nil_append, List.cons_append, ldB b1, clB b1, ldBL b1, clBL b1]
  refine wp_putF g3 hp b1 (by omega) (by simp) rfl fun h4 g4 b4 e4 => ?_
  simp only [overL] at b4
  try simp (disch := first | assumption | omega | (simp only [Int.ofNat_eq_natCast, neg_one]; done) | (simp only [Int.ofNat_eq_natCast, neg_one]; omega)) only [tysW, w_bindJ, w_logJ, w_ct, w_cf, w_gtt, w_gft, w_gtf, w_gff, w_pt, w_pf, w_lret, w_e0, w_e1, w_e2, w_nil, w_fun, w_nt, w_nf, w_add, w_sub, w_eqt, w_eqf, w_net, w_nef, w_ltt, w_ltf, w_let, w_lef, w_gtt', w_gtf', w_get, w_gef, toNat_of, of_add, cast_add, nth_0, nth_s, Nat.zero_add, Nat.reduceAdd, Nat.reduceMul, Nat.add_zero, List.length_cons, List.length_nil, List.drop_zero, List.drop_succ_cons, List.take_succ_cons, List.take_zero, List.take_nil, true_and, and_true, Int.toNat_natCast, List.append_nil, List.nil_append, List.cons_append, ldB b4, clB b4, ldBL b4, clBL b4]
  replace b2 := (e4 (s + 1) (by omega)).trans b2
  refine wp_putF g4 hp b2 (by omega) (by simp) rfl fun h5 g5 b5 e5 => ?_
  simp only [overL] at b5
  try simp (disch := first | assumption | omega | (simp only [Int.ofNat_eq_natCast, neg_one]; done) | (simp only [Int.ofNat_eq_natCast, neg_one]; omega)) only [tysW, w_bindJ, w_logJ, w_ct, w_cf, w_gtt, w_gft, w_gtf, w_gff, w_pt, w_pf, w_lret, w_e0, w_e1, w_e2, w_nil, w_fun, w_nt, w_nf, w_add, w_sub, w_eqt, w_eqf, w_net, w_nef, w_ltt, w_ltf, w_let, w_lef, w_gtt', w_gtf', w_get, w_gef, toNat_of, of_add, cast_add, nth_0, nth_s, Nat.zero_add, Nat.reduceAdd, Nat.reduceMul, Nat.add_zero, List.length_cons, List.length_nil, List.drop_zero, List.drop_succ_cons, List.take_succ_cons, List.take_zero, List.take_nil, true_and, and_true, Int.toNat_natCast, List.append_nil, List.nil_append, List.cons_append, ldB b5, clB b5, ldBL b5, clBL b5]
  exact hk _ _ _ g5 ⟨p', rfl, (o3.but fun hc => by have := o3.lt g3.fresh hc; rw [e5 _ (by omega), e4 _ (by omega)]).less (by omega)⟩
end
section
variable {N d : Nat} (hN : 100000 ≤ N) {h : T} {s : Nat} (hf : ∀ n, s ≤ n → h.get n = none)
include hN hf
theorem s98 {p q : Option Addr} {n n' c c' : Nat} {l l' : List Int} (r : Row EI h p n l) (r' : Row EI h q n' l') (hl : n ≤ 1000) : ValS (D N (d + 1)) 98 [.slice p n c, .slice q n' c'] h s (.bool (decide (l = l'))) := by
  refine ValS.of hf fun K pw Z g hp hk => ?_
  rw [D_98]; unfold F98; rw [app2_eq]
  have hk := hk _ _ g
  by_cases hnn : (n : Int) = (n' : Int)
  · obtain rfl : n = n' := by omega
    try simp (disch := first | assumption | omega | (simp only [Int.ofNat_eq_natCast, neg_one]; done) | (simp only [Int.ofNat_eq_natCast, neg_one]; omega)) only [tysW, w_bindJ, w_logJ, w_ct, w_cf, w_gtt, w_gft, w_gtf, w_gff, w_pt, w_pf, w_lret, w_e0, w_e1, w_e2, w_nil, w_fun, w_nt, w_nf, w_add, w_sub, w_eqt, w_eqf, w_net, w_nef, w_ltt, w_ltf, w_let, w_lef, w_gtt', w_gtf', w_get, w_gef, toNat_of, of_add, cast_add, nth_0, nth_s, Nat.zero_add, Nat.reduceAdd, Nat.reduceMul, Nat.add_zero, List.length_cons, List.length_nil, List.drop_zero, List.drop_succ_cons, List.take_succ_cons, List.take_zero, List.take_nil, true_and, and_true, Int.toNat_natCast, List.append_nil, List.nil_append, List.cons_append]
    have loop : ∀ (B : (Value → Value → Nat → AM) → Value → Value → Nat → AM) (hB : ∀ H u i s', B H u i s' = X98_1 N (D N d) K (.slice p n c) (.slice q n c') (fun s => K (.bool true) s) H u i s') (m i : Nat) (u : Value), n - i < m → i ≤ n → (∀ j, j < i → l[j]? = l'[j]?) →
        (loopJ m 2 (fun _ _ _ => AM.fail) B u (vi i) s).wp pw Z h := by
      intro B hB m
      induction m with
      | zero => intro i u hm; omega
      | succ m ih =>
        intro i u hm hil he
        rw [loopJ_succ, hB]
        unfold X98_1
        by_cases hlt : i < n
        · obtain ⟨x, hx⟩ := get_some (l := l) (i := i) (by rw [r.1]; omega)
          obtain ⟨y, hy⟩ := get_some (l := l') (i := i) (by rw [r'.1]; omega)
          try simp (disch := first | assumption | omega | (simp only [Int.ofNat_eq_natCast, neg_one]; done) | (simp only [Int.ofNat_eq_natCast, neg_one]; omega)) only [tysW, w_bindJ, w_logJ, w_ct, w_cf, w_gtt, w_gft, w_gtf, w_gff, w_pt, w_pf, w_lret, w_e0, w_e1, w_e2, w_nil, w_fun, w_nt, w_nf, w_add, w_sub, w_eqt, w_eqf, w_net, w_nef, w_ltt, w_ltf, w_let, w_lef, w_gtt', w_gtf', w_get, w_gef, toNat_of, of_add, cast_add, nth_0, nth_s, Nat.zero_add, Nat.reduceAdd, Nat.reduceMul, Nat.add_zero, List.length_cons, List.length_nil, List.drop_zero, List.drop_succ_cons, List.take_succ_cons, List.take_zero, List.take_nil, true_and, and_true, Int.toNat_natCast, List.append_nil, List.nil_append, List.cons_append, xaI r (j := (i : Int)) (by omega) (by omega), intL r hx, xaI r' (j := (i : Int)) (by omega) (by omega), intL r' hy]
          by_cases hxy : x = y
          · try simp (disch := first | assumption | omega | (simp only [Int.ofNat_eq_natCast, neg_one]; done) | (simp only [Int.ofNat_eq_natCast, neg_one]; omega)) only [tysW, w_bindJ, w_logJ, w_ct, w_cf, w_gtt, w_gft, w_gtf, w_gff, w_pt, w_pf, w_lret, w_e0, w_e1, w_e2, w_nil, w_fun, w_nt, w_nf, w_add, w_sub, w_eqt, w_eqf, w_net, w_nef, w_ltt, w_ltf, w_let, w_lef, w_gtt', w_gtf', w_get, w_gef, toNat_of, of_add, cast_add, nth_0, nth_s, Nat.zero_add, Nat.reduceAdd, Nat.reduceMul, Nat.add_zero, List.length_cons, List.length_nil, List.drop_zero, List.drop_succ_cons, List.take_succ_cons, List.take_zero, List.take_nil, true_and, and_true, Int.toNat_natCast, List.append_nil, List.nil_append, List.cons_append]
            refine ih (i + 1) _ (by omega) (by omega) fun j hj => ?_
            rcases Nat.lt_or_ge j i with h6 | h6
            · exact he j h6
            · rw [show j = i by omega, hx, hy, hxy]
          · try simp (disch := first | assumption | omega | (simp only [Int.ofNat_eq_natCast, neg_one]; done) | (simp only [Int.ofNat_eq_natCast, neg_one]; omega)) only [tysW, w_bindJ, w_logJ, w_ct, w_cf, w_gtt, w_gft, w_gtf, w_gff, w_pt, w_pf, w_lret, w_e0, w_e1, w_e2, w_nil, w_fun, w_nt, w_nf, w_add, w_sub, w_eqt, w_eqf, w_net, w_nef, w_ltt, w_ltf, w_let, w_lef, w_gtt', w_gtf', w_get, w_gef, toNat_of, of_add, cast_add, nth_0, nth_s, Nat.zero_add, Nat.reduceAdd, Nat.reduceMul, Nat.add_zero, List.length_cons, List.length_nil, List.drop_zero, List.drop_succ_cons, List.take_succ_cons, List.take_zero, List.take_nil, true_and, and_true, Int.toNat_natCast, List.append_nil, List.nil_append, List.cons_append]
            rw [decide_eq_false fun e => by subst e; rw [hx] at hy; cases hy; exact hxy rfl] at hk
            exact hk
        · obtain rfl : i = n := by omega
          try simp (disch := first | assumption | omega | (simp only [Int.ofNat_eq_natCast, neg_one]; done) | (simp only [Int.ofNat_eq_natCast, neg_one]; omega)) only [tysW, w_bindJ, w_logJ, w_ct, w_cf, w_gtt, w_gft, w_gtf, w_gff, w_pt, w_pf, w_lret, w_e0, w_e1, w_e2, w_nil, w_fun, w_nt, w_nf, w_add, w_sub, w_eqt, w_eqf, w_net, w_nef, w_ltt, w_ltf, w_let, w_lef, w_gtt', w_gtf', w_get, w_gef, toNat_of, of_add, cast_add, nth_0, nth_s, Nat.zero_add, Nat.reduceAdd, Nat.reduceMul, Nat.add_zero, List.length_cons, List.length_nil, List.drop_zero, List.drop_succ_cons, List.take_succ_cons, List.take_zero, List.take_nil, true_and, and_true, Int.toNat_natCast, List.append_nil, List.nil_append, List.cons_append]
          rw [decide_eq_true] at hk
          · exact hk
          · refine List.ext_getElem? fun j => ?_
            rcases Nat.lt_or_ge j i with h6 | h6
            · exact he j h6
            · rw [List.getElem?_eq_none (by rw [r.1]; exact h6), List.getElem?_eq_none (by rw [r'.1]; exact h6)]
    exact loop _ (fun _ _ _ _ => rfl) N 0 _ (by omega) (by omega) (fun j hj => by omega)
  · try simp (disch := first | assumption | omega | (simp only [Int.ofNat_eq_natCast, neg_one]; done) | (simp only [Int.ofNat_eq_natCast, neg_one]; omega)) only [tysW, w_bindJ, w_logJ, w_ct, w_cf, w_gtt, w_gft, w_gtf, w_gff, w_pt, w_pf, w_lret, w_e0, w_e1, w_e2, w_nil, w_fun, w_nt, w_nf, w_add, w_sub, w_eqt, w_eqf, w_net, w_nef, w_ltt, w_ltf, w_let, w_lef, w_gtt', w_gtf', w_get, w_gef, toNat_of, of_add, cast_add, nth_0, nth_s, Nat.zero_add, Nat.reduceAdd, Nat.reduceMul, Nat.add_zero, List.length_cons, List.length_nil, List.drop_zero, List.drop_succ_cons, List.take_succ_cons, List.take_zero, List.take_nil, true_and, and_true, Int.toNat_natCast, List.append_nil, List.nil_append, List.cons_append]
    rw [decide_eq_false fun e => by subst e; have h5 := r'.1; rw [r.1] at h5; exact hnn (by rw [h5])] at hk
    exact hk
/-- Whether two sayings are the same. -/
def sameS (x y : SV) (dt dt' : List Int) : Bool := decide (x.kind = y.kind ∧ x.sen = y.sen ∧ x.seq = y.seq ∧ x.time = y.time ∧ dt = dt')
theorem s28 (x y : SV) {dt dt' : List Int} (r : Row EI h x.p x.n dt) (r' : Row EI h y.p y.n dt') (hl : x.n ≤ 1000) : ValS (D N (d + 2)) 28 [.agg ⟨svv x⟩, .agg ⟨svv y⟩] h s (.bool (sameS x y dt dt')) := by
  refine ValS.of hf fun K pw Z g hp hk => ?_
  rw [D_28]; unfold F28; rw [app2_eq]
  unfold X28_2
  refine wp_boxA g hp fun h1 g1 c1 b1 => ?_
  refine wp_boxA g1 hp fun h2 g2 c2 b2 => ?_
  replace b1 := c2.box b1 (by omega)
  simp only [svv] at b1 b2
  have hk0 := fun b (e : sameS x y dt dt' = b) => e ▸ hk
  by_cases e1 : x.kind = y.kind
  · by_cases e2 : x.sen = y.sen
    · by_cases e3 : x.seq = y.seq
      · by_cases e4 : x.time = y.time
        · try simp (disch := first | assumption | omega | (simp only [Int.ofNat_eq_natCast, neg_one]; done) | (simp only [Int.ofNat_eq_natCast, neg_one]; omega)) only [tysW, w_bindJ, w_logJ, w_ct, w_cf, w_gtt, w_gft, w_gtf, w_gff, w_pt, w_pf, w_lret, w_e0, w_e1, w_e2, w_nil, w_fun, w_nt, w_nf, w_add, w_sub, w_eqt, w_eqf, w_net, w_nef, w_ltt, w_ltf, w_let, w_lef, w_gtt', w_gtf', w_get, w_gef, toNat_of, of_add, cast_add, nth_0, nth_s, Nat.zero_add, Nat.reduceAdd, Nat.reduceMul, Nat.add_zero, List.length_cons, List.length_nil, List.drop_zero, List.drop_succ_cons, List.take_succ_cons, List.take_zero, List.take_nil, true_and, and_true, Int.toNat_natCast, List.append_nil, List.nil_append, List.cons_append, ldB b1, clB b1, ldBL b1, clBL b1, ldB b2, clB b2, ldBL b2, clBL b2]
          unfold X28_1
          try simp (disch := first | assumption | omega | (simp only [Int.ofNat_eq_natCast, neg_one]; done) | (simp only [Int.ofNat_eq_natCast, neg_one]; omega)) only [tysW, w_bindJ, w_logJ, w_ct, w_cf, w_gtt, w_gft, w_gtf, w_gff, w_pt, w_pf, w_lret, w_e0, w_e1, w_e2, w_nil, w_fun, w_nt, w_nf, w_add, w_sub, w_eqt, w_eqf, w_net, w_nef, w_ltt, w_ltf, w_let, w_lef, w_gtt', w_gtf', w_get, w_gef, toNat_of, of_add, cast_add, nth_0, nth_s, Nat.zero_add, Nat.reduceAdd, Nat.reduceMul, Nat.add_zero, List.length_cons, List.length_nil, List.drop_zero, List.drop_succ_cons, List.take_succ_cons, List.take_zero, List.take_nil, true_and, and_true, Int.toNat_natCast, List.append_nil, List.nil_append, List.cons_append, ldB b1, clB b1, ldBL b1, clBL b1, ldB b2, clB b2, ldBL b2, clBL b2]
          refine ValS.go g2 hp (s98 (d := d) hN g2.fresh (g2.row hf r) (g2.row hf r') hl) fun h3 s3 g3 c3 => ?_
          have hk := hk _ _ g3
          unfold sameS at hk
          simp only [e1, e2, e3, e4, true_and] at hk
          cases hd : decide (dt = dt') with
          | true => rw [hd] at hk; try simp (disch := first | assumption | omega | (simp only [Int.ofNat_eq_natCast, neg_one]; done) | (simp only [Int.ofNat_eq_natCast, neg_one]; omega)) only [tysW, w_bindJ, w_logJ, w_ct, w_cf, w_gtt, w_gft, w_gtf, w_gff, w_pt, w_pf, w_lret, w_e0, w_e1, w_e2, w_nil, w_fun, w_nt, w_nf, w_add, w_sub, w_eqt, w_eqf, w_net, w_nef, w_ltt, w_ltf, w_let, w_lef, w_gtt', w_gtf', w_get, w_gef, toNat_of, of_add, cast_add, nth_0, nth_s, Nat.zero_add, Nat.reduceAdd, Nat.reduceMul, Nat.add_zero, List.length_cons, List.length_nil, List.drop_zero, List.drop_succ_cons, List.take_succ_cons, List.take_zero, List.take_nil, true_and, and_true, Int.toNat_natCast, List.append_nil, List.nil_append, List.cons_append]; exact hk
          | false => rw [hd] at hk; try simp (disch := first | assumption | omega | (simp only [Int.ofNat_eq_natCast, neg_one]; done) | (simp only [Int.ofNat_eq_natCast, neg_one]; omega)) only [tysW, w_bindJ, w_logJ, w_ct, w_cf, w_gtt, w_gft, w_gtf, w_gff, w_pt, w_pf, w_lret, w_e0, w_e1, w_e2, w_nil, w_fun, w_nt, w_nf, w_add, w_sub, w_eqt, w_eqf, w_net, w_nef, w_ltt, w_ltf, w_let, w_lef, w_gtt', w_gtf', w_get, w_gef, toNat_of, of_add, cast_add, nth_0, nth_s, Nat.zero_add, Nat.reduceAdd, Nat.reduceMul, Nat.add_zero, List.length_cons, List.length_nil, List.drop_zero, List.drop_succ_cons, List.take_succ_cons, List.take_zero, List.take_nil, true_and, and_true, Int.toNat_natCast, List.append_nil, List.nil_append, List.cons_append]; exact hk
        · try simp (disch := first | assumption | omega | (simp only [Int.ofNat_eq_natCast, neg_one]; done) | (simp only [Int.ofNat_eq_natCast, neg_one]; omega)) only [tysW, w_bindJ, w_logJ, w_ct, w_cf, w_gtt, w_gft, w_gtf, w_gff, w_pt, w_pf, w_lret, w_e0, w_e1, w_e2, w_nil, w_fun, w_nt, w_nf, w_add, w_sub, w_eqt, w_eqf, w_net, w_nef, w_ltt, w_ltf, w_let, w_lef, w_gtt', w_gtf', w_get, w_gef, toNat_of, of_add, cast_add, nth_0, nth_s, Nat.zero_add, Nat.reduceAdd, Nat.reduceMul, Nat.add_zero, List.length_cons, List.length_nil, List.drop_zero, List.drop_succ_cons, List.take_succ_cons, List.take_zero, List.take_nil, true_and, and_true, Int.toNat_natCast, List.append_nil, List.nil_append, List.cons_append, ldB b1, clB b1, ldBL b1, clBL b1, ldB b2, clB b2, ldBL b2, clBL b2]
          unfold X28_1
          try simp (disch := first | assumption | omega | (simp only [Int.ofNat_eq_natCast, neg_one]; done) | (simp only [Int.ofNat_eq_natCast, neg_one]; omega)) only [tysW, w_bindJ, w_logJ, w_ct, w_cf, w_gtt, w_gft, w_gtf, w_gff, w_pt, w_pf, w_lret, w_e0, w_e1, w_e2, w_nil, w_fun, w_nt, w_nf, w_add, w_sub, w_eqt, w_eqf, w_net, w_nef, w_ltt, w_ltf, w_let, w_lef, w_gtt', w_gtf', w_get, w_gef, toNat_of, of_add, cast_add, nth_0, nth_s, Nat.zero_add, Nat.reduceAdd, Nat.reduceMul, Nat.add_zero, List.length_cons, List.length_nil, List.drop_zero, List.drop_succ_cons, List.take_succ_cons, List.take_zero, List.take_nil, true_and, and_true, Int.toNat_natCast, List.append_nil, List.nil_append, List.cons_append, ldB b1, clB b1, ldBL b1, clBL b1, ldB b2, clB b2, ldBL b2, clBL b2]
          have hk := hk _ _ g2
          unfold sameS at hk
          rw [decide_eq_false (by simp [e4])] at hk
          exact hk
      · try simp (disch := first | assumption | omega | (simp only [Int.ofNat_eq_natCast, neg_one]; done) | (simp only [Int.ofNat_eq_natCast, neg_one]; omega)) only [tysW, w_bindJ, w_logJ, w_ct, w_cf, w_gtt, w_gft, w_gtf, w_gff, w_pt, w_pf, w_lret, w_e0, w_e1, w_e2, w_nil, w_fun, w_nt, w_nf, w_add, w_sub, w_eqt, w_eqf, w_net, w_nef, w_ltt, w_ltf, w_let, w_lef, w_gtt', w_gtf', w_get, w_gef, toNat_of, of_add, cast_add, nth_0, nth_s, Nat.zero_add, Nat.reduceAdd, Nat.reduceMul, Nat.add_zero, List.length_cons, List.length_nil, List.drop_zero, List.drop_succ_cons, List.take_succ_cons, List.take_zero, List.take_nil, true_and, and_true, Int.toNat_natCast, List.append_nil, List.nil_append, List.cons_append, ldB b1, clB b1, ldBL b1, clBL b1, ldB b2, clB b2, ldBL b2, clBL b2]
        unfold X28_1
        try simp (disch := first | assumption | omega | (simp only [Int.ofNat_eq_natCast, neg_one]; done) | (simp only [Int.ofNat_eq_natCast, neg_one]; omega)) only [tysW, w_bindJ, w_logJ, w_ct, w_cf, w_gtt, w_gft, w_gtf, w_gff, w_pt, w_pf, w_lret, w_e0, w_e1, w_e2, w_nil, w_fun, w_nt, w_nf, w_add, w_sub, w_eqt, w_eqf, w_net, w_nef, w_ltt, w_ltf, w_let, w_lef, w_gtt', w_gtf', w_get, w_gef, toNat_of, of_add, cast_add, nth_0, nth_s, Nat.zero_add, Nat.reduceAdd, Nat.reduceMul, Nat.add_zero, List.length_cons, List.length_nil, List.drop_zero, List.drop_succ_cons, List.take_succ_cons, List.take_zero, List.take_nil, true_and, and_true, Int.toNat_natCast, List.append_nil, List.nil_append, List.cons_append, ldB b1, clB b1, ldBL b1, clBL b1, ldB b2, clB b2, ldBL b2, clBL b2]
        have hk := hk _ _ g2
        unfold sameS at hk
        rw [decide_eq_false (by simp [e3])] at hk
        exact hk
    · try simp (disch := first | assumption | omega | (simp only [Int.ofNat_eq_natCast, neg_one]; done) | (simp only [Int.ofNat_eq_natCast, neg_one]; omega)) only [tysW, w_bindJ, w_logJ, w_ct, w_cf, w_gtt, w_gft, w_gtf, w_gff, w_pt, w_pf, w_lret, w_e0, w_e1, w_e2, w_nil, w_fun, w_nt, w_nf, w_add, w_sub, w_eqt, w_eqf, w_net, w_nef, w_ltt, w_ltf, w_let, w_lef, w_gtt', w_gtf', w_get, w_gef, toNat_of, of_add, cast_add, nth_0, nth_s, Nat.zero_add, Nat.reduceAdd, Nat.reduceMul, Nat.add_zero, List.length_cons, List.length_nil, List.drop_zero, List.drop_succ_cons, List.take_succ_cons, List.take_zero, List.take_nil, true_and, and_true, Int.toNat_natCast, List.append_nil, List.nil_append, List.cons_append, ldB b1, clB b1, ldBL b1, clBL b1, ldB b2, clB b2, ldBL b2, clBL b2]
      unfold X28_1
      try simp (disch := first | assumption | omega | (simp only [Int.ofNat_eq_natCast, neg_one]; done) | (simp only [Int.ofNat_eq_natCast, neg_one]; omega)) only [tysW, w_bindJ, w_logJ, w_ct, w_cf, w_gtt, w_gft, w_gtf, w_gff, w_pt, w_pf, w_lret, w_e0, w_e1, w_e2, w_nil, w_fun, w_nt, w_nf, w_add, w_sub, w_eqt, w_eqf, w_net, w_nef, w_ltt, w_ltf, w_let, w_lef, w_gtt', w_gtf', w_get, w_gef, toNat_of, of_add, cast_add, nth_0, nth_s, Nat.zero_add, Nat.reduceAdd, Nat.reduceMul, Nat.add_zero, List.length_cons, List.length_nil, List.drop_zero, List.drop_succ_cons, List.take_succ_cons, List.take_zero, List.take_nil, true_and, and_true, Int.toNat_natCast, List.append_nil, List.nil_append, List.cons_append, ldB b1, clB b1, ldBL b1, clBL b1, ldB b2, clB b2, ldBL b2, clBL b2]
      have hk := hk _ _ g2
      unfold sameS at hk
      rw [decide_eq_false (by simp [e2])] at hk
      exact hk
  · try simp (disch := first | assumption | omega | (simp only [Int.ofNat_eq_natCast, neg_one]; done) | (simp only [Int.ofNat_eq_natCast, neg_one]; omega)) only [tysW, w_bindJ, w_logJ, w_ct, w_cf, w_gtt, w_gft, w_gtf, w_gff, w_pt, w_pf, w_lret, w_e0, w_e1, w_e2, w_nil, w_fun, w_nt, w_nf, w_add, w_sub, w_eqt, w_eqf, w_net, w_nef, w_ltt, w_ltf, w_let, w_lef, w_gtt', w_gtf', w_get, w_gef, toNat_of, of_add, cast_add, nth_0, nth_s, Nat.zero_add, Nat.reduceAdd, Nat.reduceMul, Nat.add_zero, List.length_cons, List.length_nil, List.drop_zero, List.drop_succ_cons, List.take_succ_cons, List.take_zero, List.take_nil, true_and, and_true, Int.toNat_natCast, List.append_nil, List.nil_append, List.cons_append, ldB b1, clB b1, ldBL b1, clBL b1, ldB b2, clB b2, ldBL b2, clBL b2]
    unfold X28_1
    try simp (disch := first | assumption | omega | (simp only [Int.ofNat_eq_natCast, neg_one]; done) | (simp only [Int.ofNat_eq_natCast, neg_one]; omega)) only [tysW, w_bindJ, w_logJ, w_ct, w_cf, w_gtt, w_gft, w_gtf, w_gff, w_pt, w_pf, w_lret, w_e0, w_e1, w_e2, w_nil, w_fun, w_nt, w_nf, w_add, w_sub, w_eqt, w_eqf, w_net, w_nef, w_ltt, w_ltf, w_let, w_lef, w_gtt', w_gtf', w_get, w_gef, toNat_of, of_add, cast_add, nth_0, nth_s, Nat.zero_add, Nat.reduceAdd, Nat.reduceMul, Nat.add_zero, List.length_cons, List.length_nil, List.drop_zero, List.drop_succ_cons, List.take_succ_cons, List.take_zero, List.take_nil, true_and, and_true, Int.toNat_natCast, List.append_nil, List.nil_append, List.cons_append, ldB b1, clB b1, ldBL b1, clBL b1, ldB b2, clB b2, ldBL b2, clBL b2]
    have hk := hk _ _ g2
    unfold sameS at hk
    rw [decide_eq_false (by simp [e1])] at hk
    exact hk
end
theorem xor8 (x : Int) (K : KV) (s : Nat) : xorX P 5 5 false true (u8 x) (.int .u8 (.ofNat 165)) K s = K (u8 (xorZ .u8 x (.ofNat 165))) s := rfl
/-- Bytes written over. -/
theorem s27 {N d : Nat} (hN : 100000 ≤ N) {h0 h : T} {s0 s len cap : Nat} {p : Option Addr} {l : List Int} (g : From s0 h0 h s) {pw : Nat → Prop} {Z : Value → T → Prop} (hp : ∀ n, s0 ≤ n → pw n) (o : OwnG EB 5 h s0 p len l) (hl : len ≤ 10000) {K : Value → Nat → AM}
    (hk : ∀ h', From s0 h0 h' s → (∀ n, (p ≠ none → n ≠ blk p) → h'.get n = h.get n) → (K (.tuple ⟨[]⟩) s).wp pw Z h') : (D N (d + 1) 27 [.slice p len cap] K s).wp pw Z h := by
  rw [D_27]; unfold F27; rw [app1_eq]
  have loop : ∀ (B : (Value → Nat → AM) → Value → Nat → AM) (hB : ∀ H i s', B H i s' = X27_1 N (D N d) K (.slice p len cap) H i s') (m i : Nat) (h1 : T) (l1 : List Int), len - i < m → i ≤ len → From s0 h0 h1 s → (∀ n, (p ≠ none → n ≠ blk p) → h1.get n = h.get n) → OwnG EB 5 h1 s0 p len l1 →
      (loopJ m 1 (fun _ _ => AM.fail) B (vi i) s).wp pw Z h1 := by
    intro B hB m
    induction m with
    | zero => intro i h1 l1 hm; omega
    | succ m ih =>
      intro i h1 l1 hm hil g1 e1 o1
      rw [loopJ_succ, hB]
      unfold X27_1
      by_cases hlt : i < len
      · obtain ⟨x, hx⟩ := get_some (l := l1) (i := i) (by rw [o1.1]; exact hlt)
        try simp (disch := first | assumption | omega | (simp only [Int.ofNat_eq_natCast, neg_one]; done) | (simp only [Int.ofNat_eq_natCast, neg_one]; omega)) only [tysW, w_bindJ, w_logJ, w_ct, w_cf, w_gtt, w_gft, w_gtf, w_gff, w_pt, w_pf, w_lret, w_e0, w_e1, w_e2, w_nil, w_fun, w_nt, w_nf, w_add, w_sub, w_eqt, w_eqf, w_net, w_nef, w_ltt, w_ltf, w_let, w_lef, w_gtt', w_gtf', w_get, w_gef, toNat_of, of_add, cast_add, nth_0, nth_s, Nat.zero_add, Nat.reduceAdd, Nat.reduceMul, Nat.add_zero, List.length_cons, List.length_nil, List.drop_zero, List.drop_succ_cons, List.take_succ_cons, List.take_zero, List.take_nil, true_and, and_true, Int.toNat_natCast, List.append_nil, List.nil_append, List.cons_append, xaB o1.sl.row (j := (i : Int)) (by omega) (by omega), Row.byte o1.sl.row hx, xor8]
        obtain ⟨hl1, ⟨rfl, h0⟩ | ⟨n, f, rfl, y1, y2, y3⟩⟩ := o1
        · omega
        · have e2 : overL (l1.flatMap EB.f) i [u8 (xorZ .u8 x (.ofNat 165))] = (l1.set i (xorZ .u8 x (.ofNat 165))).flatMap EB.f := by
            rw [set_place _ _ _ (by rw [flatB, List.length_map]; omega), flatB, flatB, List.map_set]
          simp only [blk, off, Nat.zero_add]
          refine wp_putF g1 hp y2 y1 (by rw [flatB, List.length_map]; simp; omega) rfl fun h2 g2 b2 e3 => ?_
          rw [e2] at b2
          try simp (disch := first | assumption | omega | (simp only [Int.ofNat_eq_natCast, neg_one]; done) | (simp only [Int.ofNat_eq_natCast, neg_one]; omega)) only [tysW, w_bindJ, w_logJ, w_ct, w_cf, w_gtt, w_gft, w_gtf, w_gff, w_pt, w_pf, w_lret, w_e0, w_e1, w_e2, w_nil, w_fun, w_nt, w_nf, w_add, w_sub, w_eqt, w_eqf, w_net, w_nef, w_ltt, w_ltf, w_let, w_lef, w_gtt', w_gtf', w_get, w_gef, toNat_of, of_add, cast_add, nth_0, nth_s, Nat.zero_add, Nat.reduceAdd, Nat.reduceMul, Nat.add_zero, List.length_cons, List.length_nil, List.drop_zero, List.drop_succ_cons, List.take_succ_cons, List.take_zero, List.take_nil, true_and, and_true, Int.toNat_natCast, List.append_nil, List.nil_append, List.cons_append]
          exact ih (i + 1) h2 _ (by omega) (by omega) g2 (fun n' hn' => by rw [e3 n' (hn' (by simp))]; exact e1 n' hn') ⟨by rw [List.length_set]; exact hl1, .inr ⟨n, f, rfl, y1, b2, y3⟩⟩
      · obtain rfl : i = len := by omega
        try simp (disch := first | assumption | omega | (simp only [Int.ofNat_eq_natCast, neg_one]; done) | (simp only [Int.ofNat_eq_natCast, neg_one]; omega)) only [tysW, w_bindJ, w_logJ, w_ct, w_cf, w_gtt, w_gft, w_gtf, w_gff, w_pt, w_pf, w_lret, w_e0, w_e1, w_e2, w_nil, w_fun, w_nt, w_nf, w_add, w_sub, w_eqt, w_eqf, w_net, w_nef, w_ltt, w_ltf, w_let, w_lef, w_gtt', w_gtf', w_get, w_gef, toNat_of, of_add, cast_add, nth_0, nth_s, Nat.zero_add, Nat.reduceAdd, Nat.reduceMul, Nat.add_zero, List.length_cons, List.length_nil, List.drop_zero, List.drop_succ_cons, List.take_succ_cons, List.take_zero, List.take_nil, true_and, and_true, Int.toNat_natCast, List.append_nil, List.nil_append, List.cons_append]
        exact hk h1 g1 e1
  exact loop _ (fun _ _ _ => rfl) N 0 h l (by omega) (by omega) g (fun _ _ => rfl) o
end Go.Ev.R

/- The law RingTurns, part 1: what the functions answer, by their terms. No condition. -/
import Derived.Test.YtgadiajhhjfmbaaRingTurnsP0
set_option linter.unusedVariables false
set_option linter.unusedSimpArgs false
set_option maxRecDepth 100000
namespace Go.Ev.R
open Go Go.RowKit
abbrev vi (n : Int) : Value := .int .i64 n
abbrev ptr (b : Nat) : Value := .pointer (some ⟨b, 0, none⟩)
/-- An entry: its key, whether it is an input, its numbers. -/
structure EN where
  k : K3
  inp : Bool
  data : List Int
def ev (e : EN) (p : Option Addr) (c : Nat) : List Value := [vi e.k.a, vi e.k.b, vi e.k.c, .bool e.inp, .slice p e.data.length c]
abbrev eval (e : EN) (p : Option Addr) (c : Nat) : Value := .agg ⟨ev e p c⟩
/-- Where a place lies. -/
def ix (first keep i : Nat) : Nat := if first + i < keep then first + i else first + i - keep
theorem ix_lt {first keep i : Nat} (hf : first < keep) (hi : i ≤ keep) : ix first keep i < keep := by unfold ix; split <;> omega
theorem ix_ne {first keep i j : Nat} (hf : first < keep) (hi : i < keep) (hj : j < keep) (h : i ≠ j) : ix first keep i ≠ ix first keep j := by unfold ix; split <;> split <;> omega
theorem ix_mod {first keep i : Nat} (hf : first < keep) (hi : i ≤ keep) : ((first : Int) + (i : Int)).tmod (keep : Int) = (ix first keep i : Int) := by
  rw [show (first : Int) + (i : Int) = ((first + i : Nat) : Int) by omega]
  rw [← Int.ofNat_eq_natCast, ← Int.ofNat_eq_natCast (n := keep)]
  show ((((first + i) % keep : Nat)) : Int) = _
  unfold ix
  split
  · rw [Nat.mod_eq_of_lt (by assumption)]
  · rw [Nat.mod_eq_sub_mod (by omega), Nat.mod_eq_of_lt (by omega)]
/-- An entry in a heap, its numbers apart from two rows. -/
def EntAt (h : T) (rb q : Nat) (b : Nat) (e : EN) : Prop := ∃ p c, h.get b = some (.cells ⟨ev e p c⟩ 43 (0, 0)) ∧ Sl EI h p e.data.length c e.data ∧ (c ≠ 0 → blk p ≠ rb ∧ blk p ≠ q)
/-- A ring in a heap: its box, its places, its blocks, its entries. -/
structure RingAt (h : T) (rb q keep first : Nat) (bs : List Nat) (L : List EN) : Prop where
  box : h.get rb = some (.cells ⟨[.slice (some ⟨q, 0, none⟩) keep keep, vi first, vi bs.length]⟩ 72 (0, 0))
  row : ∃ cs, h.get q = some (.cells ⟨cs⟩ 91 (0, 0)) ∧ cs.length = keep ∧ ∀ (i b : Nat), bs[i]? = some b → cs[ix first keep i]? = some (ptr b)
  ne : rb ≠ q
  pos : 0 < keep
  fst : first < keep
  le : bs.length ≤ keep
  len : bs.length = L.length
  ent : ∀ (i b : Nat), bs[i]? = some b → ∃ e, L[i]? = some e ∧ EntAt h rb q b e
theorem RingAt.ent' {h : T} {rb q keep first : Nat} {bs : List Nat} {L : List EN} (r : RingAt h rb q keep first bs L) {i : Nat} {e : EN} (he : L[i]? = some e) : ∃ b, bs[i]? = some b ∧ EntAt h rb q b e := by
  have hi : i < bs.length := by rw [r.len]; exact (List.getElem?_eq_some_iff.1 he).1
  obtain ⟨e', h1, h2⟩ := r.ent i bs[i] (List.getElem?_eq_getElem hi)
  rw [he] at h1
  cases h1
  exact ⟨_, List.getElem?_eq_getElem hi, h2⟩
theorem EntAt.from {h0 h : T} {s0 s rb q b : Nat} {e : EN} (o : EntAt h0 rb q b e) (hf : ∀ n, s0 ≤ n → h0.get n = none) (g : From s0 h0 h s) : EntAt h rb q b e := by
  obtain ⟨p, c, h1, h2, h3⟩ := o
  exact ⟨p, c, by rw [g.keep b (lt_of_some hf ⟨_, h1⟩)]; exact h1, h2.from hf g, h3⟩
theorem RingAt.from {h0 h : T} {s0 s rb q keep first : Nat} {bs : List Nat} {L : List EN} (r : RingAt h0 rb q keep first bs L) (hf : ∀ n, s0 ≤ n → h0.get n = none) (g : From s0 h0 h s) : RingAt h rb q keep first bs L := by
  obtain ⟨cs, h1, h2, h3⟩ := r.row
  exact ⟨by rw [g.keep rb (lt_of_some hf ⟨_, r.box⟩)]; exact r.box, ⟨cs, by rw [g.keep q (lt_of_some hf ⟨_, h1⟩)]; exact h1, h2, h3⟩, r.ne, r.pos, r.fst, r.le, r.len, fun i b hb => by
    obtain ⟨e, h4, h5⟩ := r.ent i b hb
    exact ⟨e, h4, h5.from hf g⟩⟩
/-- But the ring's own two rows a heap is as it was. -/
theorem EntAt.but {h h' : T} {rb q b : Nat} {e : EN} (o : EntAt h rb q b e) (hk : ∀ n, n ≠ rb → n ≠ q → h'.get n = h.get n) (hb : b ≠ rb) (hq : b ≠ q) : EntAt h' rb q b e := by
  obtain ⟨p, c, h1, h2, h3⟩ := o
  exact ⟨p, c, by rw [hk b hb hq]; exact h1, h2.but fun hc => hk _ (h3 hc).1 (h3 hc).2, h3⟩
theorem RingAt.apart {h : T} {rb q keep first : Nat} {bs : List Nat} {L : List EN} (r : RingAt h rb q keep first bs L) {i b : Nat} (hb : bs[i]? = some b) : b ≠ rb ∧ b ≠ q := by
  obtain ⟨e, _, p, c, h1, _, _⟩ := r.ent i b hb
  obtain ⟨cs, h2, _, _⟩ := r.row
  refine ⟨fun e => ?_, fun e => ?_⟩
  · subst e
    rw [r.box] at h1
    have := congrArg (fun o => match o with | some (Obj.cells _ t _) => t | _ => 0) h1
    simp at this
  · subst e
    rw [h2] at h1
    have := congrArg (fun o => match o with | some (Obj.cells _ t _) => t | _ => 0) h1
    simp at this
section
variable {N d : Nat} (hN : 100000 ≤ N) {h : T} {s : Nat} (hf : ∀ n, s ≤ n → h.get n = none)
include hf
theorem s57 {rb q keep first : Nat} {bs : List Nat} {L : List EN} (r : RingAt h rb q keep first bs L) : ValS (D N (d + 1)) 57 [ptr rb] h s (.bool false) := by
  refine ValS.of hf fun K pw Z g hp hk => ?_
  rw [D_57]; unfold F57; rw [app1_eq]
  have hpos := r.pos
  have b1 := r.box
  try simp (disch := first | assumption | omega | (simp only [Int.ofNat_eq_natCast, neg_one]; done) | (simp only [Int.ofNat_eq_natCast, neg_one]; omega)) only [tysW, w_bindJ, w_logJ, w_ct, w_cf, w_gtt, w_gft, w_gtf, w_gff, w_pt, w_pf, w_lret, w_e0, w_e1, w_e2, w_nil, w_fun, w_nt, w_nf, w_add, w_sub, w_eqt, w_eqf, w_net, w_nef, w_ltt, w_ltf, w_let, w_lef, w_gtt', w_gtf', w_get, w_gef, toNat_of, of_add, cast_add, nth_0, nth_s, Nat.zero_add, Nat.reduceAdd, Nat.reduceMul, Nat.add_zero, List.length_cons, List.length_nil, List.drop_zero, List.drop_succ_cons, List.take_succ_cons, List.take_zero, List.take_nil, true_and, and_true, Int.toNat_natCast, List.append_nil, List.nil_append, List.cons_append, ldB b1, clB b1, ldBL b1, clBL b1]
  exact hk _ _ g
theorem s60 {rb q keep first : Nat} {bs : List Nat} {L : List EN} (r : RingAt h rb q keep first bs L) (hk2 : keep ≤ 1000) {i : Nat} (hi : i ≤ keep) : ValS (D N (d + 1)) 60 [ptr rb, vi i] h s (.pointer (some ⟨q, ix first keep i, none⟩)) := by
  refine ValS.of hf fun K pw Z g hp hk => ?_
  rw [D_60]; unfold F60; rw [app2_eq]
  have hpos := r.pos
  have hfst := r.fst
  have b1 := r.box
  have hix := ix_lt hfst hi
  try simp (disch := first | assumption | omega | (simp only [Int.ofNat_eq_natCast, neg_one]; done) | (simp only [Int.ofNat_eq_natCast, neg_one]; omega)) only [tysW, w_bindJ, w_logJ, w_ct, w_cf, w_gtt, w_gft, w_gtf, w_gff, w_pt, w_pf, w_lret, w_e0, w_e1, w_e2, w_nil, w_fun, w_nt, w_nf, w_add, w_sub, w_eqt, w_eqf, w_net, w_nef, w_ltt, w_ltf, w_let, w_lef, w_gtt', w_gtf', w_get, w_gef, toNat_of, of_add, cast_add, nth_0, nth_s, Nat.zero_add, Nat.reduceAdd, Nat.reduceMul, Nat.add_zero, List.length_cons, List.length_nil, List.drop_zero, List.drop_succ_cons, List.take_succ_cons, List.take_zero, List.take_nil, true_and, and_true, Int.toNat_natCast, List.append_nil, List.nil_append, List.cons_append, ldB b1, clB b1, ldBL b1, clBL b1]
  unfold X60_1
  try simp (disch := first | assumption | omega | (simp only [Int.ofNat_eq_natCast, neg_one]; done) | (simp only [Int.ofNat_eq_natCast, neg_one]; omega)) only [tysW, w_bindJ, w_logJ, w_ct, w_cf, w_gtt, w_gft, w_gtf, w_gff, w_pt, w_pf, w_lret, w_e0, w_e1, w_e2, w_nil, w_fun, w_nt, w_nf, w_add, w_sub, w_eqt, w_eqf, w_net, w_nef, w_ltt, w_ltf, w_let, w_lef, w_gtt', w_gtf', w_get, w_gef, toNat_of, of_add, cast_add, nth_0, nth_s, Nat.zero_add, Nat.reduceAdd, Nat.reduceMul, Nat.add_zero, List.length_cons, List.length_nil, List.drop_zero, List.drop_succ_cons, List.take_succ_cons, List.take_zero, List.take_nil, true_and, and_true, Int.toNat_natCast, List.append_nil, List.nil_append, List.cons_append, ldB b1, clB b1, ldBL b1, clBL b1]
  rw [w_rem _ _ _ _ _ _ _ _ _ _ _ (show (keep : Int) ≠ 0 by omega), ix_mod hfst hi]
  try simp (disch := first | assumption | omega | (simp only [Int.ofNat_eq_natCast, neg_one]; done) | (simp only [Int.ofNat_eq_natCast, neg_one]; omega)) only [tysW, w_bindJ, w_logJ, w_ct, w_cf, w_gtt, w_gft, w_gtf, w_gff, w_pt, w_pf, w_lret, w_e0, w_e1, w_e2, w_nil, w_fun, w_nt, w_nf, w_add, w_sub, w_eqt, w_eqf, w_net, w_nef, w_ltt, w_ltf, w_let, w_lef, w_gtt', w_gtf', w_get, w_gef, toNat_of, of_add, cast_add, nth_0, nth_s, Nat.zero_add, Nat.reduceAdd, Nat.reduceMul, Nat.add_zero, List.length_cons, List.length_nil, List.drop_zero, List.drop_succ_cons, List.take_succ_cons, List.take_zero, List.take_nil, true_and, and_true, Int.toNat_natCast, List.append_nil, List.nil_append, List.cons_append]
  exact hk _ _ g
end
end Go.Ev.R
namespace Go.Ev.R
open Go Go.RowKit
theorem w_shr1 (t yt : TypeId) (cx cy : Bool) (a : Int) {pw : Nat → Prop} {Z : Value → T → Prop} {h : T} (k : Value → Nat → AM) (s : Nat) : (shrX P t yt cx cy (.int .u64 a) (.int .u64 (.ofNat 1)) k s).wp pw Z h = (k (.int .u64 (a.fdiv (2 ^ (min 1 (IntKind.bits .u64))))) s).wp pw Z h := by
  rw [show (Int.ofNat 1) = ((1 : Nat) : Int) from rfl, shr_eq]
section
variable {N d : Nat} (hN : 100000 ≤ N) {h : T} {s : Nat} (hf : ∀ n, s ≤ n → h.get n = none)
include hf
theorem s62 (e : EN) (p : Option Addr) (c : Nat) {tb : Nat} {t : Int} (hb : h.get tb = some (.cells ⟨[vi t]⟩ 3 (0, 0))) : ValS (D N (d + 1)) 62 [eval e p c, ptr tb] h s (.bool (decide (e.k.a ≤ t))) := by
  refine ValS.of hf fun K pw Z g hp hk => ?_
  rw [D_62]; unfold F62; rw [app2_eq]
  refine wp_boxA g hp fun h1 g1 c1 b1 => ?_
  replace hb := c1.box hb (lt_of_some hf ⟨_, hb⟩)
  simp only [ev] at b1
  try simp (disch := first | assumption | omega | (simp only [Int.ofNat_eq_natCast, neg_one]; done) | (simp only [Int.ofNat_eq_natCast, neg_one]; omega)) only [tysW, w_bindJ, w_logJ, w_ct, w_cf, w_gtt, w_gft, w_gtf, w_gff, w_pt, w_pf, w_lret, w_e0, w_e1, w_e2, w_nil, w_fun, w_nt, w_nf, w_add, w_sub, w_eqt, w_eqf, w_net, w_nef, w_ltt, w_ltf, w_let, w_lef, w_gtt', w_gtf', w_get, w_gef, toNat_of, of_add, cast_add, nth_0, nth_s, Nat.zero_add, Nat.reduceAdd, Nat.reduceMul, Nat.add_zero, List.length_cons, List.length_nil, List.drop_zero, List.drop_succ_cons, List.take_succ_cons, List.take_zero, List.take_nil, true_and, and_true, Int.toNat_natCast, List.append_nil, List.nil_append, List.cons_append, ldB b1, clB b1, ldBL b1, clBL b1, ldB hb, clB hb, ldBL hb, clBL hb, w_le]
  exact hk _ _ g1
include hN
theorem s59 (e : EN) (p : Option Addr) (c : Nat) {kb : Nat} {k : K3} (hb : h.get kb = some (.cells ⟨kv k⟩ 23 (0, 0))) : ValS (D N (d + 5)) 59 [eval e p c, ptr kb] h s (.bool (lessK e.k k)) := by
  refine ValS.of hf fun K pw Z g hp hk => ?_
  rw [D_59]; unfold F59; rw [app2_eq]
  refine wp_boxA g hp fun h1 g1 c1 b1 => ?_
  have hkb := lt_of_some hf ⟨_, hb⟩
  replace hb := c1.box hb hkb
  simp only [ev, kv] at b1 hb
  try simp (disch := first | assumption | omega | (simp only [Int.ofNat_eq_natCast, neg_one]; done) | (simp only [Int.ofNat_eq_natCast, neg_one]; omega)) only [tysW, w_bindJ, w_logJ, w_ct, w_cf, w_gtt, w_gft, w_gtf, w_gff, w_pt, w_pf, w_lret, w_e0, w_e1, w_e2, w_nil, w_fun, w_nt, w_nf, w_add, w_sub, w_eqt, w_eqf, w_net, w_nef, w_ltt, w_ltf, w_let, w_lef, w_gtt', w_gtf', w_get, w_gef, toNat_of, of_add, cast_add, nth_0, nth_s, Nat.zero_add, Nat.reduceAdd, Nat.reduceMul, Nat.add_zero, List.length_cons, List.length_nil, List.drop_zero, List.drop_succ_cons, List.take_succ_cons, List.take_zero, List.take_nil, true_and, and_true, Int.toNat_natCast, List.append_nil, List.nil_append, List.cons_append, ldB b1, clB b1, ldBL b1, clBL b1, ldB hb, clB hb, ldBL hb, clBL hb]
  refine ValS.goL g1 hp (s45 (d := d + 3) g1.fresh e.k.a e.k.b e.k.c e.inp (.slice p e.data.length c)) fun h2 s2 ts2 ws2 g2 c2 hw2 ht2 => ?_
  have l2 := c2.le
  try simp (disch := first | assumption | omega | (simp only [Int.ofNat_eq_natCast, neg_one]; done) | (simp only [Int.ofNat_eq_natCast, neg_one]; omega)) only [tysW, w_bindJ, w_logJ, w_ct, w_cf, w_gtt, w_gft, w_gtf, w_gff, w_pt, w_pf, w_lret, w_e0, w_e1, w_e2, w_nil, w_fun, w_nt, w_nf, w_add, w_sub, w_eqt, w_eqf, w_net, w_nef, w_ltt, w_ltf, w_let, w_lef, w_gtt', w_gtf', w_get, w_gef, toNat_of, of_add, cast_add, nth_0, nth_s, Nat.zero_add, Nat.reduceAdd, Nat.reduceMul, Nat.add_zero, List.length_cons, List.length_nil, List.drop_zero, List.drop_succ_cons, List.take_succ_cons, List.take_zero, List.take_nil, true_and, and_true, Int.toNat_natCast, List.append_nil, List.nil_append, List.cons_append, ldB (c2.box hb (by omega)), clB (c2.box hb (by omega)), ldBL (c2.box hb (by omega)), clBL (c2.box hb (by omega))]
  refine ValS.goL g2 hp (s17 (d := d) hN g2.fresh e.k k) fun h3 s3 ts3 ws3 g3 c3 hw3 ht3 => ?_
  rw [wp_guard, if_pos (by repeat' (first | exact dynOk_nil _ _ | refine dyn_skip' ?_ | refine dyn_cons ?_ ?_ | exact allF_nil _ _ | refine allF_cons ?_ ?_ | exact disj_below hw2 (by omega) | exact disjA hw2 (by omega) | exact disjB hw2 (by omega) | exact disjC hw2 (by assumption) | exact disjD (fun m hm => by have := hw2 m hm; omega) | exact disj_below ht2 (by omega) | exact disjA ht2 (by omega) | exact disjB ht2 (by omega) | exact disjC ht2 (by assumption) | exact disjD (fun m hm => by have := ht2 m hm; omega) | exact disjN _ | exact disj1 (by omega) | exact disj2 (by omega) | exact disj3 (by assumption) | exact disjC hw2 (fun m hm => by have := ht2 m hm; omega) | exact disjC ht2 (fun m hm => by have := hw2 m hm; omega)))]
  exact hk _ _ g3
omit hN in
/-- One place asked. -/
theorem s80 {rb q keep first : Nat} {bs : List Nat} {L : List EN} (r : RingAt h rb q keep first bs L) (hk2 : keep ≤ 1000) {bf bp fn : Nat} {caps : List Value} (hbf : h.get bf = some (.cells ⟨[.func (.func fn) ⟨[]⟩ ⟨caps⟩]⟩ 90 (0, 0))) (hbp : h.get bp = some (.cells ⟨[ptr rb]⟩ 37 (0, 0)))
    (hiv : ∀ (C : CallT) (xs ys args : List Value) (k : Value → Nat → AM) (s : Nat), invV P C (.func (.func fn) ⟨xs⟩ ⟨ys⟩) args k s = C fn (xs ++ args ++ ys) k s) {a : EN → Bool} (hA : ∀ e p c h' s', From s h h' s' → ValS (D N (d + 1)) fn (eval e p c :: caps) h' s' (.bool (a e))) {i : Nat} {e : EN} (he : L[i]? = some e) :
    ValS (D N (d + 2)) 80 [vi i, ptr bf, ptr bp] h s (.bool (!a e)) := by
  refine ValS.of hf fun K pw Z g hp hk => ?_
  rw [D_80]; unfold F80; rw [app3_eq]
  have hbfs := lt_of_some hf ⟨_, hbf⟩
  have hbps := lt_of_some hf ⟨_, hbp⟩
  obtain ⟨b, hb, p, c, e1, e2, e3⟩ := r.ent' he
  have hi : i < bs.length := (List.getElem?_eq_some_iff.1 hb).1
  have hle := r.le
  try simp (disch := first | assumption | omega | (simp only [Int.ofNat_eq_natCast, neg_one]; done) | (simp only [Int.ofNat_eq_natCast, neg_one]; omega)) only [tysW, w_bindJ, w_logJ, w_ct, w_cf, w_gtt, w_gft, w_gtf, w_gff, w_pt, w_pf, w_lret, w_e0, w_e1, w_e2, w_nil, w_fun, w_nt, w_nf, w_add, w_sub, w_eqt, w_eqf, w_net, w_nef, w_ltt, w_ltf, w_let, w_lef, w_gtt', w_gtf', w_get, w_gef, toNat_of, of_add, cast_add, nth_0, nth_s, Nat.zero_add, Nat.reduceAdd, Nat.reduceMul, Nat.add_zero, List.length_cons, List.length_nil, List.drop_zero, List.drop_succ_cons, List.take_succ_cons, List.take_zero, List.take_nil, true_and, and_true, Int.toNat_natCast, List.append_nil, List.nil_append, List.cons_append, ldB hbf, clB hbf, ldBL hbf, clBL hbf, ldB hbp, clB hbp, ldBL hbp, clBL hbp]
  refine ValS.goL g hp (s60 (d := d) g.fresh r hk2 (i := i) (by omega)) fun h2 s2 ts2 ws2 g2 c2 hw2 ht2 => ?_
  have l2 := c2.le
  have r2 := r.from hf g2
  obtain ⟨cs, q1, q2, q3⟩ := r2.row
  have hqs : q < s2 := lt_of_some g2.fresh ⟨_, q1⟩
  have e1' := g2.box e1 (lt_of_some hf ⟨_, e1⟩)
  have hcs := q3 i b hb
  simp only [ev] at e1'
  unfold X80_1
  try simp (disch := first | assumption | omega | (simp only [Int.ofNat_eq_natCast, neg_one]; done) | (simp only [Int.ofNat_eq_natCast, neg_one]; omega)) only [tysW, w_bindJ, w_logJ, w_ct, w_cf, w_gtt, w_gft, w_gtf, w_gff, w_pt, w_pf, w_lret, w_e0, w_e1, w_e2, w_nil, w_fun, w_nt, w_nf, w_add, w_sub, w_eqt, w_eqf, w_net, w_nef, w_ltt, w_ltf, w_let, w_lef, w_gtt', w_gtf', w_get, w_gef, toNat_of, of_add, cast_add, nth_0, nth_s, Nat.zero_add, Nat.reduceAdd, Nat.reduceMul, Nat.add_zero, List.length_cons, List.length_nil, List.drop_zero, List.drop_succ_cons, List.take_succ_cons, List.take_zero, List.take_nil, true_and, and_true, Int.toNat_natCast, List.append_nil, List.nil_append, List.cons_append]
  rw [ldBL q1, nth_eq, hcs]
  dsimp only
  try simp (disch := first | assumption | omega | (simp only [Int.ofNat_eq_natCast, neg_one]; done) | (simp only [Int.ofNat_eq_natCast, neg_one]; omega)) only [tysW, w_bindJ, w_logJ, w_ct, w_cf, w_gtt, w_gft, w_gtf, w_gff, w_pt, w_pf, w_lret, w_e0, w_e1, w_e2, w_nil, w_fun, w_nt, w_nf, w_add, w_sub, w_eqt, w_eqf, w_net, w_nef, w_ltt, w_ltf, w_let, w_lef, w_gtt', w_gtf', w_get, w_gef, toNat_of, of_add, cast_add, nth_0, nth_s, Nat.zero_add, Nat.reduceAdd, Nat.reduceMul, Nat.add_zero, List.length_cons, List.length_nil, List.drop_zero, List.drop_succ_cons, List.take_succ_cons, List.take_zero, List.take_nil, true_and, and_true, Int.toNat_natCast, List.append_nil, List.nil_append, List.cons_append, ldB e1', clB e1', ldBL e1', clBL e1']
  rw [hiv]
  try simp (disch := first | assumption | omega | (simp only [Int.ofNat_eq_natCast, neg_one]; done) | (simp only [Int.ofNat_eq_natCast, neg_one]; omega)) only [tysW, w_bindJ, w_logJ, w_ct, w_cf, w_gtt, w_gft, w_gtf, w_gff, w_pt, w_pf, w_lret, w_e0, w_e1, w_e2, w_nil, w_fun, w_nt, w_nf, w_add, w_sub, w_eqt, w_eqf, w_net, w_nef, w_ltt, w_ltf, w_let, w_lef, w_gtt', w_gtf', w_get, w_gef, toNat_of, of_add, cast_add, nth_0, nth_s, Nat.zero_add, Nat.reduceAdd, Nat.reduceMul, Nat.add_zero, List.length_cons, List.length_nil, List.drop_zero, List.drop_succ_cons, List.take_succ_cons, List.take_zero, List.take_nil, true_and, and_true, Int.toNat_natCast, List.append_nil, List.nil_append, List.cons_append]
  refine ValS.goL g2 hp (hA e p c h2 s2 g2) fun h3 s3 ts3 ws3 g3 c3 hw3 ht3 => ?_
  try simp (disch := first | assumption | omega | (simp only [Int.ofNat_eq_natCast, neg_one]; done) | (simp only [Int.ofNat_eq_natCast, neg_one]; omega)) only [tysW, w_bindJ, w_logJ, w_ct, w_cf, w_gtt, w_gft, w_gtf, w_gff, w_pt, w_pf, w_lret, w_e0, w_e1, w_e2, w_nil, w_fun, w_nt, w_nf, w_add, w_sub, w_eqt, w_eqf, w_net, w_nef, w_ltt, w_ltf, w_let, w_lef, w_gtt', w_gtf', w_get, w_gef, toNat_of, of_add, cast_add, nth_0, nth_s, Nat.zero_add, Nat.reduceAdd, Nat.reduceMul, Nat.add_zero, List.length_cons, List.length_nil, List.drop_zero, List.drop_succ_cons, List.take_succ_cons, List.take_zero, List.take_nil, true_and, and_true, Int.toNat_natCast, List.append_nil, List.nil_append, List.cons_append, w_not]
  rw [wp_guard, if_pos (by repeat' (first | exact dynOk_nil _ _ | refine dyn_skip' ?_ | refine dyn_cons ?_ ?_ | exact allF_nil _ _ | refine allF_cons ?_ ?_ | exact disj_below hw2 (by omega) | exact disjA hw2 (by omega) | exact disjB hw2 (by omega) | exact disjC hw2 (by assumption) | exact disjD (fun m hm => by have := hw2 m hm; omega) | exact disj_below ht2 (by omega) | exact disjA ht2 (by omega) | exact disjB ht2 (by omega) | exact disjC ht2 (by assumption) | exact disjD (fun m hm => by have := ht2 m hm; omega) | exact disjN _ | exact disj1 (by omega) | exact disj2 (by omega) | exact disj3 (by assumption) | exact disjC hw2 (fun m hm => by have := ht2 m hm; omega) | exact disjC ht2 (fun m hm => by have := hw2 m hm; omega)))]
  exact hk _ _ g3
include hN
/-- The search by halves. -/
theorem s79 {n : Nat} (hn : n ≤ 10000) {caps : List Value} {pp : Nat → Bool} (hA : ∀ i, i < n → ∀ h' s', From s h h' s' → ValS (D N (d + 1)) 80 (vi i :: caps) h' s' (.bool (pp i))) :
    PureS (D N (d + 2)) 79 [vi n, .func (.func 80) ⟨[]⟩ ⟨caps⟩] h s (fun v _ _ => ∃ i : Nat, v = vi i ∧ i ≤ n ∧ (∀ j, j + 1 = i → pp j = false) ∧ (i < n → pp i = true)) := by
  refine PureS.of hf fun K pw Z g hp hk => ?_
  rw [D_79]; unfold F79; rw [app2_eq]
  try simp (disch := first | assumption | omega | (simp only [Int.ofNat_eq_natCast, neg_one]; done) | (simp only [Int.ofNat_eq_natCast, neg_one]; omega)) only [tysW, w_bindJ, w_logJ, w_ct, w_cf, w_gtt, w_gft, w_gtf, w_gff, w_pt, w_pf, w_lret, w_e0, w_e1, w_e2, w_nil, w_fun, w_nt, w_nf, w_add, w_sub, w_eqt, w_eqf, w_net, w_nef, w_ltt, w_ltf, w_let, w_lef, w_gtt', w_gtf', w_get, w_gef, toNat_of, of_add, cast_add, nth_0, nth_s, Nat.zero_add, Nat.reduceAdd, Nat.reduceMul, Nat.add_zero, List.length_cons, List.length_nil, List.drop_zero, List.drop_succ_cons, List.take_succ_cons, List.take_zero, List.take_nil, true_and, and_true, Int.toNat_natCast, List.append_nil, List.nil_append, List.cons_append]
  have loop : ∀ (B : (Value → Value → Nat → AM) → Value → Value → Nat → AM) (hB : ∀ H u i s', B H u i s' = X79_1 N (D N (d + 1)) K (.func (.func 80) ⟨[]⟩ ⟨caps⟩) (fun v s => K v s) H u i s') (m i j : Nat) (h1 : T) (s1 : Nat), j - i < m → i ≤ j → j ≤ n → (∀ k, k + 1 = i → pp k = false) → (j < n → pp j = true) → From s h h1 s1 →
      (loopJ m 2 (fun _ _ _ => AM.fail) B (vi i) (vi j) s1).wp pw Z h1 := by
    intro B hB m
    induction m with
    | zero => intro i j h1 s1 hm; omega
    | succ m ih =>
      intro i j h1 s1 hm hij hjn hi hj g1
      rw [loopJ_succ, hB]
      unfold X79_1
      by_cases hlt : i < j
      · have e1 : ((i : Int) + (j : Int)) / 2 = (((i + j) / 2 : Nat) : Int) := by omega
        try simp (disch := first | assumption | omega | (simp only [Int.ofNat_eq_natCast, neg_one]; done) | (simp only [Int.ofNat_eq_natCast, neg_one]; omega)) only [tysW, w_bindJ, w_logJ, w_ct, w_cf, w_gtt, w_gft, w_gtf, w_gff, w_pt, w_pf, w_lret, w_e0, w_e1, w_e2, w_nil, w_fun, w_nt, w_nf, w_add, w_sub, w_eqt, w_eqf, w_net, w_nef, w_ltt, w_ltf, w_let, w_lef, w_gtt', w_gtf', w_get, w_gef, toNat_of, of_add, cast_add, nth_0, nth_s, Nat.zero_add, Nat.reduceAdd, Nat.reduceMul, Nat.add_zero, List.length_cons, List.length_nil, List.drop_zero, List.drop_succ_cons, List.take_succ_cons, List.take_zero, List.take_nil, true_and, and_true, Int.toNat_natCast, List.append_nil, List.nil_append, List.cons_append, w_shr1]
        rw [half ((i : Int) + (j : Int)) (by omega) (by omega), e1]
        try simp (disch := first | assumption | omega | (simp only [Int.ofNat_eq_natCast, neg_one]; done) | (simp only [Int.ofNat_eq_natCast, neg_one]; omega)) only [tysW, w_bindJ, w_logJ, w_ct, w_cf, w_gtt, w_gft, w_gtf, w_gff, w_pt, w_pf, w_lret, w_e0, w_e1, w_e2, w_nil, w_fun, w_nt, w_nf, w_add, w_sub, w_eqt, w_eqf, w_net, w_nef, w_ltt, w_ltf, w_let, w_lef, w_gtt', w_gtf', w_get, w_gef, toNat_of, of_add, cast_add, nth_0, nth_s, Nat.zero_add, Nat.reduceAdd, Nat.reduceMul, Nat.add_zero, List.length_cons, List.length_nil, List.drop_zero, List.drop_succ_cons, List.take_succ_cons, List.take_zero, List.take_nil, true_and, and_true, Int.toNat_natCast, List.append_nil, List.nil_append, List.cons_append, iv_80]
        refine ValS.go g1 hp (hA ((i + j) / 2) (by omega) h1 s1 g1) fun h2 s2 g2 _ => ?_
        cases e : pp ((i + j) / 2) with
        | true =>
          try simp (disch := first | assumption | omega | (simp only [Int.ofNat_eq_natCast, neg_one]; done) | (simp only [Int.ofNat_eq_natCast, neg_one]; omega)) only [tysW, w_bindJ, w_logJ, w_ct, w_cf, w_gtt, w_gft, w_gtf, w_gff, w_pt, w_pf, w_lret, w_e0, w_e1, w_e2, w_nil, w_fun, w_nt, w_nf, w_add, w_sub, w_eqt, w_eqf, w_net, w_nef, w_ltt, w_ltf, w_let, w_lef, w_gtt', w_gtf', w_get, w_gef, toNat_of, of_add, cast_add, nth_0, nth_s, Nat.zero_add, Nat.reduceAdd, Nat.reduceMul, Nat.add_zero, List.length_cons, List.length_nil, List.drop_zero, List.drop_succ_cons, List.take_succ_cons, List.take_zero, List.take_nil, true_and, and_true, Int.toNat_natCast, List.append_nil, List.nil_append, List.cons_append]
          exact ih i ((i + j) / 2) h2 s2 (by omega) (by omega) (by omega) hi (fun _ => e) g2
        | false =>
          try simp (disch := first | assumption | omega | (simp only [Int.ofNat_eq_natCast, neg_one]; done) | (simp only [Int.ofNat_eq_natCast, neg_one]; omega)) only [tysW, w_bindJ, w_logJ, w_ct, w_cf, w_gtt, w_gft, w_gtf, w_gff, w_pt, w_pf, w_lret, w_e0, w_e1, w_e2, w_nil, w_fun, w_nt, w_nf, w_add, w_sub, w_eqt, w_eqf, w_net, w_nef, w_ltt, w_ltf, w_let, w_lef, w_gtt', w_gtf', w_get, w_gef, toNat_of, of_add, cast_add, nth_0, nth_s, Nat.zero_add, Nat.reduceAdd, Nat.reduceMul, Nat.add_zero, List.length_cons, List.length_nil, List.drop_zero, List.drop_succ_cons, List.take_succ_cons, List.take_zero, List.take_nil, true_and, and_true, Int.toNat_natCast, List.append_nil, List.nil_append, List.cons_append]
          exact ih ((i + j) / 2 + 1) j h2 s2 (by omega) (by omega) hjn (fun k hk' => by rw [show k = (i + j) / 2 by omega]; exact e) hj g2
      · obtain rfl : i = j := by omega
        try simp (disch := first | assumption | omega | (simp only [Int.ofNat_eq_natCast, neg_one]; done) | (simp only [Int.ofNat_eq_natCast, neg_one]; omega)) only [tysW, w_bindJ, w_logJ, w_ct, w_cf, w_gtt, w_gft, w_gtf, w_gff, w_pt, w_pf, w_lret, w_e0, w_e1, w_e2, w_nil, w_fun, w_nt, w_nf, w_add, w_sub, w_eqt, w_eqf, w_net, w_nef, w_ltt, w_ltf, w_let, w_lef, w_gtt', w_gtf', w_get, w_gef, toNat_of, of_add, cast_add, nth_0, nth_s, Nat.zero_add, Nat.reduceAdd, Nat.reduceMul, Nat.add_zero, List.length_cons, List.length_nil, List.drop_zero, List.drop_succ_cons, List.take_succ_cons, List.take_zero, List.take_nil, true_and, and_true, Int.toNat_natCast, List.append_nil, List.nil_append, List.cons_append]
        exact hk _ _ _ g1 ⟨i, rfl, hjn, hi, hj⟩
  exact loop _ (fun _ _ _ _ => rfl) N 0 n h s (by omega) (by omega) (Nat.le_refl _) (fun k hk' => by omega) (fun h => by omega) g
theorem s58 {rb q keep first : Nat} {bs : List Nat} {L : List EN} (r : RingAt h rb q keep first bs L) (hk2 : keep ≤ 1000) {fn : Nat} {caps : List Value}
    (hiv : ∀ (C : CallT) (xs ys args : List Value) (k : Value → Nat → AM) (s : Nat), invV P C (.func (.func fn) ⟨xs⟩ ⟨ys⟩) args k s = C fn (xs ++ args ++ ys) k s) {a : EN → Bool} (hA : ∀ e p c h' s', From s h h' s' → ValS (D N (d + 1)) fn (eval e p c :: caps) h' s' (.bool (a e))) :
    PureS (D N (d + 4)) 58 [ptr rb, .func (.func fn) ⟨[]⟩ ⟨caps⟩] h s (fun v _ _ => ∃ i : Nat, v = vi i ∧ i ≤ L.length ∧ (∀ j e, j + 1 = i → L[j]? = some e → a e = true) ∧ (∀ e, L[i]? = some e → a e = false)) := by
  refine PureS.of hf fun K pw Z g hp hk => ?_
  rw [D_58]; unfold F58; rw [app2_eq]
  refine wp_box1 (v := ptr rb) rfl g hp fun h1 g1 c1 b1 => ?_
  try simp (disch := first | assumption | omega | (simp only [Int.ofNat_eq_natCast, neg_one]; done) | (simp only [Int.ofNat_eq_natCast, neg_one]; omega)) only [tysW, w_bindJ, w_logJ, w_ct, w_cf, w_gtt, w_gft, w_gtf, w_gff, w_pt, w_pf, w_lret, w_e0, w_e1, w_e2, w_nil, w_fun, w_nt, w_nf, w_add, w_sub, w_eqt, w_eqf, w_net, w_nef, w_ltt, w_ltf, w_let, w_lef, w_gtt', w_gtf', w_get, w_gef, toNat_of, of_add, cast_add, nth_0, nth_s, Nat.zero_add, Nat.reduceAdd, Nat.reduceMul, Nat.add_zero, List.length_cons, List.length_nil, List.drop_zero, List.drop_succ_cons, List.take_succ_cons, List.take_zero, List.take_nil, true_and, and_true, Int.toNat_natCast, List.append_nil, List.nil_append, List.cons_append]
  refine wp_box1 (v := .func (.func fn) ⟨[]⟩ ⟨caps⟩) rfl g1 hp fun h2 g2 c2 b2 => ?_
  replace b1 := c2.box b1 (by omega)
  have r2 := r.from hf g2
  have rb2 := r2.box
  have hlen := r.len
  have hle := r.le
  try simp (disch := first | assumption | omega | (simp only [Int.ofNat_eq_natCast, neg_one]; done) | (simp only [Int.ofNat_eq_natCast, neg_one]; omega)) only [tysW, w_bindJ, w_logJ, w_ct, w_cf, w_gtt, w_gft, w_gtf, w_gff, w_pt, w_pf, w_lret, w_e0, w_e1, w_e2, w_nil, w_fun, w_nt, w_nf, w_add, w_sub, w_eqt, w_eqf, w_net, w_nef, w_ltt, w_ltf, w_let, w_lef, w_gtt', w_gtf', w_get, w_gef, toNat_of, of_add, cast_add, nth_0, nth_s, Nat.zero_add, Nat.reduceAdd, Nat.reduceMul, Nat.add_zero, List.length_cons, List.length_nil, List.drop_zero, List.drop_succ_cons, List.take_succ_cons, List.take_zero, List.take_nil, true_and, and_true, Int.toNat_natCast, List.append_nil, List.nil_append, List.cons_append, ldB b1, clB b1, ldBL b1, clBL b1, ldB rb2, clB rb2, ldBL rb2, clBL rb2]
  refine PureS.go g2 hp (s79 (n := bs.length) (pp := fun i => match L[i]? with | some e => !a e | none => false) (d := d + 1) hN g2.fresh (by omega) (fun i hi h' s' g' => ?_)) fun v h3 s3 g3 c3 hv => ?_
  · obtain ⟨e, he⟩ := get_some (l := L) (i := i) (by omega)
    rw [he]
    exact s80 (d := d) g'.fresh (r2.from g2.fresh g') hk2 (g'.box b2 (by omega)) (g'.box b1 (by omega)) hiv (fun e p c h'' s'' g'' => hA e p c h'' s'' ((g2.trans g').trans g'')) he
  · obtain ⟨i, rfl, h4, h5, h6⟩ := hv
    refine hk _ _ _ g3 ⟨i, rfl, by omega, fun j e hj he => ?_, fun e he => ?_⟩
    · have := h5 j hj
      rw [he] at this
      simpa using this
    · have hi : i < L.length := (List.getElem?_eq_some_iff.1 he).1
      have := h6 (by omega)
      rw [he] at this
      simpa using this
end
end Go.Ev.R
namespace Go.Ev.R
open Go Go.RowKit
def ksE (L : List EN) : List K3 := L.map EN.k
/-- Where an entry is inserted: the entries behind that, the place, how many move, the error. -/
def insE (keep : Nat) (e : EN) (L : List EN) : List EN × Int × Int × Int :=
  if atK e.k (ksE L) = true then (L, 0, 0, 7) else if L.length = keep then (L, 0, 0, 13) else (L.take (plK e.k (ksE L)) ++ e :: L.drop (plK e.k (ksE L)), plK e.k (ksE L), (L.length : Int) - plK e.k (ksE L), 0)
theorem ks_get {L : List EN} {i : Nat} : (ksE L)[i]? = (L[i]?).map EN.k := by simp [ksE]
theorem ks_len (L : List EN) : (ksE L).length = L.length := by simp [ksE]
theorem one_EI (l : List Int) : (l.flatMap EI.f).all Value.oneCell' = true := by
  induction l with
  | nil => rfl
  | cons x l ih => rw [List.flatMap_cons, List.all_append, ih]; rfl
section
variable {N d : Nat} (hN : 100000 ≤ N) {h : T} {s : Nat} (hf : ∀ n, s ≤ n → h.get n = none)
include hf
theorem s60b {rb q keep first m : Nat} (hb : h.get rb = some (.cells ⟨[.slice (some ⟨q, 0, none⟩) keep keep, vi first, vi m]⟩ 72 (0, 0))) (hpos : 0 < keep) (hfst : first < keep) (hk2 : keep ≤ 1000) {i : Nat} (hi : i ≤ keep) : ValS (D N (d + 1)) 60 [ptr rb, vi i] h s (.pointer (some ⟨q, ix first keep i, none⟩)) := by
  refine ValS.of hf fun K pw Z g hp hk => ?_
  rw [D_60]; unfold F60; rw [app2_eq]
  have hix := ix_lt hfst hi
  try simp (disch := first | assumption | omega | (simp only [Int.ofNat_eq_natCast, neg_one]; done) | (simp only [Int.ofNat_eq_natCast, neg_one]; omega)) only [tysW, w_bindJ, w_logJ, w_ct, w_cf, w_gtt, w_gft, w_gtf, w_gff, w_pt, w_pf, w_lret, w_e0, w_e1, w_e2, w_nil, w_fun, w_nt, w_nf, w_add, w_sub, w_eqt, w_eqf, w_net, w_nef, w_ltt, w_ltf, w_let, w_lef, w_gtt', w_gtf', w_get, w_gef, toNat_of, of_add, cast_add, nth_0, nth_s, Nat.zero_add, Nat.reduceAdd, Nat.reduceMul, Nat.add_zero, List.length_cons, List.length_nil, List.drop_zero, List.drop_succ_cons, List.take_succ_cons, List.take_zero, List.take_nil, true_and, and_true, Int.toNat_natCast, List.append_nil, List.nil_append, List.cons_append, ldB hb, clB hb, ldBL hb, clBL hb]
  unfold X60_1
  try simp (disch := first | assumption | omega | (simp only [Int.ofNat_eq_natCast, neg_one]; done) | (simp only [Int.ofNat_eq_natCast, neg_one]; omega)) only [tysW, w_bindJ, w_logJ, w_ct, w_cf, w_gtt, w_gft, w_gtf, w_gff, w_pt, w_pf, w_lret, w_e0, w_e1, w_e2, w_nil, w_fun, w_nt, w_nf, w_add, w_sub, w_eqt, w_eqf, w_net, w_nef, w_ltt, w_ltf, w_let, w_lef, w_gtt', w_gtf', w_get, w_gef, toNat_of, of_add, cast_add, nth_0, nth_s, Nat.zero_add, Nat.reduceAdd, Nat.reduceMul, Nat.add_zero, List.length_cons, List.length_nil, List.drop_zero, List.drop_succ_cons, List.take_succ_cons, List.take_zero, List.take_nil, true_and, and_true, Int.toNat_natCast, List.append_nil, List.nil_append, List.cons_append, ldB hb, clB hb, ldBL hb, clBL hb]
  rw [w_rem _ _ _ _ _ _ _ _ _ _ _ (show (keep : Int) ≠ 0 by omega), ix_mod hfst hi]
  try simp (disch := first | assumption | omega | (simp only [Int.ofNat_eq_natCast, neg_one]; done) | (simp only [Int.ofNat_eq_natCast, neg_one]; omega)) only [tysW, w_bindJ, w_logJ, w_ct, w_cf, w_gtt, w_gft, w_gtf, w_gff, w_pt, w_pf, w_lret, w_e0, w_e1, w_e2, w_nil, w_fun, w_nt, w_nf, w_add, w_sub, w_eqt, w_eqf, w_net, w_nef, w_ltt, w_ltf, w_let, w_lef, w_gtt', w_gtf', w_get, w_gef, toNat_of, of_add, cast_add, nth_0, nth_s, Nat.zero_add, Nat.reduceAdd, Nat.reduceMul, Nat.add_zero, List.length_cons, List.length_nil, List.drop_zero, List.drop_succ_cons, List.take_succ_cons, List.take_zero, List.take_nil, true_and, and_true, Int.toNat_natCast, List.append_nil, List.nil_append, List.cons_append]
  exact hk _ _ g
theorem s81 {p : Option Addr} {len cap : Nat} {l : List Int} (r : Sl EI h p len cap l) (hl : len ≤ 100000) : PureS (D N (d + 1)) 81 [.slice p len cap] h s (fun v h' s' => ∃ p', v = .slice p' len len ∧ Sl EI h' p' len len l ∧ (len ≠ 0 → s ≤ blk p')) := by
  refine PureS.of hf fun K pw Z g hp hk => ?_
  rw [D_81]; unfold F81; rw [app1_eq]
  cases p with
  | none =>
    obtain ⟨rfl, rfl⟩ := r.emp rfl
    try simp (disch := first | assumption | omega | (simp only [Int.ofNat_eq_natCast, neg_one]; done) | (simp only [Int.ofNat_eq_natCast, neg_one]; omega)) only [tysW, w_bindJ, w_logJ, w_ct, w_cf, w_gtt, w_gft, w_gtf, w_gff, w_pt, w_pf, w_lret, w_e0, w_e1, w_e2, w_nil, w_fun, w_nt, w_nf, w_add, w_sub, w_eqt, w_eqf, w_net, w_nef, w_ltt, w_ltf, w_let, w_lef, w_gtt', w_gtf', w_get, w_gef, toNat_of, of_add, cast_add, nth_0, nth_s, Nat.zero_add, Nat.reduceAdd, Nat.reduceMul, Nat.add_zero, List.length_cons, List.length_nil, List.drop_zero, List.drop_succ_cons, List.take_succ_cons, List.take_zero, List.take_nil, true_and, and_true, Int.toNat_natCast, List.append_nil, List.nil_append, List.cons_append]
    exact hk _ _ _ g ⟨_, rfl, r, fun h => absurd rfl h⟩
  | some a =>
    try simp (disch := first | assumption | omega | (simp only [Int.ofNat_eq_natCast, neg_one]; done) | (simp only [Int.ofNat_eq_natCast, neg_one]; omega)) only [tysW, w_bindJ, w_logJ, w_ct, w_cf, w_gtt, w_gft, w_gtf, w_gff, w_pt, w_pf, w_lret, w_e0, w_e1, w_e2, w_nil, w_fun, w_nt, w_nf, w_add, w_sub, w_eqt, w_eqf, w_net, w_nef, w_ltt, w_ltf, w_let, w_lef, w_gtt', w_gtf', w_get, w_gef, toNat_of, of_add, cast_add, nth_0, nth_s, Nat.zero_add, Nat.reduceAdd, Nat.reduceMul, Nat.add_zero, List.length_cons, List.length_nil, List.drop_zero, List.drop_succ_cons, List.take_succ_cons, List.take_zero, List.take_nil, true_and, and_true, Int.toNat_natCast, List.append_nil, List.nil_append, List.cons_append]
    refine wp_newF g hp fun h1 g1 c1 b1 => ?_
    try simp (disch := first | assumption | omega | (simp only [Int.ofNat_eq_natCast, neg_one]; done) | (simp only [Int.ofNat_eq_natCast, neg_one]; omega)) only [tysW, w_bindJ, w_logJ, w_ct, w_cf, w_gtt, w_gft, w_gtf, w_gff, w_pt, w_pf, w_lret, w_e0, w_e1, w_e2, w_nil, w_fun, w_nt, w_nf, w_add, w_sub, w_eqt, w_eqf, w_net, w_nef, w_ltt, w_ltf, w_let, w_lef, w_gtt', w_gtf', w_get, w_gef, toNat_of, of_add, cast_add, nth_0, nth_s, Nat.zero_add, Nat.reduceAdd, Nat.reduceMul, Nat.add_zero, List.length_cons, List.length_nil, List.drop_zero, List.drop_succ_cons, List.take_succ_cons, List.take_zero, List.take_nil, true_and, and_true, Int.toNat_natCast, List.append_nil, List.nil_append, List.cons_append]
    by_cases h0 : len = 0
    · subst h0
      have hl0 := List.eq_nil_of_length_eq_zero r.row.1
      subst hl0
      exact wp_ap_none (by omega) (by omega) (hk _ _ _ g1 ⟨_, rfl, Sl.own (E := EI) b1 (.inl rfl) rfl, fun h => absurd rfl h⟩)
    · have hrow := (r.from hf g1).row
      refine Sl.addK (E := EI) (l := []) (Sl.own (len := 0) b1 (.inl rfl) rfl) hrow (fun _ => rfl) h0 (by omega) (by omega) (g1.fresh _ (Nat.le_refl _)) (hp _ (by omega)) (fun m o sp e => ?_) fun h2 b2 e2 => ?_
      · cases e
        exact ⟨hp _ (Nat.le_refl _), by omega, _, _, _, _, b1, .inl rfl⟩
      · rw [Nat.zero_add]
        have g2 : From s h h2 (s + 1 + 1) := ⟨by omega, fun n hn => by rw [e2 n (fun _ => by show n ≠ s; omega) (by omega)]; exact g1.keep n hn, fun n hn => by rw [e2 n (fun _ => by show n ≠ s; omega) (by omega)]; exact g1.fresh n (by omega)⟩
        exact hk _ _ _ g2 ⟨_, rfl, Sl.own (E := EI) b2 (.inr rfl) r.row.1, fun _ => by show s ≤ s + 1; omega⟩
theorem s61 (e : EN) {p : Option Addr} {c : Nat} (r : Sl EI h p e.data.length c e.data) (hl : e.data.length ≤ 100000) : PureS (D N (d + 2)) 61 [eval e p c] h s (fun v h' s' => ∃ p', v = eval e p' e.data.length ∧ Sl EI h' p' e.data.length e.data.length e.data ∧ (e.data.length ≠ 0 → s + 1 + 1 ≤ blk p')) := by
  refine PureS.of hf fun K pw Z g hp hk => ?_
  rw [D_61]; unfold F61; rw [app1_eq]
  refine wp_boxA g hp fun h1 g1 c1 b1 => ?_
  try simp (disch := first | assumption | omega | (simp only [Int.ofNat_eq_natCast, neg_one]; done) | (simp only [Int.ofNat_eq_natCast, neg_one]; omega)) only [tysW, w_bindJ, w_logJ, w_ct, w_cf, w_gtt, w_gft, w_gtf, w_gff, w_pt, w_pf, w_lret, w_e0, w_e1, w_e2, w_nil, w_fun, w_nt, w_nf, w_add, w_sub, w_eqt, w_eqf, w_net, w_nef, w_ltt, w_ltf, w_let, w_lef, w_gtt', w_gtf', w_get, w_gef, toNat_of, of_add, cast_add, nth_0, nth_s, Nat.zero_add, Nat.reduceAdd, Nat.reduceMul, Nat.add_zero, List.length_cons, List.length_nil, List.drop_zero, List.drop_succ_cons, List.take_succ_cons, List.take_zero, List.take_nil, true_and, and_true, Int.toNat_natCast, List.append_nil, List.nil_append, List.cons_append]
  refine wp_boxA g1 hp fun h2 g2 c2 b2 => ?_
  replace b1 := c2.box b1 (by omega)
  simp only [ev] at b1
  try simp (disch := first | assumption | omega | (simp only [Int.ofNat_eq_natCast, neg_one]; done) | (simp only [Int.ofNat_eq_natCast, neg_one]; omega)) only [tysW, w_bindJ, w_logJ, w_ct, w_cf, w_gtt, w_gft, w_gtf, w_gff, w_pt, w_pf, w_lret, w_e0, w_e1, w_e2, w_nil, w_fun, w_nt, w_nf, w_add, w_sub, w_eqt, w_eqf, w_net, w_nef, w_ltt, w_ltf, w_let, w_lef, w_gtt', w_gtf', w_get, w_gef, toNat_of, of_add, cast_add, nth_0, nth_s, Nat.zero_add, Nat.reduceAdd, Nat.reduceMul, Nat.add_zero, List.length_cons, List.length_nil, List.drop_zero, List.drop_succ_cons, List.take_succ_cons, List.take_zero, List.take_nil, true_and, and_true, Int.toNat_natCast, List.append_nil, List.nil_append, List.cons_append, ldB b1, clB b1, ldBL b1, clBL b1]
  refine PureS.go g2 hp (s81 (d := d) g2.fresh (r.from hf g2) hl) fun v h3 s3 g3 c3 hv => ?_
  obtain ⟨p', rfl, sl, hb'⟩ := hv
  have l3 := c3.le
  replace b1 := c3.box b1 (by omega)
  replace b2 := c3.box b2 (by omega)
  try simp (disch := first | assumption | omega | (simp only [Int.ofNat_eq_natCast, neg_one]; done) | (simp only [Int.ofNat_eq_natCast, neg_one]; omega)) only [tysW, w_bindJ, w_logJ, w_ct, w_cf, w_gtt, w_gft, w_gtf, w_gff, w_pt, w_pf, w_lret, w_e0, w_e1, w_e2, w_nil, w_fun, w_nt, w_nf, w_add, w_sub, w_eqt, w_eqf, w_net, w_nef, w_ltt, w_ltf, w_let, w_lef, w_gtt', w_gtf', w_get, w_gef, toNat_of, of_add, cast_add, nth_0, nth_s, Nat.zero_add, Nat.reduceAdd, Nat.reduceMul, Nat.add_zero, List.length_cons, List.length_nil, List.drop_zero, List.drop_succ_cons, List.take_succ_cons, List.take_zero, List.take_nil, true_and, and_true, Int.toNat_natCast, List.append_nil, List.nil_append, List.cons_append, ldB b1, clB b1, ldBL b1, clBL b1]
  refine wp_putF g3 hp b1 (by omega) (by simp) rfl fun h4 g4 b4 e4 => ?_
  simp only [overL] at b4
  try simp (disch := first | assumption | omega | (simp only [Int.ofNat_eq_natCast, neg_one]; done) | (simp only [Int.ofNat_eq_natCast, neg_one]; omega)) only [tysW, w_bindJ, w_logJ, w_ct, w_cf, w_gtt, w_gft, w_gtf, w_gff, w_pt, w_pf, w_lret, w_e0, w_e1, w_e2, w_nil, w_fun, w_nt, w_nf, w_add, w_sub, w_eqt, w_eqf, w_net, w_nef, w_ltt, w_ltf, w_let, w_lef, w_gtt', w_gtf', w_get, w_gef, toNat_of, of_add, cast_add, nth_0, nth_s, Nat.zero_add, Nat.reduceAdd, Nat.reduceMul, Nat.add_zero, List.length_cons, List.length_nil, List.drop_zero, List.drop_succ_cons, List.take_succ_cons, List.take_zero, List.take_nil, true_and, and_true, Int.toNat_natCast, List.append_nil, List.nil_append, List.cons_append, ldB b4, clB b4, ldBL b4, clBL b4]
  replace b2 := (e4 (s + 1) (by omega)).trans b2
  refine wp_putF g4 hp b2 (by omega) (by simp) rfl fun h5 g5 b5 e5 => ?_
  simp only [overL] at b5
  try simp (disch := first | assumption | omega | (simp only [Int.ofNat_eq_natCast, neg_one]; done) | (simp only [Int.ofNat_eq_natCast, neg_one]; omega)) only [tysW, w_bindJ, w_logJ, w_ct, w_cf, w_gtt, w_gft, w_gtf, w_gff, w_pt, w_pf, w_lret, w_e0, w_e1, w_e2, w_nil, w_fun, w_nt, w_nf, w_add, w_sub, w_eqt, w_eqf, w_net, w_nef, w_ltt, w_ltf, w_let, w_lef, w_gtt', w_gtf', w_get, w_gef, toNat_of, of_add, cast_add, nth_0, nth_s, Nat.zero_add, Nat.reduceAdd, Nat.reduceMul, Nat.add_zero, List.length_cons, List.length_nil, List.drop_zero, List.drop_succ_cons, List.take_succ_cons, List.take_zero, List.take_nil, true_and, and_true, Int.toNat_natCast, List.append_nil, List.nil_append, List.cons_append, ldB b5, clB b5, ldBL b5, clBL b5]
  refine hk _ _ _ g5 ⟨p', rfl, sl.but fun hc => ?_, hb'⟩
  have := hb' hc
  rw [e5 _ (by omega), e4 _ (by omega)]
end
end Go.Ev.R
namespace Go.Ev.R
open Go Go.RowKit
theorem one_ptr' (b : Nat) : (ptr b).oneCell' = true := rfl
theorem EntAt.but2 {h h' : T} {rb q b s : Nat} {e : EN} (o : EntAt h rb q b e) (hf : ∀ n, s ≤ n → h.get n = none) (hk : ∀ n, n < s → n ≠ rb → n ≠ q → h'.get n = h.get n) (hb : b ≠ rb) (hq : b ≠ q) : EntAt h' rb q b e := by
  obtain ⟨p, c, h1, h2, h3⟩ := o
  exact ⟨p, c, by rw [hk b (lt_of_some hf ⟨_, h1⟩) hb hq]; exact h1, h2.but fun hc => hk _ (h2.lt hf hc) (h3 hc).1 (h3 hc).2, h3⟩
theorem put_get {α : Type} (l : List α) (x : α) {i : Nat} (hi : i ≤ l.length) (j : Nat) : (l.take i ++ x :: l.drop i)[j]? = if j < i then l[j]? else if j = i then some x else l[j - 1]? := by
  have htk : (l.take i).length = i := by rw [List.length_take]; omega
  by_cases h1 : j < i
  · rw [if_pos h1, List.getElem?_append_left (by omega), List.getElem?_take, if_pos h1]
  · rw [if_neg h1, List.getElem?_append_right (by omega), htk]
    by_cases h2 : j = i
    · subst h2; rw [if_pos rfl, Nat.sub_self]; rfl
    · rw [if_neg h2]
      obtain ⟨k, hk⟩ : ∃ k, j - i = k + 1 := ⟨j - i - 1, by omega⟩
      rw [hk, List.getElem?_cons_succ, List.getElem?_drop]
      congr 1; omega
theorem eq_23 (x y : K3) {pw : Nat → Prop} {Z : Value → T → Prop} {h : T} (k : Value → Nat → AM) (s : Nat) : (eqX P 23 23 false false (kval x) (kval y) k s).wp pw Z h = (k (.bool (sameK x y)) s).wp pw Z h := by
  simp only [kval, kv]
  rw [eqs_23]
  simp [sameK]
/-- A place written. -/
theorem set_place (cs : List Value) (i : Nat) (v : Value) (hi : i < cs.length) : overL cs i [v] = cs.set i v := by
  have E1 : Enc Value := ⟨1, fun x => [x], by decide, fun _ => rfl⟩
  induction cs generalizing i with
  | nil => simp at hi
  | cons x l ih =>
    cases i with
    | zero => cases l <;> rfl
    | succ i => show x :: overL l i [v] = x :: l.set i v; rw [ih i (by simpa using hi)]
theorem rise_of_find {L : List EN} {k : K3} (hr : risingK (ksE L) = true) {i : Nat} (hi : i ≤ L.length) (h1 : ∀ j e, j + 1 = i → L[j]? = some e → lessK e.k k = true) (h2 : ∀ e, L[i]? = some e → lessK e.k k = false) : plK k (ksE L) = i := by
  refine pl_rise hr (by rw [ks_len]; exact hi) (fun j y hj hy => ?_) (fun y hy => ?_)
  · rw [ks_get] at hy
    cases he : L[j]? with
    | none => rw [he] at hy; cases hy
    | some e => rw [he] at hy; cases hy; exact h1 j e hj he
  · rw [ks_get] at hy
    cases he : L[i]? with
    | none => rw [he] at hy; cases hy
    | some e => rw [he] at hy; cases hy; exact h2 e he
/-- Blocks that are none of a ring's entries nor of their numbers. -/
def Avoid (h : T) (bs : List Nat) (A : Nat → Prop) : Prop := ∀ (i b : Nat), bs[i]? = some b → ¬ A b ∧ ∀ (e : EN) (p : Option Addr) (c : Nat), h.get b = some (.cells ⟨ev e p c⟩ 43 (0, 0)) → c ≠ 0 → ¬ A (blk p)
theorem Avoid.keep {h h' : T} {bs : List Nat} {A : Nat → Prop} (a : Avoid h bs A) (e : ∀ (i b : Nat), bs[i]? = some b → h'.get b = h.get b) : Avoid h' bs A := fun i b hb => ⟨(a i b hb).1, fun x p c hx => (a i b hb).2 x p c (by rw [← e i b hb]; exact hx)⟩
theorem RingAt.below {h : T} {rb q keep first s : Nat} {bs : List Nat} {L : List EN} (r : RingAt h rb q keep first bs L) (hf : ∀ n, s ≤ n → h.get n = none) {i b : Nat} (hb : bs[i]? = some b) : b < s := by
  obtain ⟨e, _, p, c, h1, _⟩ := r.ent i b hb
  exact lt_of_some hf ⟨_, h1⟩
theorem RingAt.butA {h h' : T} {rb q keep first : Nat} {bs : List Nat} {L : List EN} {A : Nat → Prop} (r : RingAt h rb q keep first bs L) (a : Avoid h bs A) (hrb : ¬ A rb) (hq : ¬ A q) (e : ∀ n, ¬ A n → h'.get n = h.get n) : RingAt h' rb q keep first bs L := by
  obtain ⟨cs, h1, h2, h3⟩ := r.row
  refine ⟨by rw [e rb hrb]; exact r.box, ⟨cs, by rw [e q hq]; exact h1, h2, h3⟩, r.ne, r.pos, r.fst, r.le, r.len, fun i b hb => ?_⟩
  obtain ⟨x, h4, p, c, h5, h6, h7⟩ := r.ent i b hb
  obtain ⟨a1, a2⟩ := a i b hb
  exact ⟨x, h4, p, c, by rw [e b a1]; exact h5, h6.but fun hc => e _ (a2 x p c h5 hc), h7⟩
theorem ev_inj {e e' : EN} {p p' : Option Addr} {c c' : Nat} (h : (some (Obj.cells ⟨ev e p c⟩ 43 (0, 0)) : Option Obj) = some (.cells ⟨ev e' p' c'⟩ 43 (0, 0))) : p = p' ∧ c = c' := by
  have h1 := congrArg (fun o => match o with | some (Obj.cells a _ _) => a.toList[4]? | _ => none) h
  simp [ev] at h1
  exact ⟨h1.1, h1.2.2⟩
section
variable {N d : Nat} (hN : 100000 ≤ N)
include hN
set_option maxHeartbeats 1000000 in
theorem s28 {h0 h : T} {s0 s rb q keep first : Nat} {bs : List Nat} {L : List EN} (g : From s0 h0 h s) (hrb : s0 ≤ rb) (hq : s0 ≤ q) {pw : Nat → Prop} {Z : Value → T → Prop} (hp : ∀ n, s0 ≤ n → pw n) (r : RingAt h rb q keep first bs L) (hk2 : keep ≤ 1000) (hr : risingK (ksE L) = true)
    (e : EN) {p : Option Addr} {c : Nat} (a : Sl EI h p e.data.length c e.data) (hl : e.data.length ≤ 100000) {K : Value → Nat → AM}
    (hk : ∀ h' s' bs', From s0 h0 h' s' → s ≤ s' → RingAt h' rb q keep first bs' (insE keep e L).1 → (∀ n, n < s → n ≠ rb → n ≠ q → h'.get n = h.get n) → (∀ A : Nat → Prop, (∀ n, s ≤ n → ¬ A n) → Avoid h bs A → Avoid h' bs' A) → (K (.tuple ⟨[vi (insE keep e L).2.1, vi (insE keep e L).2.2.1, vi (insE keep e L).2.2.2]⟩) s').wp pw Z h') :
    (D N (d + 10) 28 [ptr rb, eval e p c] K s).wp pw Z h := by
  rw [D_28]; unfold F28; rw [app2_eq]
  have hf := g.fresh
  refine wp_boxA g hp fun h1 g1 c1 b1 => ?_
  have b1' := b1
  simp only [ev] at b1'
  try simp (disch := first | assumption | omega | (simp only [Int.ofNat_eq_natCast, neg_one]; done) | (simp only [Int.ofNat_eq_natCast, neg_one]; omega)) only [tysW, w_bindJ, w_logJ, w_ct, w_cf, w_gtt, w_gft, w_gtf, w_gff, w_pt, w_pf, w_lret, w_e0, w_e1, w_e2, w_nil, w_fun, w_nt, w_nf, w_add, w_sub, w_eqt, w_eqf, w_net, w_nef, w_ltt, w_ltf, w_let, w_lef, w_gtt', w_gtf', w_get, w_gef, toNat_of, of_add, cast_add, nth_0, nth_s, Nat.zero_add, Nat.reduceAdd, Nat.reduceMul, Nat.add_zero, List.length_cons, List.length_nil, List.drop_zero, List.drop_succ_cons, List.take_succ_cons, List.take_zero, List.take_nil, true_and, and_true, Int.toNat_natCast, List.append_nil, List.nil_append, List.cons_append]
  refine ValS.go g1 hp (s57 (d := d + 8) g1.fresh (r.from hf c1)) fun h2 s2 g2 c2 => ?_
  have l2 := c2.le
  replace b1 := c2.box b1 (by omega)
  replace b1' := c2.box b1' (by omega)
  try simp (disch := first | assumption | omega | (simp only [Int.ofNat_eq_natCast, neg_one]; done) | (simp only [Int.ofNat_eq_natCast, neg_one]; omega)) only [tysW, w_bindJ, w_logJ, w_ct, w_cf, w_gtt, w_gft, w_gtf, w_gff, w_pt, w_pf, w_lret, w_e0, w_e1, w_e2, w_nil, w_fun, w_nt, w_nf, w_add, w_sub, w_eqt, w_eqf, w_net, w_nef, w_ltt, w_ltf, w_let, w_lef, w_gtt', w_gtf', w_get, w_gef, toNat_of, of_add, cast_add, nth_0, nth_s, Nat.zero_add, Nat.reduceAdd, Nat.reduceMul, Nat.add_zero, List.length_cons, List.length_nil, List.drop_zero, List.drop_succ_cons, List.take_succ_cons, List.take_zero, List.take_nil, true_and, and_true, Int.toNat_natCast, List.append_nil, List.nil_append, List.cons_append, ldB b1', clB b1', ldBL b1', clBL b1']
  refine ValS.go g2 hp (s45 (d := d + 8) g2.fresh e.k.a e.k.b e.k.c e.inp (.slice p e.data.length c)) fun h3 s3 g3 c3 => ?_
  have l3 := c3.le
  replace b1 := c3.box b1 (by omega)
  replace b1' := c3.box b1' (by omega)
  try simp (disch := first | assumption | omega | (simp only [Int.ofNat_eq_natCast, neg_one]; done) | (simp only [Int.ofNat_eq_natCast, neg_one]; omega)) only [tysW, w_bindJ, w_logJ, w_ct, w_cf, w_gtt, w_gft, w_gtf, w_gff, w_pt, w_pf, w_lret, w_e0, w_e1, w_e2, w_nil, w_fun, w_nt, w_nf, w_add, w_sub, w_eqt, w_eqf, w_net, w_nef, w_ltt, w_ltf, w_let, w_lef, w_gtt', w_gtf', w_get, w_gef, toNat_of, of_add, cast_add, nth_0, nth_s, Nat.zero_add, Nat.reduceAdd, Nat.reduceMul, Nat.add_zero, List.length_cons, List.length_nil, List.drop_zero, List.drop_succ_cons, List.take_succ_cons, List.take_zero, List.take_nil, true_and, and_true, Int.toNat_natCast, List.append_nil, List.nil_append, List.cons_append]
  refine wp_boxA g3 hp fun h4 g4 c4 b4 => ?_
  replace b1 := c4.box b1 (by omega)
  replace b1' := c4.box b1' (by omega)
  simp only [kval, kv]
  try simp (disch := first | assumption | omega | (simp only [Int.ofNat_eq_natCast, neg_one]; done) | (simp only [Int.ofNat_eq_natCast, neg_one]; omega)) only [tysW, w_bindJ, w_logJ, w_ct, w_cf, w_gtt, w_gft, w_gtf, w_gff, w_pt, w_pf, w_lret, w_e0, w_e1, w_e2, w_nil, w_fun, w_nt, w_nf, w_add, w_sub, w_eqt, w_eqf, w_net, w_nef, w_ltt, w_ltf, w_let, w_lef, w_gtt', w_gtf', w_get, w_gef, toNat_of, of_add, cast_add, nth_0, nth_s, Nat.zero_add, Nat.reduceAdd, Nat.reduceMul, Nat.add_zero, List.length_cons, List.length_nil, List.drop_zero, List.drop_succ_cons, List.take_succ_cons, List.take_zero, List.take_nil, true_and, and_true, Int.toNat_natCast, List.append_nil, List.nil_append, List.cons_append]
  refine wp_putF g4 hp b4 (by have := g.le; omega) (by exact Nat.le_refl 3) rfl fun h5 g5 b5 e5 => ?_
  simp only [overL] at b5
  have b5k : h5.get s3 = some (.cells ⟨kv e.k⟩ 23 (0, 0)) := b5
  replace b1 := (e5 s (by omega)).trans b1
  replace b1' := (e5 s (by omega)).trans b1'
  have k5 : From s h h5 (s3 + 1) := ⟨by omega, fun n hn => by rw [e5 n (by omega), c4.keep n (by omega), c3.keep n (by omega), c2.keep n (by omega), c1.keep n hn], g5.fresh⟩
  have r5 := r.from hf k5
  try simp (disch := first | assumption | omega | (simp only [Int.ofNat_eq_natCast, neg_one]; done) | (simp only [Int.ofNat_eq_natCast, neg_one]; omega)) only [tysW, w_bindJ, w_logJ, w_ct, w_cf, w_gtt, w_gft, w_gtf, w_gff, w_pt, w_pf, w_lret, w_e0, w_e1, w_e2, w_nil, w_fun, w_nt, w_nf, w_add, w_sub, w_eqt, w_eqf, w_net, w_nef, w_ltt, w_ltf, w_let, w_lef, w_gtt', w_gtf', w_get, w_gef, toNat_of, of_add, cast_add, nth_0, nth_s, Nat.zero_add, Nat.reduceAdd, Nat.reduceMul, Nat.add_zero, List.length_cons, List.length_nil, List.drop_zero, List.drop_succ_cons, List.take_succ_cons, List.take_zero, List.take_nil, true_and, and_true, Int.toNat_natCast, List.append_nil, List.nil_append, List.cons_append]
  refine PureS.go g5 hp (s58 (d := d + 5) hN g5.fresh r5 hk2 (fn := 59) (caps := [ptr s3]) (a := fun x => lessK x.k e.k) (fun C xs ys args k s => iv_59 C xs ys args k s) (fun e' p' c' h' s' g' => s59 (d := d + 1) hN g'.fresh e' p' c' (g'.box b5k (by omega)))) fun v h6 s6 g6 c6 hv => ?_
  obtain ⟨i, rfl, hi, hi1, hi2⟩ := hv
  have hpl := rise_of_find hr hi hi1 hi2
  have l6 := c6.le
  replace b1 := c6.box b1 (by omega)
  replace b1' := c6.box b1' (by omega)
  replace b5 := c6.box b5 (by omega)
  have k6 : From s h h6 s6 := k5.trans c6
  have r6 := r.from hf k6
  have rb6 := r6.box
  have hlen := r.len
  have hle := r.le
  have hrs : rb < s := lt_of_some hf ⟨_, r.box⟩
  have hqs : q < s := by obtain ⟨cs, q1, _⟩ := r.row; exact lt_of_some hf ⟨_, q1⟩
  -- what is behind, where it is not there
  have rest : ∀ (h7 : T) (s7 : Nat), atK e.k (ksE L) = false → From s0 h0 h7 s7 → From s h h7 s7 → h7.get s = some (.cells ⟨ev e p c⟩ 43 (0, 0)) → s6 ≤ s7 →
      (nilX (ptr rb) (fun v45 s' => fa 72 v45 2 (fun v46 s' => AM.log (ld 3 v46 (fun v s => AM.ret (pk v s)) s') (logU ((fun v47 _ _ s' => nilX (ptr rb) (fun v48 s' => fa 72 v48 0 (fun v49 s' => AM.log (ld 70 v49 (fun v s => AM.ret (pk v s)) s') (logU ((fun v50 _ _ s' => AM.log (lenX P ⟨[70]⟩ v50 (fun v s => AM.ret (pk v s)) s') (logU (X28_3 N (D N (d + 9)) K v47 (ptr s) (ptr rb) (vi i)))) : LogT))) s') s') : LogT))) s') s7).wp pw Z h7 := by
    intro h7 s7 hat g7 k7 C1 hs7
    have l7 := k7.le
    have r7 := r.from hf k7
    have rb7 := r7.box
    try simp (disch := first | assumption | omega | (simp only [Int.ofNat_eq_natCast, neg_one]; done) | (simp only [Int.ofNat_eq_natCast, neg_one]; omega)) only [tysW, w_bindJ, w_logJ, w_ct, w_cf, w_gtt, w_gft, w_gtf, w_gff, w_pt, w_pf, w_lret, w_e0, w_e1, w_e2, w_nil, w_fun, w_nt, w_nf, w_add, w_sub, w_eqt, w_eqf, w_net, w_nef, w_ltt, w_ltf, w_let, w_lef, w_gtt', w_gtf', w_get, w_gef, toNat_of, of_add, cast_add, nth_0, nth_s, Nat.zero_add, Nat.reduceAdd, Nat.reduceMul, Nat.add_zero, List.length_cons, List.length_nil, List.drop_zero, List.drop_succ_cons, List.take_succ_cons, List.take_zero, List.take_nil, true_and, and_true, Int.toNat_natCast, List.append_nil, List.nil_append, List.cons_append, ldB rb7, clB rb7, ldBL rb7, clBL rb7]
    unfold X28_3
    by_cases hfull : bs.length = keep
    · have hin : insE keep e L = (L, 0, 0, 13) := by unfold insE; rw [if_neg (by simp [hat]), if_pos (by omega)]
      rw [hin] at hk
      try simp (disch := first | assumption | omega | (simp only [Int.ofNat_eq_natCast, neg_one]; done) | (simp only [Int.ofNat_eq_natCast, neg_one]; omega)) only [tysW, w_bindJ, w_logJ, w_ct, w_cf, w_gtt, w_gft, w_gtf, w_gff, w_pt, w_pf, w_lret, w_e0, w_e1, w_e2, w_nil, w_fun, w_nt, w_nf, w_add, w_sub, w_eqt, w_eqf, w_net, w_nef, w_ltt, w_ltf, w_let, w_lef, w_gtt', w_gtf', w_get, w_gef, toNat_of, of_add, cast_add, nth_0, nth_s, Nat.zero_add, Nat.reduceAdd, Nat.reduceMul, Nat.add_zero, List.length_cons, List.length_nil, List.drop_zero, List.drop_succ_cons, List.take_succ_cons, List.take_zero, List.take_nil, true_and, and_true, Int.toNat_natCast, List.append_nil, List.nil_append, List.cons_append]
      exact hk h7 s7 bs g7 l7 r7 (fun n hn _ _ => k7.keep n hn) (fun A _ a => a.keep fun i b hb => k7.keep b (r.below hf hb))
    have hin : insE keep e L = (L.take i ++ e :: L.drop i, (i : Int), (L.length : Int) - i, 0) := by unfold insE; rw [if_neg (by simp [hat]), if_neg (by omega), hpl]
    rw [hin] at hk
    have C1' := C1
    simp only [ev] at C1'
    try simp (disch := first | assumption | omega | (simp only [Int.ofNat_eq_natCast, neg_one]; done) | (simp only [Int.ofNat_eq_natCast, neg_one]; omega)) only [tysW, w_bindJ, w_logJ, w_ct, w_cf, w_gtt, w_gft, w_gtf, w_gff, w_pt, w_pf, w_lret, w_e0, w_e1, w_e2, w_nil, w_fun, w_nt, w_nf, w_add, w_sub, w_eqt, w_eqf, w_net, w_nef, w_ltt, w_ltf, w_let, w_lef, w_gtt', w_gtf', w_get, w_gef, toNat_of, of_add, cast_add, nth_0, nth_s, Nat.zero_add, Nat.reduceAdd, Nat.reduceMul, Nat.add_zero, List.length_cons, List.length_nil, List.drop_zero, List.drop_succ_cons, List.take_succ_cons, List.take_zero, List.take_nil, true_and, and_true, Int.toNat_natCast, List.append_nil, List.nil_append, List.cons_append, ldB C1', clB C1', ldBL C1', clBL C1']
    refine PureS.go g7 hp (s61 (d := d + 7) g7.fresh e (a.from hf k7) hl) fun v h8 s8 g8 c8 hv => ?_
    obtain ⟨p8, rfl, a8, ha8⟩ := hv
    have l8 := c8.le
    simp only [eval, ev]
    try simp (disch := first | assumption | omega | (simp only [Int.ofNat_eq_natCast, neg_one]; done) | (simp only [Int.ofNat_eq_natCast, neg_one]; omega)) only [tysW, w_bindJ, w_logJ, w_ct, w_cf, w_gtt, w_gft, w_gtf, w_gff, w_pt, w_pf, w_lret, w_e0, w_e1, w_e2, w_nil, w_fun, w_nt, w_nf, w_add, w_sub, w_eqt, w_eqf, w_net, w_nef, w_ltt, w_ltf, w_let, w_lef, w_gtt', w_gtf', w_get, w_gef, toNat_of, of_add, cast_add, nth_0, nth_s, Nat.zero_add, Nat.reduceAdd, Nat.reduceMul, Nat.add_zero, List.length_cons, List.length_nil, List.drop_zero, List.drop_succ_cons, List.take_succ_cons, List.take_zero, List.take_nil, true_and, and_true, Int.toNat_natCast, List.append_nil, List.nil_append, List.cons_append]
    refine wp_boxA g8 hp fun h9 g9 c9 b9 => ?_
    have a9 := a8.from g8.fresh c9
    try simp (disch := first | assumption | omega | (simp only [Int.ofNat_eq_natCast, neg_one]; done) | (simp only [Int.ofNat_eq_natCast, neg_one]; omega)) only [tysW, w_bindJ, w_logJ, w_ct, w_cf, w_gtt, w_gft, w_gtf, w_gff, w_pt, w_pf, w_lret, w_e0, w_e1, w_e2, w_nil, w_fun, w_nt, w_nf, w_add, w_sub, w_eqt, w_eqf, w_net, w_nef, w_ltt, w_ltf, w_let, w_lef, w_gtt', w_gtf', w_get, w_gef, toNat_of, of_add, cast_add, nth_0, nth_s, Nat.zero_add, Nat.reduceAdd, Nat.reduceMul, Nat.add_zero, List.length_cons, List.length_nil, List.drop_zero, List.drop_succ_cons, List.take_succ_cons, List.take_zero, List.take_nil, true_and, and_true, Int.toNat_natCast, List.append_nil, List.nil_append, List.cons_append]
    refine wp_putF g9 hp b9 (by have := g.le; omega) (by exact Nat.le_refl 5) rfl fun h10 g10 b10 e10 => ?_
    simp only [overL] at b10
    have a10 : Sl EI h10 p8 e.data.length e.data.length e.data := a9.but fun hc => e10 _ (by have := a8.lt g8.fresh hc; omega)
    have k10 : From s h h10 (s8 + 1) := ⟨by omega, fun n hn => by rw [e10 n (by omega), c9.keep n (by omega), c8.keep n (by omega), k7.keep n hn], g10.fresh⟩
    have r10 := r.from hf k10
    have rb10 := r10.box
    obtain ⟨cs, q1, q2, q3⟩ := r10.row
    have hfst := r.fst
    have hpos := r.pos
    try simp (disch := first | assumption | omega | (simp only [Int.ofNat_eq_natCast, neg_one]; done) | (simp only [Int.ofNat_eq_natCast, neg_one]; omega)) only [tysW, w_bindJ, w_logJ, w_ct, w_cf, w_gtt, w_gft, w_gtf, w_gff, w_pt, w_pf, w_lret, w_e0, w_e1, w_e2, w_nil, w_fun, w_nt, w_nf, w_add, w_sub, w_eqt, w_eqf, w_net, w_nef, w_ltt, w_ltf, w_let, w_lef, w_gtt', w_gtf', w_get, w_gef, toNat_of, of_add, cast_add, nth_0, nth_s, Nat.zero_add, Nat.reduceAdd, Nat.reduceMul, Nat.add_zero, List.length_cons, List.length_nil, List.drop_zero, List.drop_succ_cons, List.take_succ_cons, List.take_zero, List.take_nil, true_and, and_true, Int.toNat_natCast, List.append_nil, List.nil_append, List.cons_append, ldB rb10, clB rb10, ldBL rb10, clBL rb10]
    have loop : ∀ (J : Nat → AM) (hJ : ∀ h1 s1 cs1, From s0 h0 h1 s1 → s8 + 1 ≤ s1 → (∀ n, n < s8 + 1 → n ≠ q → h1.get n = h10.get n) → h1.get q = some (.cells ⟨cs1⟩ 91 (0, 0)) → cs1.length = keep → (∀ j b, j < i → bs[j]? = some b → cs1[ix first keep j]? = some (ptr b)) → (∀ j b, i ≤ j → bs[j]? = some b → cs1[ix first keep (j + 1)]? = some (ptr b)) → (J s1).wp pw Z h1)
        (B : (Value → Nat → AM) → Value → Nat → AM) (hB : ∀ H u s', B H u s' = X28_2 N (D N (d + 9)) K (vi i) (ptr rb) J H u s') (m k : Nat) (h1 : T) (s1 : Nat) (cs1 : List Value), k - i < m → i ≤ k → k ≤ bs.length → From s0 h0 h1 s1 → s8 + 1 ≤ s1 → (∀ n, n < s8 + 1 → n ≠ q → h1.get n = h10.get n) → h1.get q = some (.cells ⟨cs1⟩ 91 (0, 0)) → cs1.length = keep → (∀ j b, j < k → bs[j]? = some b → cs1[ix first keep j]? = some (ptr b)) → (∀ j b, k ≤ j → bs[j]? = some b → cs1[ix first keep (j + 1)]? = some (ptr b)) →
        (loopJ m 1 (fun _ _ => AM.fail) B (vi k) s1).wp pw Z h1 := by
      intro J hJ B hB m
      induction m with
      | zero => intro k h1 s1 cs1 hm; omega
      | succ m ih =>
        intro k h1 s1 cs1 hm hik hkm g1 hs1 kk kq hcl hlo hhi
        rw [loopJ_succ, hB]
        unfold X28_2
        by_cases hlt : i < k
        · obtain ⟨k, rfl⟩ : ∃ k', k = k' + 1 := ⟨k - 1, by omega⟩
          have rb1 : h1.get rb = some (.cells ⟨[.slice (some ⟨q, 0, none⟩) keep keep, vi first, vi bs.length]⟩ 72 (0, 0)) := by rw [kk rb (by omega) r.ne]; exact rb10
          try simp (disch := first | assumption | omega | (simp only [Int.ofNat_eq_natCast, neg_one]; done) | (simp only [Int.ofNat_eq_natCast, neg_one]; omega)) only [tysW, w_bindJ, w_logJ, w_ct, w_cf, w_gtt, w_gft, w_gtf, w_gff, w_pt, w_pf, w_lret, w_e0, w_e1, w_e2, w_nil, w_fun, w_nt, w_nf, w_add, w_sub, w_eqt, w_eqf, w_net, w_nef, w_ltt, w_ltf, w_let, w_lef, w_gtt', w_gtf', w_get, w_gef, toNat_of, of_add, cast_add, nth_0, nth_s, Nat.zero_add, Nat.reduceAdd, Nat.reduceMul, Nat.add_zero, List.length_cons, List.length_nil, List.drop_zero, List.drop_succ_cons, List.take_succ_cons, List.take_zero, List.take_nil, true_and, and_true, Int.toNat_natCast, List.append_nil, List.nil_append, List.cons_append]
          refine ValS.go g1 hp (s60b (d := d + 8) g1.fresh rb1 hpos hfst hk2 (i := k + 1) (by omega)) fun h2 s2 g2 c2 => ?_
          have l2 := c2.le
          try simp (disch := first | assumption | omega | (simp only [Int.ofNat_eq_natCast, neg_one]; done) | (simp only [Int.ofNat_eq_natCast, neg_one]; omega)) only [tysW, w_bindJ, w_logJ, w_ct, w_cf, w_gtt, w_gft, w_gtf, w_gff, w_pt, w_pf, w_lret, w_e0, w_e1, w_e2, w_nil, w_fun, w_nt, w_nf, w_add, w_sub, w_eqt, w_eqf, w_net, w_nef, w_ltt, w_ltf, w_let, w_lef, w_gtt', w_gtf', w_get, w_gef, toNat_of, of_add, cast_add, nth_0, nth_s, Nat.zero_add, Nat.reduceAdd, Nat.reduceMul, Nat.add_zero, List.length_cons, List.length_nil, List.drop_zero, List.drop_succ_cons, List.take_succ_cons, List.take_zero, List.take_nil, true_and, and_true, Int.toNat_natCast, List.append_nil, List.nil_append, List.cons_append]
          rw [show ((k + 1 : Nat) : Int) - Int.ofNat 1 = (k : Int) from by simp only [Int.ofNat_eq_natCast]; omega]
          refine ValS.go g2 hp (s60b (d := d + 8) g2.fresh (c2.box rb1 (by omega)) hpos hfst hk2 (i := k) (by omega)) fun h3 s3 g3 c3 => ?_
          have l3 := c3.le
          have kq3 : h3.get q = some (.cells ⟨cs1⟩ 91 (0, 0)) := (c3.box (c2.box kq (by omega)) (by omega))
          obtain ⟨b, hb⟩ := get_some (l := bs) (i := k) (by omega)
          have hx1 := ix_lt hfst (show k + 1 ≤ keep by omega)
          try simp (disch := first | assumption | omega | (simp only [Int.ofNat_eq_natCast, neg_one]; done) | (simp only [Int.ofNat_eq_natCast, neg_one]; omega)) only [tysW, w_bindJ, w_logJ, w_ct, w_cf, w_gtt, w_gft, w_gtf, w_gff, w_pt, w_pf, w_lret, w_e0, w_e1, w_e2, w_nil, w_fun, w_nt, w_nf, w_add, w_sub, w_eqt, w_eqf, w_net, w_nef, w_ltt, w_ltf, w_let, w_lef, w_gtt', w_gtf', w_get, w_gef, toNat_of, of_add, cast_add, nth_0, nth_s, Nat.zero_add, Nat.reduceAdd, Nat.reduceMul, Nat.add_zero, List.length_cons, List.length_nil, List.drop_zero, List.drop_succ_cons, List.take_succ_cons, List.take_zero, List.take_nil, true_and, and_true, Int.toNat_natCast, List.append_nil, List.nil_append, List.cons_append]
          rw [ldB kq3, nth_eq, hlo k b (by omega) hb]
          dsimp only
          try simp (disch := first | assumption | omega | (simp only [Int.ofNat_eq_natCast, neg_one]; done) | (simp only [Int.ofNat_eq_natCast, neg_one]; omega)) only [tysW, w_bindJ, w_logJ, w_ct, w_cf, w_gtt, w_gft, w_gtf, w_gff, w_pt, w_pf, w_lret, w_e0, w_e1, w_e2, w_nil, w_fun, w_nt, w_nf, w_add, w_sub, w_eqt, w_eqf, w_net, w_nef, w_ltt, w_ltf, w_let, w_lef, w_gtt', w_gtf', w_get, w_gef, toNat_of, of_add, cast_add, nth_0, nth_s, Nat.zero_add, Nat.reduceAdd, Nat.reduceMul, Nat.add_zero, List.length_cons, List.length_nil, List.drop_zero, List.drop_succ_cons, List.take_succ_cons, List.take_zero, List.take_nil, true_and, and_true, Int.toNat_natCast, List.append_nil, List.nil_append, List.cons_append]
          refine wp_putF g3 hp kq3 (by omega) (by simp; omega) rfl fun h4 g4 b4 e4 => ?_
          rw [set_place _ _ _ (by omega)] at b4
          try simp (disch := first | assumption | omega | (simp only [Int.ofNat_eq_natCast, neg_one]; done) | (simp only [Int.ofNat_eq_natCast, neg_one]; omega)) only [tysW, w_bindJ, w_logJ, w_ct, w_cf, w_gtt, w_gft, w_gtf, w_gff, w_pt, w_pf, w_lret, w_e0, w_e1, w_e2, w_nil, w_fun, w_nt, w_nf, w_add, w_sub, w_eqt, w_eqf, w_net, w_nef, w_ltt, w_ltf, w_let, w_lef, w_gtt', w_gtf', w_get, w_gef, toNat_of, of_add, cast_add, nth_0, nth_s, Nat.zero_add, Nat.reduceAdd, Nat.reduceMul, Nat.add_zero, List.length_cons, List.length_nil, List.drop_zero, List.drop_succ_cons, List.take_succ_cons, List.take_zero, List.take_nil, true_and, and_true, Int.toNat_natCast, List.append_nil, List.nil_append, List.cons_append]
          rw [show ((k + 1 : Nat) : Int) - Int.ofNat 1 = (k : Int) from by simp only [Int.ofNat_eq_natCast]; omega]
          refine ih k h4 s3 _ (by omega) (by omega) (by omega) g4 (by omega) (fun n hn hnq => by rw [e4 n hnq, c3.keep n (by omega), c2.keep n (by omega)]; exact kk n hn hnq) b4 (by simpa using hcl) (fun j b' hj hb' => ?_) (fun j b' hj hb' => ?_)
          · rw [List.getElem?_set_ne (ix_ne hfst (by omega) (by omega) (by omega))]
            exact hlo j b' (by omega) hb'
          · have hjl : j < bs.length := (List.getElem?_eq_some_iff.1 hb').1
            by_cases hjk : j = k
            · subst hjk
              rw [hb] at hb'
              cases hb'
              rw [List.getElem?_set_self (by omega)]
            · rw [List.getElem?_set_ne (ix_ne hfst (by omega) (by omega) (by omega))]
              exact hhi j b' (by omega) hb'
        · obtain rfl : k = i := by omega
          try simp (disch := first | assumption | omega | (simp only [Int.ofNat_eq_natCast, neg_one]; done) | (simp only [Int.ofNat_eq_natCast, neg_one]; omega)) only [tysW, w_bindJ, w_logJ, w_ct, w_cf, w_gtt, w_gft, w_gtf, w_gff, w_pt, w_pf, w_lret, w_e0, w_e1, w_e2, w_nil, w_fun, w_nt, w_nf, w_add, w_sub, w_eqt, w_eqf, w_net, w_nef, w_ltt, w_ltf, w_let, w_lef, w_gtt', w_gtf', w_get, w_gef, toNat_of, of_add, cast_add, nth_0, nth_s, Nat.zero_add, Nat.reduceAdd, Nat.reduceMul, Nat.add_zero, List.length_cons, List.length_nil, List.drop_zero, List.drop_succ_cons, List.take_succ_cons, List.take_zero, List.take_nil, true_and, and_true, Int.toNat_natCast, List.append_nil, List.nil_append, List.cons_append]
          exact hJ h1 s1 cs1 g1 hs1 kk kq hcl hlo hhi
    refine loop _ (fun h1 s1 cs1 g1 hs1 kk kq hcl hlo hhi => ?_) _ (fun _ _ _ => rfl) N bs.length h10 _ cs (by omega) (by omega) (Nat.le_refl _) g10 (Nat.le_refl _) (fun _ _ _ => rfl) q1 q2 (fun j b _ hb => q3 j b hb) (fun j b hj hb => by have := (List.getElem?_eq_some_iff.1 hb).1; omega)
    have rb1 : h1.get rb = some (.cells ⟨[.slice (some ⟨q, 0, none⟩) keep keep, vi first, vi bs.length]⟩ 72 (0, 0)) := by rw [kk rb (by omega) r.ne]; exact rb10
    unfold X28_1
    refine ValS.go g1 hp (s60b (d := d + 8) g1.fresh rb1 hpos hfst hk2 (i := i) (by omega)) fun h2 s2 g2 c2 => ?_
    have l2 := c2.le
    have hx1 := ix_lt hfst (show i ≤ keep by omega)
    try simp (disch := first | assumption | omega | (simp only [Int.ofNat_eq_natCast, neg_one]; done) | (simp only [Int.ofNat_eq_natCast, neg_one]; omega)) only [tysW, w_bindJ, w_logJ, w_ct, w_cf, w_gtt, w_gft, w_gtf, w_gff, w_pt, w_pf, w_lret, w_e0, w_e1, w_e2, w_nil, w_fun, w_nt, w_nf, w_add, w_sub, w_eqt, w_eqf, w_net, w_nef, w_ltt, w_ltf, w_let, w_lef, w_gtt', w_gtf', w_get, w_gef, toNat_of, of_add, cast_add, nth_0, nth_s, Nat.zero_add, Nat.reduceAdd, Nat.reduceMul, Nat.add_zero, List.length_cons, List.length_nil, List.drop_zero, List.drop_succ_cons, List.take_succ_cons, List.take_zero, List.take_nil, true_and, and_true, Int.toNat_natCast, List.append_nil, List.nil_append, List.cons_append]
    refine wp_putF g2 hp (c2.box kq (by omega)) (by omega) (by simp; omega) rfl fun h3 g3 b3 e3 => ?_
    rw [set_place _ _ _ (by omega)] at b3
    have rb3 := (e3 rb r.ne).trans (c2.box rb1 (by omega))
    try simp (disch := first | assumption | omega | (simp only [Int.ofNat_eq_natCast, neg_one]; done) | (simp only [Int.ofNat_eq_natCast, neg_one]; omega)) only [tysW, w_bindJ, w_logJ, w_ct, w_cf, w_gtt, w_gft, w_gtf, w_gff, w_pt, w_pf, w_lret, w_e0, w_e1, w_e2, w_nil, w_fun, w_nt, w_nf, w_add, w_sub, w_eqt, w_eqf, w_net, w_nef, w_ltt, w_ltf, w_let, w_lef, w_gtt', w_gtf', w_get, w_gef, toNat_of, of_add, cast_add, nth_0, nth_s, Nat.zero_add, Nat.reduceAdd, Nat.reduceMul, Nat.add_zero, List.length_cons, List.length_nil, List.drop_zero, List.drop_succ_cons, List.take_succ_cons, List.take_zero, List.take_nil, true_and, and_true, Int.toNat_natCast, List.append_nil, List.nil_append, List.cons_append, ldB rb3, clB rb3, ldBL rb3, clBL rb3]
    refine wp_putF g3 hp rb3 (by omega) (by simp) rfl fun h4 g4 b4 e4 => ?_
    simp only [overL] at b4
    try simp (disch := first | assumption | omega | (simp only [Int.ofNat_eq_natCast, neg_one]; done) | (simp only [Int.ofNat_eq_natCast, neg_one]; omega)) only [tysW, w_bindJ, w_logJ, w_ct, w_cf, w_gtt, w_gft, w_gtf, w_gff, w_pt, w_pf, w_lret, w_e0, w_e1, w_e2, w_nil, w_fun, w_nt, w_nf, w_add, w_sub, w_eqt, w_eqf, w_net, w_nef, w_ltt, w_ltf, w_let, w_lef, w_gtt', w_gtf', w_get, w_gef, toNat_of, of_add, cast_add, nth_0, nth_s, Nat.zero_add, Nat.reduceAdd, Nat.reduceMul, Nat.add_zero, List.length_cons, List.length_nil, List.drop_zero, List.drop_succ_cons, List.take_succ_cons, List.take_zero, List.take_nil, true_and, and_true, Int.toNat_natCast, List.append_nil, List.nil_append, List.cons_append, ldB b4, clB b4, ldBL b4, clBL b4]
    rw [show ((bs.length + 1 : Nat) : Int) - Int.ofNat 1 - (i : Int) = (L.length : Int) - (i : Int) from by simp only [Int.ofNat_eq_natCast]; omega]
    have hs8 : s8 < s8 + 1 := Nat.lt_succ_self _
    have k4 : ∀ n, n < s8 + 1 → n ≠ rb → n ≠ q → h4.get n = h10.get n := fun n hn h1' h2' => by rw [e4 n h1', e3 n h2', c2.keep n (by omega)]; exact kk n hn h2'
    have hib : i ≤ bs.length := by omega
    have hbl : (bs.take i ++ s8 :: bs.drop i).length = bs.length + 1 := by simp; omega
    refine hk h4 s2 (bs.take i ++ s8 :: bs.drop i) g4 (by omega) ⟨?_, ⟨_, (e4 q (Ne.symm r.ne)).trans b3, by simpa using hcl, fun j b hb => ?_⟩, r.ne, hpos, hfst, by rw [hbl]; omega, by simp; omega, fun j b hb => ?_⟩ (fun n hn h1' h2' => by rw [k4 n (by omega) h1' h2']; exact k10.keep n hn) (fun A hA a j b hb => ?_)
    · rw [b4, hbl]
    · rw [put_get bs s8 hib] at hb
      have hjl : j < bs.length + 1 := by
        rcases Nat.lt_trichotomy j i with h | h | h
        · omega
        · omega
        · rw [if_neg (by omega), if_neg (by omega)] at hb
          have := (List.getElem?_eq_some_iff.1 hb).1
          omega
      by_cases h1' : j < i
      · rw [if_pos h1'] at hb
        rw [List.getElem?_set_ne (ix_ne hfst (by omega) (by omega) (by omega))]
        exact hlo j b h1' hb
      · rw [if_neg h1'] at hb
        by_cases h2' : j = i
        · subst h2'
          rw [if_pos rfl] at hb
          cases hb
          rw [List.getElem?_set_self (by omega)]
        · rw [if_neg h2'] at hb
          rw [List.getElem?_set_ne (ix_ne hfst (by omega) (by omega) (by omega))]
          have := hhi (j - 1) b (by omega) hb
          rwa [show j - 1 + 1 = j by omega] at this
    · rw [put_get bs s8 hib] at hb
      rw [put_get L e (by omega)]
      by_cases h1' : j < i
      · rw [if_pos h1'] at hb ⊢
        obtain ⟨e', y1, y2⟩ := r10.ent j b hb
        obtain ⟨z1, z2⟩ := r10.apart hb
        exact ⟨e', y1, y2.but2 g10.fresh k4 z1 z2⟩
      · rw [if_neg h1'] at hb ⊢
        by_cases h2' : j = i
        · subst h2'
          rw [if_pos rfl] at hb ⊢
          cases hb
          refine ⟨e, rfl, p8, _, by rw [k4 _ hs8 (by omega) (by omega)]; exact b10, a10.but fun hc => ?_, fun hc => ?_⟩
          · have y1 := a10.lt g10.fresh hc
            have y2 := ha8 hc
            exact k4 _ y1 (by omega) (by omega)
          · have y2 := ha8 hc
            omega
        · rw [if_neg h2'] at hb ⊢
          obtain ⟨e', y1, y2⟩ := r10.ent (j - 1) b hb
          obtain ⟨z1, z2⟩ := r10.apart hb
          exact ⟨e', y1, y2.but2 g10.fresh k4 z1 z2⟩
    · have old : ∀ (i b : Nat), bs[i]? = some b → ¬ A b ∧ ∀ (e : EN) (p : Option Addr) (c : Nat), h4.get b = some (.cells ⟨ev e p c⟩ 43 (0, 0)) → c ≠ 0 → ¬ A (blk p) := fun i b hb => by
        have y1 := r.below hf hb
        obtain ⟨z1, z2⟩ := r.apart hb
        obtain ⟨a1, a2⟩ := a i b hb
        exact ⟨a1, fun x p c hx => a2 x p c (by rw [← k10.keep b y1, ← k4 b (by omega) z1 z2]; exact hx)⟩
      rw [put_get bs s8 hib] at hb
      by_cases h1' : j < i
      · rw [if_pos h1'] at hb
        exact old j b hb
      · rw [if_neg h1'] at hb
        by_cases h2' : j = i
        · rw [if_pos h2'] at hb
          cases hb
          refine ⟨hA _ (by omega), fun x p' c' hx hc => hA _ ?_⟩
          have := (k4 _ hs8 (by omega) (by omega)).trans b10
          obtain ⟨y1, y2⟩ := ev_inj (this.symm.trans hx)
          rw [← y1]
          have := ha8 (by omega)
          omega
        · rw [if_neg h2'] at hb
          exact old (j - 1) b hb
  have r6' : 0 < keep := r.pos
  by_cases hil : i < L.length
  · obtain ⟨ei, hei⟩ := get_some (l := L) (i := i) hil
    obtain ⟨bi, hbi, pi, ci, x1, x2, x3⟩ := r6.ent' hei
    obtain ⟨cs, q1, q2, q3⟩ := r6.row
    have hcs := q3 i bi hbi
    try simp (disch := first | assumption | omega | (simp only [Int.ofNat_eq_natCast, neg_one]; done) | (simp only [Int.ofNat_eq_natCast, neg_one]; omega)) only [tysW, w_bindJ, w_logJ, w_ct, w_cf, w_gtt, w_gft, w_gtf, w_gff, w_pt, w_pf, w_lret, w_e0, w_e1, w_e2, w_nil, w_fun, w_nt, w_nf, w_add, w_sub, w_eqt, w_eqf, w_net, w_nef, w_ltt, w_ltf, w_let, w_lef, w_gtt', w_gtf', w_get, w_gef, toNat_of, of_add, cast_add, nth_0, nth_s, Nat.zero_add, Nat.reduceAdd, Nat.reduceMul, Nat.add_zero, List.length_cons, List.length_nil, List.drop_zero, List.drop_succ_cons, List.take_succ_cons, List.take_zero, List.take_nil, true_and, and_true, Int.toNat_natCast, List.append_nil, List.nil_append, List.cons_append, ldB rb6, clB rb6, ldBL rb6, clBL rb6]
    unfold X28_7
    try simp (disch := first | assumption | omega | (simp only [Int.ofNat_eq_natCast, neg_one]; done) | (simp only [Int.ofNat_eq_natCast, neg_one]; omega)) only [tysW, w_bindJ, w_logJ, w_ct, w_cf, w_gtt, w_gft, w_gtf, w_gff, w_pt, w_pf, w_lret, w_e0, w_e1, w_e2, w_nil, w_fun, w_nt, w_nf, w_add, w_sub, w_eqt, w_eqf, w_net, w_nef, w_ltt, w_ltf, w_let, w_lef, w_gtt', w_gtf', w_get, w_gef, toNat_of, of_add, cast_add, nth_0, nth_s, Nat.zero_add, Nat.reduceAdd, Nat.reduceMul, Nat.add_zero, List.length_cons, List.length_nil, List.drop_zero, List.drop_succ_cons, List.take_succ_cons, List.take_zero, List.take_nil, true_and, and_true, Int.toNat_natCast, List.append_nil, List.nil_append, List.cons_append]
    refine ValS.goL g6 hp (s60 (d := d + 8) g6.fresh r6 hk2 (i := i) (by omega)) fun h7 s7 ts7 ws7 g7 c7 hw7 ht7 => ?_
    have l7 := c7.le
    have x1' := c7.box x1 (lt_of_some g6.fresh ⟨_, x1⟩)
    simp only [ev] at x1'
    try simp (disch := first | assumption | omega | (simp only [Int.ofNat_eq_natCast, neg_one]; done) | (simp only [Int.ofNat_eq_natCast, neg_one]; omega)) only [tysW, w_bindJ, w_logJ, w_ct, w_cf, w_gtt, w_gft, w_gtf, w_gff, w_pt, w_pf, w_lret, w_e0, w_e1, w_e2, w_nil, w_fun, w_nt, w_nf, w_add, w_sub, w_eqt, w_eqf, w_net, w_nef, w_ltt, w_ltf, w_let, w_lef, w_gtt', w_gtf', w_get, w_gef, toNat_of, of_add, cast_add, nth_0, nth_s, Nat.zero_add, Nat.reduceAdd, Nat.reduceMul, Nat.add_zero, List.length_cons, List.length_nil, List.drop_zero, List.drop_succ_cons, List.take_succ_cons, List.take_zero, List.take_nil, true_and, and_true, Int.toNat_natCast, List.append_nil, List.nil_append, List.cons_append]
    unfold X28_6
    try simp (disch := first | assumption | omega | (simp only [Int.ofNat_eq_natCast, neg_one]; done) | (simp only [Int.ofNat_eq_natCast, neg_one]; omega)) only [tysW, w_bindJ, w_logJ, w_ct, w_cf, w_gtt, w_gft, w_gtf, w_gff, w_pt, w_pf, w_lret, w_e0, w_e1, w_e2, w_nil, w_fun, w_nt, w_nf, w_add, w_sub, w_eqt, w_eqf, w_net, w_nef, w_ltt, w_ltf, w_let, w_lef, w_gtt', w_gtf', w_get, w_gef, toNat_of, of_add, cast_add, nth_0, nth_s, Nat.zero_add, Nat.reduceAdd, Nat.reduceMul, Nat.add_zero, List.length_cons, List.length_nil, List.drop_zero, List.drop_succ_cons, List.take_succ_cons, List.take_zero, List.take_nil, true_and, and_true, Int.toNat_natCast, List.append_nil, List.nil_append, List.cons_append]
    rw [ldBL (c7.box q1 (by omega)), nth_eq, hcs]
    dsimp only
    try simp (disch := first | assumption | omega | (simp only [Int.ofNat_eq_natCast, neg_one]; done) | (simp only [Int.ofNat_eq_natCast, neg_one]; omega)) only [tysW, w_bindJ, w_logJ, w_ct, w_cf, w_gtt, w_gft, w_gtf, w_gff, w_pt, w_pf, w_lret, w_e0, w_e1, w_e2, w_nil, w_fun, w_nt, w_nf, w_add, w_sub, w_eqt, w_eqf, w_net, w_nef, w_ltt, w_ltf, w_let, w_lef, w_gtt', w_gtf', w_get, w_gef, toNat_of, of_add, cast_add, nth_0, nth_s, Nat.zero_add, Nat.reduceAdd, Nat.reduceMul, Nat.add_zero, List.length_cons, List.length_nil, List.drop_zero, List.drop_succ_cons, List.take_succ_cons, List.take_zero, List.take_nil, true_and, and_true, Int.toNat_natCast, List.append_nil, List.nil_append, List.cons_append, ldB x1', clB x1', ldBL x1', clBL x1']
    unfold X28_5
    try simp (disch := first | assumption | omega | (simp only [Int.ofNat_eq_natCast, neg_one]; done) | (simp only [Int.ofNat_eq_natCast, neg_one]; omega)) only [tysW, w_bindJ, w_logJ, w_ct, w_cf, w_gtt, w_gft, w_gtf, w_gff, w_pt, w_pf, w_lret, w_e0, w_e1, w_e2, w_nil, w_fun, w_nt, w_nf, w_add, w_sub, w_eqt, w_eqf, w_net, w_nef, w_ltt, w_ltf, w_let, w_lef, w_gtt', w_gtf', w_get, w_gef, toNat_of, of_add, cast_add, nth_0, nth_s, Nat.zero_add, Nat.reduceAdd, Nat.reduceMul, Nat.add_zero, List.length_cons, List.length_nil, List.drop_zero, List.drop_succ_cons, List.take_succ_cons, List.take_zero, List.take_nil, true_and, and_true, Int.toNat_natCast, List.append_nil, List.nil_append, List.cons_append]
    refine ValS.goL g7 hp (s45 (d := d + 8) g7.fresh ei.k.a ei.k.b ei.k.c ei.inp (.slice pi ei.data.length ci)) fun h8 s8 ts8 ws8 g8 c8 hw8 ht8 => ?_
    have l8 := c8.le
    have b5' := c8.box (c7.box b5 (by omega)) (by omega)
    try simp (disch := first | assumption | omega | (simp only [Int.ofNat_eq_natCast, neg_one]; done) | (simp only [Int.ofNat_eq_natCast, neg_one]; omega)) only [tysW, w_bindJ, w_logJ, w_ct, w_cf, w_gtt, w_gft, w_gtf, w_gff, w_pt, w_pf, w_lret, w_e0, w_e1, w_e2, w_nil, w_fun, w_nt, w_nf, w_add, w_sub, w_eqt, w_eqf, w_net, w_nef, w_ltt, w_ltf, w_let, w_lef, w_gtt', w_gtf', w_get, w_gef, toNat_of, of_add, cast_add, nth_0, nth_s, Nat.zero_add, Nat.reduceAdd, Nat.reduceMul, Nat.add_zero, List.length_cons, List.length_nil, List.drop_zero, List.drop_succ_cons, List.take_succ_cons, List.take_zero, List.take_nil, true_and, and_true, Int.toNat_natCast, List.append_nil, List.nil_append, List.cons_append, ldB b5', clB b5', ldBL b5', clBL b5']
    rw [show Value.agg ⟨[.int .i64 e.k.a, .int .i64 e.k.b, .int .i64 e.k.c]⟩ = kval e.k from rfl, show (⟨ei.k.a, ei.k.b, ei.k.c⟩ : K3) = ei.k from rfl, eq_23]
    have hsame : atK e.k (ksE L) = sameK ei.k e.k := by unfold atK; rw [hpl, ks_get, hei]; rfl
    unfold X28_4
    cases hsm : sameK ei.k e.k with
    | true =>
      try simp (disch := first | assumption | omega | (simp only [Int.ofNat_eq_natCast, neg_one]; done) | (simp only [Int.ofNat_eq_natCast, neg_one]; omega)) only [tysW, w_bindJ, w_logJ, w_ct, w_cf, w_gtt, w_gft, w_gtf, w_gff, w_pt, w_pf, w_lret, w_e0, w_e1, w_e2, w_nil, w_fun, w_nt, w_nf, w_add, w_sub, w_eqt, w_eqf, w_net, w_nef, w_ltt, w_ltf, w_let, w_lef, w_gtt', w_gtf', w_get, w_gef, toNat_of, of_add, cast_add, nth_0, nth_s, Nat.zero_add, Nat.reduceAdd, Nat.reduceMul, Nat.add_zero, List.length_cons, List.length_nil, List.drop_zero, List.drop_succ_cons, List.take_succ_cons, List.take_zero, List.take_nil, true_and, and_true, Int.toNat_natCast, List.append_nil, List.nil_append, List.cons_append]
      rw [wp_guard, if_pos (by repeat' (first | exact dynOk_nil _ _ | refine dyn_skip' ?_ | refine dyn_cons ?_ ?_ | exact allF_nil _ _ | refine allF_cons ?_ ?_ | exact disj_below hw7 (by omega) | exact disjA hw7 (by omega) | exact disjB hw7 (by omega) | exact disjC hw7 (by assumption) | exact disjD (fun m hm => by have := hw7 m hm; omega) | exact disj_below ht7 (by omega) | exact disjA ht7 (by omega) | exact disjB ht7 (by omega) | exact disjC ht7 (by assumption) | exact disjD (fun m hm => by have := ht7 m hm; omega) | exact disj_below hw8 (by omega) | exact disjA hw8 (by omega) | exact disjB hw8 (by omega) | exact disjC hw8 (by assumption) | exact disjD (fun m hm => by have := hw8 m hm; omega) | exact disj_below ht8 (by omega) | exact disjA ht8 (by omega) | exact disjB ht8 (by omega) | exact disjC ht8 (by assumption) | exact disjD (fun m hm => by have := ht8 m hm; omega) | exact disjN _ | exact disj1 (by omega) | exact disj2 (by omega) | exact disj3 (by assumption) | exact disjC hw7 (fun m hm => by have := ht7 m hm; omega) | exact disjC hw7 (fun m hm => by have := hw8 m hm; omega) | exact disjC hw7 (fun m hm => by have := ht8 m hm; omega) | exact disjC ht7 (fun m hm => by have := hw7 m hm; omega) | exact disjC ht7 (fun m hm => by have := hw8 m hm; omega) | exact disjC ht7 (fun m hm => by have := ht8 m hm; omega) | exact disjC hw8 (fun m hm => by have := hw7 m hm; omega) | exact disjC hw8 (fun m hm => by have := ht7 m hm; omega) | exact disjC hw8 (fun m hm => by have := ht8 m hm; omega) | exact disjC ht8 (fun m hm => by have := hw7 m hm; omega) | exact disjC ht8 (fun m hm => by have := ht7 m hm; omega) | exact disjC ht8 (fun m hm => by have := hw8 m hm; omega)))]
      try simp (disch := first | assumption | omega | (simp only [Int.ofNat_eq_natCast, neg_one]; done) | (simp only [Int.ofNat_eq_natCast, neg_one]; omega)) only [tysW, w_bindJ, w_logJ, w_ct, w_cf, w_gtt, w_gft, w_gtf, w_gff, w_pt, w_pf, w_lret, w_e0, w_e1, w_e2, w_nil, w_fun, w_nt, w_nf, w_add, w_sub, w_eqt, w_eqf, w_net, w_nef, w_ltt, w_ltf, w_let, w_lef, w_gtt', w_gtf', w_get, w_gef, toNat_of, of_add, cast_add, nth_0, nth_s, Nat.zero_add, Nat.reduceAdd, Nat.reduceMul, Nat.add_zero, List.length_cons, List.length_nil, List.drop_zero, List.drop_succ_cons, List.take_succ_cons, List.take_zero, List.take_nil, true_and, and_true, Int.toNat_natCast, List.append_nil, List.nil_append, List.cons_append]
      have hin : insE keep e L = (L, 0, 0, 7) := by unfold insE; rw [if_pos (by rw [hsame, hsm])]
      rw [hin] at hk
      exact hk h8 s8 bs g8 (by omega) (r6.from g6.fresh (c7.trans c8)) (fun n hn _ _ => by rw [c8.keep n (by omega), c7.keep n (by omega)]; exact k6.keep n hn) (fun A _ a => a.keep fun i b hb => by have := r.below hf hb; rw [c8.keep b (by omega), c7.keep b (by omega)]; exact k6.keep b this)
    | false =>
      try simp (disch := first | assumption | omega | (simp only [Int.ofNat_eq_natCast, neg_one]; done) | (simp only [Int.ofNat_eq_natCast, neg_one]; omega)) only [tysW, w_bindJ, w_logJ, w_ct, w_cf, w_gtt, w_gft, w_gtf, w_gff, w_pt, w_pf, w_lret, w_e0, w_e1, w_e2, w_nil, w_fun, w_nt, w_nf, w_add, w_sub, w_eqt, w_eqf, w_net, w_nef, w_ltt, w_ltf, w_let, w_lef, w_gtt', w_gtf', w_get, w_gef, toNat_of, of_add, cast_add, nth_0, nth_s, Nat.zero_add, Nat.reduceAdd, Nat.reduceMul, Nat.add_zero, List.length_cons, List.length_nil, List.drop_zero, List.drop_succ_cons, List.take_succ_cons, List.take_zero, List.take_nil, true_and, and_true, Int.toNat_natCast, List.append_nil, List.nil_append, List.cons_append]
      rw [wp_guard, if_pos (by repeat' (first | exact dynOk_nil _ _ | refine dyn_skip' ?_ | refine dyn_cons ?_ ?_ | exact allF_nil _ _ | refine allF_cons ?_ ?_ | exact disj_below hw7 (by omega) | exact disjA hw7 (by omega) | exact disjB hw7 (by omega) | exact disjC hw7 (by assumption) | exact disjD (fun m hm => by have := hw7 m hm; omega) | exact disj_below ht7 (by omega) | exact disjA ht7 (by omega) | exact disjB ht7 (by omega) | exact disjC ht7 (by assumption) | exact disjD (fun m hm => by have := ht7 m hm; omega) | exact disj_below hw8 (by omega) | exact disjA hw8 (by omega) | exact disjB hw8 (by omega) | exact disjC hw8 (by assumption) | exact disjD (fun m hm => by have := hw8 m hm; omega) | exact disj_below ht8 (by omega) | exact disjA ht8 (by omega) | exact disjB ht8 (by omega) | exact disjC ht8 (by assumption) | exact disjD (fun m hm => by have := ht8 m hm; omega) | exact disjN _ | exact disj1 (by omega) | exact disj2 (by omega) | exact disj3 (by assumption) | exact disjC hw7 (fun m hm => by have := ht7 m hm; omega) | exact disjC hw7 (fun m hm => by have := hw8 m hm; omega) | exact disjC hw7 (fun m hm => by have := ht8 m hm; omega) | exact disjC ht7 (fun m hm => by have := hw7 m hm; omega) | exact disjC ht7 (fun m hm => by have := hw8 m hm; omega) | exact disjC ht7 (fun m hm => by have := ht8 m hm; omega) | exact disjC hw8 (fun m hm => by have := hw7 m hm; omega) | exact disjC hw8 (fun m hm => by have := ht7 m hm; omega) | exact disjC hw8 (fun m hm => by have := ht8 m hm; omega) | exact disjC ht8 (fun m hm => by have := hw7 m hm; omega) | exact disjC ht8 (fun m hm => by have := ht7 m hm; omega) | exact disjC ht8 (fun m hm => by have := hw8 m hm; omega)))]
      have C1 := c8.box (c7.box b1 (by omega)) (by omega)
      have := rest h8 s8 (by rw [hsame, hsm]) g8 (k6.trans (c7.trans c8)) C1 (by omega)
      exact this
  · obtain rfl : i = L.length := by omega
    try simp (disch := first | assumption | omega | (simp only [Int.ofNat_eq_natCast, neg_one]; done) | (simp only [Int.ofNat_eq_natCast, neg_one]; omega)) only [tysW, w_bindJ, w_logJ, w_ct, w_cf, w_gtt, w_gft, w_gtf, w_gff, w_pt, w_pf, w_lret, w_e0, w_e1, w_e2, w_nil, w_fun, w_nt, w_nf, w_add, w_sub, w_eqt, w_eqf, w_net, w_nef, w_ltt, w_ltf, w_let, w_lef, w_gtt', w_gtf', w_get, w_gef, toNat_of, of_add, cast_add, nth_0, nth_s, Nat.zero_add, Nat.reduceAdd, Nat.reduceMul, Nat.add_zero, List.length_cons, List.length_nil, List.drop_zero, List.drop_succ_cons, List.take_succ_cons, List.take_zero, List.take_nil, true_and, and_true, Int.toNat_natCast, List.append_nil, List.nil_append, List.cons_append, ldB rb6, clB rb6, ldBL rb6, clBL rb6]
    unfold X28_7 X28_6 X28_5 X28_4
    try simp (disch := first | assumption | omega | (simp only [Int.ofNat_eq_natCast, neg_one]; done) | (simp only [Int.ofNat_eq_natCast, neg_one]; omega)) only [tysW, w_bindJ, w_logJ, w_ct, w_cf, w_gtt, w_gft, w_gtf, w_gff, w_pt, w_pf, w_lret, w_e0, w_e1, w_e2, w_nil, w_fun, w_nt, w_nf, w_add, w_sub, w_eqt, w_eqf, w_net, w_nef, w_ltt, w_ltf, w_let, w_lef, w_gtt', w_gtf', w_get, w_gef, toNat_of, of_add, cast_add, nth_0, nth_s, Nat.zero_add, Nat.reduceAdd, Nat.reduceMul, Nat.add_zero, List.length_cons, List.length_nil, List.drop_zero, List.drop_succ_cons, List.take_succ_cons, List.take_zero, List.take_nil, true_and, and_true, Int.toNat_natCast, List.append_nil, List.nil_append, List.cons_append]
    rw [wp_guard, if_pos (by repeat' (first | exact dynOk_nil _ _ | refine dyn_skip' ?_ | refine dyn_cons ?_ ?_ | exact allF_nil _ _ | refine allF_cons ?_ ?_))]
    have hat : atK e.k (ksE L) = false := by unfold atK; rw [hpl, List.getElem?_eq_none (by rw [ks_len]; omega)]
    have := rest h6 s6 hat g6 k6 b1 (Nat.le_refl _)
    exact this
end
end Go.Ev.R

/- The law TalkSays, part 2: what the functions answer, by their terms. No condition. -/
import Derived.Test.YtnffkmnjpnlleaaTalkSaysP1
set_option linter.unusedVariables false
set_option linter.unusedSimpArgs false
set_option maxRecDepth 100000
namespace Go.Ev.R
open Go Go.RowKit
/-- A letter's bytes. -/
def letB (x : SV) (dt : List Int) (c : UInt8) : List Int := if c = 115 then be 1 x.sen else if c = 113 then be 4 x.seq else if c = 116 then be 8 x.time else lis dt
def encS (x : SV) (dt : List Int) : List Int := be 1 x.kind ++ (sayT x.kind).flatMap (letB x dt)
theorem say_mem {k : Int} {c : UInt8} (h : c ∈ sayT k) : c = 115 ∨ c = 113 ∨ c = 116 ∨ c = 100 := by
  unfold sayT at h
  split at h
  · simp at h; simp [h]
  split at h
  · simp at h; rcases h with h | h | h <;> simp [h]
  split at h
  · simp at h; rcases h with h | h | h <;> simp [h]
  split at h
  · simp at h; rcases h with h | h | h | h <;> simp [h]
  split at h
  · simp at h; rcases h with h | h | h | h <;> simp [h]
  split at h
  · simp at h; rcases h with h | h <;> simp [h]
  split at h
  · simp at h; simp [h]
  · cases h
theorem say_le (k : Int) : (sayT k).length ≤ 4 := by
  unfold sayT
  split
  · simp
  split
  · simp
  split
  · simp
  split
  · simp
  split
  · simp
  split
  · simp
  split
  · simp
  · simp
theorem take_next {α β : Type} {l : List α} {i : Nat} {x : α} (hx : l[i]? = some x) (f : α → List β) : (l.take (i + 1)).flatMap f = (l.take i).flatMap f ++ f x := by
  rw [List.take_add_one, hx, List.flatMap_append]; simp
theorem OwnG.ne {α : Type} {E : Enc α} {el : TypeId} {h : T} {s : Nat} {p : Option Addr} {len : Nat} {l : List α} (o : OwnG E el h s p len l) {it : Nat} {a : ByteArray} {b : Nat} (hb : h.get it = some (.stringIter a b)) : p ≠ none → blk p ≠ it := by
  intro hp e
  obtain ⟨hl, ⟨rfl, _⟩ | ⟨n, f, rfl, h1, hg, hff⟩⟩ := o
  · exact hp rfl
  · have e : n = it := e
    rw [e, hb] at hg; cases hg
theorem eqc32 (a b : Nat) (k : KV) (s : Nat) : eqX P 21 21 false true (.int .i32 (a : Int)) (.int .i32 (.ofNat b)) k s = k (.bool (a == b)) s := by
  rw [eq32]
  congr 2
  by_cases h : a = b
  · simp [h]
  · rw [decide_eq_false (by simp only [Int.ofNat_eq_natCast]; omega)]; simp [h]
/-- What holds of a saying that may be said. -/
theorem good {x : SV} (h : badS x = false) : (1 ≤ x.kind ∧ x.kind ≤ 7) ∧ (0 ≤ x.sen ∧ x.sen ≤ 255) ∧ (0 ≤ x.seq ∧ x.seq ≤ 2147483647) ∧ x.n ≤ 24 ∧ (x.kind = 6 ∨ x.kind = 7 → x.sen = 0) ∧ (x.kind = 1 → x.seq = 0) ∧ (x.kind = 1 ∨ x.kind = 7 → x.time = 0) ∧ (x.n = 0 ∨ x.kind = 4 ∨ x.kind = 5) := by
  unfold badS at h
  simp only [Bool.or_eq_false_iff, Bool.and_eq_false_imp, Bool.not_eq_true', Bool.not_eq_false', decide_eq_true_eq, decide_eq_false_iff_not] at h
  obtain ⟨h1, h2, h3, h4, h5, h6, h7, h8⟩ := h
  refine ⟨h1, h2, h3, by omega, fun k => Classical.byContradiction fun n => (h5 n) k, fun k => Classical.byContradiction fun n => (h6 n) k, fun k => Classical.byContradiction fun n => (h7 n) k, ?_⟩
  by_cases h9 : x.n = 0
  · exact .inl h9
  · exact .inr (h8 h9)
theorem rng9 (b : ByteArray) (k : KV) (s : Nat) : arangeOf P 9 (.string b) k s = anew (.stringIter b 0) (fun n => k (ptr n)) s := by kernel_rfl
section
variable {N d : Nat} (hN : N = 100000) {h : T} {s : Nat} (hf : ∀ n, s ≤ n → h.get n = none)
include hN hf
theorem s23 (x : SV) {dt : List Int} (r : Row EI h x.p x.n dt) : PureS (D N (d + 12)) 23 [.agg ⟨svv x⟩] h s (fun v h' s' => if badS x = true then v = .tuple ⟨[.slice none 0 0, vi 2]⟩ else ∃ p' len, v = .tuple ⟨[.slice p' len len, vi 0]⟩ ∧ OwnG EB 5 h' s p' len (encS x dt)) := by
  refine PureS.of hf fun K pw Z g hp hk => ?_
  rw [D_23]; unfold F23; rw [app1_eq]
  unfold X23_3
  refine wp_boxA g hp fun h1 g1 c1 b1 => ?_
  simp only [svv] at b1
  try simp (disch := first | assumption | omega | (simp only [Int.ofNat_eq_natCast, neg_one]; done) | (simp only [Int.ofNat_eq_natCast, neg_one]; omega)) only [tysW, w_bindJ, w_logJ, w_ct, w_cf, w_gtt, w_gft, w_gtf, w_gff, w_pt, w_pf, w_lret, w_e0, w_e1, w_e2, w_nil, w_fun, w_nt, w_nf, w_add, w_sub, w_eqt, w_eqf, w_net, w_nef, w_ltt, w_ltf, w_let, w_lef, w_gtt', w_gtf', w_get, w_gef, toNat_of, of_add, cast_add, nth_0, nth_s, Nat.zero_add, Nat.reduceAdd, Nat.reduceMul, Nat.add_zero, List.length_cons, List.length_nil, List.drop_zero, List.drop_succ_cons, List.take_succ_cons, List.take_zero, List.take_nil, true_and, and_true, Int.toNat_natCast, List.append_nil, List.nil_append, List.cons_append, ldB b1, clB b1, ldBL b1, clBL b1]
  refine ValS.go g1 hp (s25 (d := d) hN g1.fresh x) fun h2 s2 g2 c2 => ?_
  have l2 := c2.le
  replace b1 := c2.box b1 (by omega)
  cases hbad : badS x with
  | true =>
    try simp (disch := first | assumption | omega | (simp only [Int.ofNat_eq_natCast, neg_one]; done) | (simp only [Int.ofNat_eq_natCast, neg_one]; omega)) only [tysW, w_bindJ, w_logJ, w_ct, w_cf, w_gtt, w_gft, w_gtf, w_gff, w_pt, w_pf, w_lret, w_e0, w_e1, w_e2, w_nil, w_fun, w_nt, w_nf, w_add, w_sub, w_eqt, w_eqf, w_net, w_nef, w_ltt, w_ltf, w_let, w_lef, w_gtt', w_gtf', w_get, w_gef, toNat_of, of_add, cast_add, nth_0, nth_s, Nat.zero_add, Nat.reduceAdd, Nat.reduceMul, Nat.add_zero, List.length_cons, List.length_nil, List.drop_zero, List.drop_succ_cons, List.take_succ_cons, List.take_zero, List.take_nil, true_and, and_true, Int.toNat_natCast, List.append_nil, List.nil_append, List.cons_append, if_true]
    refine hk _ _ _ g2 ?_
    rw [if_pos hbad]; rfl
  | false =>
    obtain ⟨q1, q2, q3, q4, -⟩ := good hbad
    try simp (disch := first | assumption | omega | (simp only [Int.ofNat_eq_natCast, neg_one]; done) | (simp only [Int.ofNat_eq_natCast, neg_one]; omega)) only [tysW, w_bindJ, w_logJ, w_ct, w_cf, w_gtt, w_gft, w_gtf, w_gff, w_pt, w_pf, w_lret, w_e0, w_e1, w_e2, w_nil, w_fun, w_nt, w_nf, w_add, w_sub, w_eqt, w_eqf, w_net, w_nef, w_ltt, w_ltf, w_let, w_lef, w_gtt', w_gtf', w_get, w_gef, toNat_of, of_add, cast_add, nth_0, nth_s, Nat.zero_add, Nat.reduceAdd, Nat.reduceMul, Nat.add_zero, List.length_cons, List.length_nil, List.drop_zero, List.drop_succ_cons, List.take_succ_cons, List.take_zero, List.take_nil, true_and, and_true, Int.toNat_natCast, List.append_nil, List.nil_append, List.cons_append, Bool.false_eq_true, if_false]
    refine wp_boxA g2 hp fun h3 g3 c3 b3 => ?_
    replace b1 := c3.box b1 (by omega)
    try simp (disch := first | assumption | omega | (simp only [Int.ofNat_eq_natCast, neg_one]; done) | (simp only [Int.ofNat_eq_natCast, neg_one]; omega)) only [tysW, w_bindJ, w_logJ, w_ct, w_cf, w_gtt, w_gft, w_gtf, w_gff, w_pt, w_pf, w_lret, w_e0, w_e1, w_e2, w_nil, w_fun, w_nt, w_nf, w_add, w_sub, w_eqt, w_eqf, w_net, w_nef, w_ltt, w_ltf, w_let, w_lef, w_gtt', w_gtf', w_get, w_gef, toNat_of, of_add, cast_add, nth_0, nth_s, Nat.zero_add, Nat.reduceAdd, Nat.reduceMul, Nat.add_zero, List.length_cons, List.length_nil, List.drop_zero, List.drop_succ_cons, List.take_succ_cons, List.take_zero, List.take_nil, true_and, and_true, Int.toNat_natCast, List.append_nil, List.nil_append, List.cons_append, ldB b1, clB b1, ldBL b1, clBL b1]
    refine wp_newF g3 hp fun h4 g4 c4 b4 => ?_
    replace b1 := c4.box b1 (by omega)
    replace b3 := c4.box b3 (by omega)
    try simp (disch := first | assumption | omega | (simp only [Int.ofNat_eq_natCast, neg_one]; done) | (simp only [Int.ofNat_eq_natCast, neg_one]; omega)) only [tysW, w_bindJ, w_logJ, w_ct, w_cf, w_gtt, w_gft, w_gtf, w_gff, w_pt, w_pf, w_lret, w_e0, w_e1, w_e2, w_nil, w_fun, w_nt, w_nf, w_add, w_sub, w_eqt, w_eqf, w_net, w_nef, w_ltt, w_ltf, w_let, w_lef, w_gtt', w_gtf', w_get, w_gef, toNat_of, of_add, cast_add, nth_0, nth_s, Nat.zero_add, Nat.reduceAdd, Nat.reduceMul, Nat.add_zero, List.length_cons, List.length_nil, List.drop_zero, List.drop_succ_cons, List.take_succ_cons, List.take_zero, List.take_nil, true_and, and_true, Int.toNat_natCast, List.append_nil, List.nil_append, List.cons_append]
    refine s86 (w := 1) (d := d + 8) (by omega) g4 hp (wb := s2) (by omega) b3 (.nil _) (.inl rfl) (Row.of_cells (E := EI) (l := [x.kind]) b4 rfl) (by simp [fitsW]; omega) (by omega) fun p5 h5 s5 g5 l5 b5 o5 e5 => ?_
    replace b1 := (e5 s (by omega) (by omega)).trans b1
    try simp (disch := first | assumption | omega | (simp only [Int.ofNat_eq_natCast, neg_one]; done) | (simp only [Int.ofNat_eq_natCast, neg_one]; omega)) only [tysW, w_bindJ, w_logJ, w_ct, w_cf, w_gtt, w_gft, w_gtf, w_gff, w_pt, w_pf, w_lret, w_e0, w_e1, w_e2, w_nil, w_fun, w_nt, w_nf, w_add, w_sub, w_eqt, w_eqf, w_net, w_nef, w_ltt, w_ltf, w_let, w_lef, w_gtt', w_gtf', w_get, w_gef, toNat_of, of_add, cast_add, nth_0, nth_s, Nat.zero_add, Nat.reduceAdd, Nat.reduceMul, Nat.add_zero, List.length_cons, List.length_nil, List.drop_zero, List.drop_succ_cons, List.take_succ_cons, List.take_zero, List.take_nil, true_and, and_true, Int.toNat_natCast, List.append_nil, List.nil_append, List.cons_append]
    refine PureS.goL g5 hp (s87 (d := d + 10) g5.fresh) fun v h6 s6 ts6 ws6 g6 c6 hv hw6 ht6 => ?_
    obtain ⟨m, rfl, hm, bm⟩ := hv
    have l6 := c6.le
    replace b1 := c6.box b1 (by omega)
    replace b5 := c6.box b5 (by omega)
    replace o5 := o5.from g5.fresh c6
    try simp (disch := first | assumption | omega | (simp only [Int.ofNat_eq_natCast, neg_one]; done) | (simp only [Int.ofNat_eq_natCast, neg_one]; omega)) only [tysW, w_bindJ, w_logJ, w_ct, w_cf, w_gtt, w_gft, w_gtf, w_gff, w_pt, w_pf, w_lret, w_e0, w_e1, w_e2, w_nil, w_fun, w_nt, w_nf, w_add, w_sub, w_eqt, w_eqf, w_net, w_nef, w_ltt, w_ltf, w_let, w_lef, w_gtt', w_gtf', w_get, w_gef, toNat_of, of_add, cast_add, nth_0, nth_s, Nat.zero_add, Nat.reduceAdd, Nat.reduceMul, Nat.add_zero, List.length_cons, List.length_nil, List.drop_zero, List.drop_succ_cons, List.take_succ_cons, List.take_zero, List.take_nil, true_and, and_true, Int.toNat_natCast, List.append_nil, List.nil_append, List.cons_append, ldB b1, clB b1, ldBL b1, clBL b1]
    unfold X23_2
    refine log_wp (W := fun _ => False) (Q := fun v h' s' => v = txt (sayT x.kind) ∧ h' = h6 ∧ s' = s6) ?_ (fun n hn => hn.elim) ?_
    · rw [wp_say bm]
      exact ⟨_, _, rfl, rfl, rfl, rfl⟩
    rintro v h7 s7 ts7 ws7 ⟨rfl, rfl, rfl⟩ hw7 ht7
    replace hw7 : ∀ n ∈ ws7, s7 ≤ n ∧ n < s7 := fun n hn => (hw7 n hn).1.elim
    replace ht7 : ∀ n ∈ ts7, n < s7 := fun n hn => lt_of_some g6.fresh (ht7 n hn)
    try simp (disch := first | assumption | omega | (simp only [Int.ofNat_eq_natCast, neg_one]; done) | (simp only [Int.ofNat_eq_natCast, neg_one]; omega)) only [tysW, w_bindJ, w_logJ, w_ct, w_cf, w_gtt, w_gft, w_gtf, w_gff, w_pt, w_pf, w_lret, w_e0, w_e1, w_e2, w_nil, w_fun, w_nt, w_nf, w_add, w_sub, w_eqt, w_eqf, w_net, w_nef, w_ltt, w_ltf, w_let, w_lef, w_gtt', w_gtf', w_get, w_gef, toNat_of, of_add, cast_add, nth_0, nth_s, Nat.zero_add, Nat.reduceAdd, Nat.reduceMul, Nat.add_zero, List.length_cons, List.length_nil, List.drop_zero, List.drop_succ_cons, List.take_succ_cons, List.take_zero, List.take_nil, true_and, and_true, Int.toNat_natCast, List.append_nil, List.nil_append, List.cons_append, rng9]
    refine wp_newL (q := fun b => ptr b) g6 hp fun h8 g8 c8 b8 => ?_
    replace b1 := c8.box b1 (by omega)
    replace b5 := c8.box b5 (by omega)
    replace o5 := (o5.from g6.fresh c8).less (show s2 + 1 ≤ s2 + 1 + 1 by omega)
    rw [List.nil_append] at o5
    simp only [Nat.zero_add] at b5 o5
    rw [wp_guard, if_pos (by repeat' (first | exact dynOk_nil _ _ | refine dyn_skip' ?_ | refine dyn_cons ?_ ?_ | exact allF_nil _ _ | refine allF_cons ?_ ?_ | exact disj_below hw6 (by omega) | exact disjA hw6 (by omega) | exact disjB hw6 (by omega) | exact disjC hw6 (by assumption) | exact disjD (fun m hm => by have := hw6 m hm; omega) | exact disj_below ht6 (by omega) | exact disjA ht6 (by omega) | exact disjB ht6 (by omega) | exact disjC ht6 (by assumption) | exact disjD (fun m hm => by have := ht6 m hm; omega) | exact disj_below hw7 (by omega) | exact disjA hw7 (by omega) | exact disjB hw7 (by omega) | exact disjC hw7 (by assumption) | exact disjD (fun m hm => by have := hw7 m hm; omega) | exact disj_below ht7 (by omega) | exact disjA ht7 (by omega) | exact disjB ht7 (by omega) | exact disjC ht7 (by assumption) | exact disjD (fun m hm => by have := ht7 m hm; omega) | exact disjN _ | exact disj1 (by omega) | exact disj2 (by omega) | exact disj3 (by assumption) | exact disjC hw6 (fun m hm => by have := ht6 m hm; omega) | exact disjC hw6 (fun m hm => by have := hw7 m hm; omega) | exact disjC hw6 (fun m hm => by have := ht7 m hm; omega) | exact disjC ht6 (fun m hm => by have := hw6 m hm; omega) | exact disjC ht6 (fun m hm => by have := hw7 m hm; omega) | exact disjC ht6 (fun m hm => by have := ht7 m hm; omega) | exact disjC hw7 (fun m hm => by have := hw6 m hm; omega) | exact disjC hw7 (fun m hm => by have := ht6 m hm; omega) | exact disjC hw7 (fun m hm => by have := ht7 m hm; omega) | exact disjC ht7 (fun m hm => by have := hw6 m hm; omega) | exact disjC ht7 (fun m hm => by have := ht6 m hm; omega) | exact disjC ht7 (fun m hm => by have := hw7 m hm; omega)))]
    have loop : ∀ (J : Nat → AM) (hJ : ∀ s', J s' = fa 111 (ptr s2) 0 (fun v11 s => fa 109 v11 0 (fun v12 s => ld 25 v12 (fun v13 s => K (.tuple ⟨[v13, i64 0]⟩) s) s) s) s') (B : (Nat → AM) → Nat → AM) (hB : ∀ H s', B H s' = X23_1 N (D N (d + 11)) K (ptr s7) (ptr s) (ptr s2) J H s') (n i : Nat) (p1 : Option Addr) (len1 : Nat) (h1 : T) (s1 : Nat), (sayT x.kind).length - i < n → i ≤ (sayT x.kind).length → From s h h1 s1 → s7 + 1 ≤ s1 → h1.get s = some (.cells ⟨[vi x.kind, vi x.sen, vi x.seq, vi x.time, .slice x.p x.n x.c]⟩ 33 (0, 0)) → h1.get s2 = some (.cells ⟨[.slice p1 len1 len1, .bool false]⟩ 111 (0, 0)) → OwnG EB 5 h1 (s2 + 1) p1 len1 (be 1 x.kind ++ ((sayT x.kind).take i).flatMap (letB x dt)) → h1.get s7 = some (.stringIter ⟨⟨sayT x.kind⟩⟩ i) → len1 ≤ 1 + 200 * i →
        (loopJ n 0 (fun _ => AM.fail) B s1).wp pw Z h1 := by
      intro J hJ B hB n
      induction n with
      | zero => intro i p1 len1 h1 s1 hn; omega
      | succ n ih =>
        intro i p1 len1 h1 s1 hn hi g1 hs1 b1 bw o1 bi hl1
        have hle := say_le x.kind
        rw [loopJ_succ, hB]
        unfold X23_1
        by_cases hlt : i < (sayT x.kind).length
        · obtain ⟨c, hc⟩ := get_some (l := sayT x.kind) (i := i) hlt
          have hcm := say_mem (List.mem_of_getElem? hc)
          refine wp_next g1 hp bi (by omega) hc (by rcases hcm with rfl | rfl | rfl | rfl <;> decide) fun h2 g2 bi2 e2 => ?_
          replace b1 := (e2 s (by omega)).trans b1
          replace bw := (e2 s2 (by omega)).trans bw
          replace o1 := o1.but fun hp => e2 _ (o1.ne bi hp)
          have step : ∀ (w : Nat) (n1 : Int) (h3 : T) (s3 : Nat) (q : Option Addr), isW w → letB x dt c = be w n1 → fitsW w n1 = true → From s h h3 s3 → From s1 h2 h3 s3 → Row EI h3 q 1 [n1] → (D N (d + 11) 86 [ptr s2, vi w, .slice q 1 1] (fun _ s => loopJ n 0 (fun _ => AM.fail) B s) s3).wp pw Z h3 := by
            intro w n1 h3 s3 q hw he hfit g3 c3 r3
            have l3 := c3.le
            have hw8 : w ≤ 8 := by rcases hw with rfl | rfl | rfl | rfl <;> omega
            refine s86 (d := d + 8) (by omega) g3 hp (wb := s2) (by omega) (c3.box bw (by omega)) (o1.from g2.fresh c3).sl hw r3 hfit (by omega) fun p4 h4 s4 g4 l4 b4 o4 e4 => ?_
            refine ih (i + 1) p4 (len1 + w) h4 s4 (by omega) (by omega) g4 (by omega) ((e4 s (by omega) (by omega)).trans (c3.box b1 (by omega))) b4 ?_ ((e4 s7 (by omega) (by omega)).trans (c3.box bi2 (by omega))) (by omega)
            rw [take_next hc, ← List.append_assoc, he]
            exact o4.less (by omega)
          rcases hcm with rfl | rfl | rfl | rfl
          · try simp (disch := first | assumption | omega | (simp only [Int.ofNat_eq_natCast, neg_one]; done) | (simp only [Int.ofNat_eq_natCast, neg_one]; omega)) only [tysW, w_bindJ, w_logJ, w_ct, w_cf, w_gtt, w_gft, w_gtf, w_gff, w_pt, w_pf, w_lret, w_e0, w_e1, w_e2, w_nil, w_fun, w_nt, w_nf, w_add, w_sub, w_eqt, w_eqf, w_net, w_nef, w_ltt, w_ltf, w_let, w_lef, w_gtt', w_gtf', w_get, w_gef, toNat_of, of_add, cast_add, nth_0, nth_s, Nat.zero_add, Nat.reduceAdd, Nat.reduceMul, Nat.add_zero, List.length_cons, List.length_nil, List.drop_zero, List.drop_succ_cons, List.take_succ_cons, List.take_zero, List.take_nil, true_and, and_true, Int.toNat_natCast, List.append_nil, List.nil_append, List.cons_append, ldB b1, clB b1, ldBL b1, clBL b1, eqc32, UInt8.reduceToNat, Nat.reduceBEq]
            refine wp_newF g2 hp fun h3 g3 c3 b3 => ?_
            try simp (disch := first | assumption | omega | (simp only [Int.ofNat_eq_natCast, neg_one]; done) | (simp only [Int.ofNat_eq_natCast, neg_one]; omega)) only [tysW, w_bindJ, w_logJ, w_ct, w_cf, w_gtt, w_gft, w_gtf, w_gff, w_pt, w_pf, w_lret, w_e0, w_e1, w_e2, w_nil, w_fun, w_nt, w_nf, w_add, w_sub, w_eqt, w_eqf, w_net, w_nef, w_ltt, w_ltf, w_let, w_lef, w_gtt', w_gtf', w_get, w_gef, toNat_of, of_add, cast_add, nth_0, nth_s, Nat.zero_add, Nat.reduceAdd, Nat.reduceMul, Nat.add_zero, List.length_cons, List.length_nil, List.drop_zero, List.drop_succ_cons, List.take_succ_cons, List.take_zero, List.take_nil, true_and, and_true, Int.toNat_natCast, List.append_nil, List.nil_append, List.cons_append]
            exact step 1 x.sen h3 _ _ (.inl rfl) rfl (by simp [fitsW]; omega) g3 c3 (Row.of_cells (E := EI) (l := [x.sen]) b3 rfl)
          · try simp (disch := first | assumption | omega | (simp only [Int.ofNat_eq_natCast, neg_one]; done) | (simp only [Int.ofNat_eq_natCast, neg_one]; omega)) only [tysW, w_bindJ, w_logJ, w_ct, w_cf, w_gtt, w_gft, w_gtf, w_gff, w_pt, w_pf, w_lret, w_e0, w_e1, w_e2, w_nil, w_fun, w_nt, w_nf, w_add, w_sub, w_eqt, w_eqf, w_net, w_nef, w_ltt, w_ltf, w_let, w_lef, w_gtt', w_gtf', w_get, w_gef, toNat_of, of_add, cast_add, nth_0, nth_s, Nat.zero_add, Nat.reduceAdd, Nat.reduceMul, Nat.add_zero, List.length_cons, List.length_nil, List.drop_zero, List.drop_succ_cons, List.take_succ_cons, List.take_zero, List.take_nil, true_and, and_true, Int.toNat_natCast, List.append_nil, List.nil_append, List.cons_append, ldB b1, clB b1, ldBL b1, clBL b1, eqc32, UInt8.reduceToNat, Nat.reduceBEq]
            refine wp_newF g2 hp fun h3 g3 c3 b3 => ?_
            try simp (disch := first | assumption | omega | (simp only [Int.ofNat_eq_natCast, neg_one]; done) | (simp only [Int.ofNat_eq_natCast, neg_one]; omega)) only [tysW, w_bindJ, w_logJ, w_ct, w_cf, w_gtt, w_gft, w_gtf, w_gff, w_pt, w_pf, w_lret, w_e0, w_e1, w_e2, w_nil, w_fun, w_nt, w_nf, w_add, w_sub, w_eqt, w_eqf, w_net, w_nef, w_ltt, w_ltf, w_let, w_lef, w_gtt', w_gtf', w_get, w_gef, toNat_of, of_add, cast_add, nth_0, nth_s, Nat.zero_add, Nat.reduceAdd, Nat.reduceMul, Nat.add_zero, List.length_cons, List.length_nil, List.drop_zero, List.drop_succ_cons, List.take_succ_cons, List.take_zero, List.take_nil, true_and, and_true, Int.toNat_natCast, List.append_nil, List.nil_append, List.cons_append]
            exact step 4 x.seq h3 _ _ (.inr (.inr (.inl rfl))) rfl (by simp [fitsW]; omega) g3 c3 (Row.of_cells (E := EI) (l := [x.seq]) b3 rfl)
          · try simp (disch := first | assumption | omega | (simp only [Int.ofNat_eq_natCast, neg_one]; done) | (simp only [Int.ofNat_eq_natCast, neg_one]; omega)) only [tysW, w_bindJ, w_logJ, w_ct, w_cf, w_gtt, w_gft, w_gtf, w_gff, w_pt, w_pf, w_lret, w_e0, w_e1, w_e2, w_nil, w_fun, w_nt, w_nf, w_add, w_sub, w_eqt, w_eqf, w_net, w_nef, w_ltt, w_ltf, w_let, w_lef, w_gtt', w_gtf', w_get, w_gef, toNat_of, of_add, cast_add, nth_0, nth_s, Nat.zero_add, Nat.reduceAdd, Nat.reduceMul, Nat.add_zero, List.length_cons, List.length_nil, List.drop_zero, List.drop_succ_cons, List.take_succ_cons, List.take_zero, List.take_nil, true_and, and_true, Int.toNat_natCast, List.append_nil, List.nil_append, List.cons_append, ldB b1, clB b1, ldBL b1, clBL b1, eqc32, UInt8.reduceToNat, Nat.reduceBEq]
            refine wp_newF g2 hp fun h3 g3 c3 b3 => ?_
            try simp (disch := first | assumption | omega | (simp only [Int.ofNat_eq_natCast, neg_one]; done) | (simp only [Int.ofNat_eq_natCast, neg_one]; omega)) only [tysW, w_bindJ, w_logJ, w_ct, w_cf, w_gtt, w_gft, w_gtf, w_gff, w_pt, w_pf, w_lret, w_e0, w_e1, w_e2, w_nil, w_fun, w_nt, w_nf, w_add, w_sub, w_eqt, w_eqf, w_net, w_nef, w_ltt, w_ltf, w_let, w_lef, w_gtt', w_gtf', w_get, w_gef, toNat_of, of_add, cast_add, nth_0, nth_s, Nat.zero_add, Nat.reduceAdd, Nat.reduceMul, Nat.add_zero, List.length_cons, List.length_nil, List.drop_zero, List.drop_succ_cons, List.take_succ_cons, List.take_zero, List.take_nil, true_and, and_true, Int.toNat_natCast, List.append_nil, List.nil_append, List.cons_append]
            exact step 8 x.time h3 _ _ (.inr (.inr (.inr rfl))) rfl (by simp [fitsW]) g3 c3 (Row.of_cells (E := EI) (l := [x.time]) b3 rfl)
          · try simp (disch := first | assumption | omega | (simp only [Int.ofNat_eq_natCast, neg_one]; done) | (simp only [Int.ofNat_eq_natCast, neg_one]; omega)) only [tysW, w_bindJ, w_logJ, w_ct, w_cf, w_gtt, w_gft, w_gtf, w_gff, w_pt, w_pf, w_lret, w_e0, w_e1, w_e2, w_nil, w_fun, w_nt, w_nf, w_add, w_sub, w_eqt, w_eqf, w_net, w_nef, w_ltt, w_ltf, w_let, w_lef, w_gtt', w_gtf', w_get, w_gef, toNat_of, of_add, cast_add, nth_0, nth_s, Nat.zero_add, Nat.reduceAdd, Nat.reduceMul, Nat.add_zero, List.length_cons, List.length_nil, List.drop_zero, List.drop_succ_cons, List.take_succ_cons, List.take_zero, List.take_nil, true_and, and_true, Int.toNat_natCast, List.append_nil, List.nil_append, List.cons_append, ldB b1, clB b1, ldBL b1, clBL b1, eqc32, UInt8.reduceToNat, Nat.reduceBEq]
            refine s88 (d := d + 7) (by omega) g2 hp (wb := s2) (by omega) bw o1.sl (g2.row hf r) q4 (by omega) fun p4 h4 s4 g4 l4 b4 o4 e4 => ?_
            refine ih (i + 1) p4 _ h4 s4 (by omega) (by omega) g4 (by omega) ((e4 s (by omega) (by omega)).trans b1) b4 ?_ ((e4 s7 (by omega) (by omega)).trans bi2) (by omega)
            rw [take_next hc, ← List.append_assoc]
            exact o4.less (by omega)
        · obtain rfl : i = (sayT x.kind).length := by omega
          rw [wp_last bi]
          try simp (disch := first | assumption | omega | (simp only [Int.ofNat_eq_natCast, neg_one]; done) | (simp only [Int.ofNat_eq_natCast, neg_one]; omega)) only [tysW, w_bindJ, w_logJ, w_ct, w_cf, w_gtt, w_gft, w_gtf, w_gff, w_pt, w_pf, w_lret, w_e0, w_e1, w_e2, w_nil, w_fun, w_nt, w_nf, w_add, w_sub, w_eqt, w_eqf, w_net, w_nef, w_ltt, w_ltf, w_let, w_lef, w_gtt', w_gtf', w_get, w_gef, toNat_of, of_add, cast_add, nth_0, nth_s, Nat.zero_add, Nat.reduceAdd, Nat.reduceMul, Nat.add_zero, List.length_cons, List.length_nil, List.drop_zero, List.drop_succ_cons, List.take_succ_cons, List.take_zero, List.take_nil, true_and, and_true, Int.toNat_natCast, List.append_nil, List.nil_append, List.cons_append]
          rw [hJ]
          try simp (disch := first | assumption | omega | (simp only [Int.ofNat_eq_natCast, neg_one]; done) | (simp only [Int.ofNat_eq_natCast, neg_one]; omega)) only [tysW, w_bindJ, w_logJ, w_ct, w_cf, w_gtt, w_gft, w_gtf, w_gff, w_pt, w_pf, w_lret, w_e0, w_e1, w_e2, w_nil, w_fun, w_nt, w_nf, w_add, w_sub, w_eqt, w_eqf, w_net, w_nef, w_ltt, w_ltf, w_let, w_lef, w_gtt', w_gtf', w_get, w_gef, toNat_of, of_add, cast_add, nth_0, nth_s, Nat.zero_add, Nat.reduceAdd, Nat.reduceMul, Nat.add_zero, List.length_cons, List.length_nil, List.drop_zero, List.drop_succ_cons, List.take_succ_cons, List.take_zero, List.take_nil, true_and, and_true, Int.toNat_natCast, List.append_nil, List.nil_append, List.cons_append, ldB bw, clB bw, ldBL bw, clBL bw]
          refine hk _ _ _ g1 ?_
          rw [if_neg (by simp [hbad])]
          refine ⟨p1, len1, rfl, ?_⟩
          rw [List.take_of_length_le (Nat.le_refl _)] at o1
          exact o1.less (by omega)
    have hle := say_le x.kind
    exact loop _ (fun _ => rfl) _ (fun _ _ => rfl) N 0 p5 1 h8 (s7 + 1) (by omega) (by omega) g8 (Nat.le_refl _) b1 b5 (by simpa using o5) b8 (by omega)
end
end Go.Ev.R
namespace Go.Ev.R
open Go Go.RowKit
theorem ix_s_0 (k : KV) (s : Nat) : indexX P 9 (str [115]) (vi 0) k s = k (u8 115) s := by kernel_rfl
theorem ix_sqt_0 (k : KV) (s : Nat) : indexX P 9 (str [115, 113, 116]) (vi 0) k s = k (u8 115) s := by kernel_rfl
theorem ix_sqt_1 (k : KV) (s : Nat) : indexX P 9 (str [115, 113, 116]) (vi 1) k s = k (u8 113) s := by kernel_rfl
theorem ix_sqt_2 (k : KV) (s : Nat) : indexX P 9 (str [115, 113, 116]) (vi 2) k s = k (u8 116) s := by kernel_rfl
theorem ix_sqtd_0 (k : KV) (s : Nat) : indexX P 9 (str [115, 113, 116, 100]) (vi 0) k s = k (u8 115) s := by kernel_rfl
theorem ix_sqtd_1 (k : KV) (s : Nat) : indexX P 9 (str [115, 113, 116, 100]) (vi 1) k s = k (u8 113) s := by kernel_rfl
theorem ix_sqtd_2 (k : KV) (s : Nat) : indexX P 9 (str [115, 113, 116, 100]) (vi 2) k s = k (u8 116) s := by kernel_rfl
theorem ix_sqtd_3 (k : KV) (s : Nat) : indexX P 9 (str [115, 113, 116, 100]) (vi 3) k s = k (u8 100) s := by kernel_rfl
theorem ix_qt_0 (k : KV) (s : Nat) : indexX P 9 (str [113, 116]) (vi 0) k s = k (u8 113) s := by kernel_rfl
theorem ix_qt_1 (k : KV) (s : Nat) : indexX P 9 (str [113, 116]) (vi 1) k s = k (u8 116) s := by kernel_rfl
theorem ix_q_0 (k : KV) (s : Nat) : indexX P 9 (str [113]) (vi 0) k s = k (u8 113) s := by kernel_rfl
theorem len_say (n : Int) (k : KV) (s : Nat) : lenX P ⟨[9]⟩ (str (sayT n)) k s = k (vi (sayT n).length) s := ln_9 _ k s
theorem ix_say {n : Int} (hn : 1 ≤ n ∧ n ≤ 7) {i : Nat} {c : UInt8} (hc : (sayT n)[i]? = some c) (k : KV) (s : Nat) : indexX P 9 (str (sayT n)) (vi i) k s = k (u8 c.toNat) s := by
  have hl := (List.getElem?_eq_some_iff.1 hc).1
  rcases kinds hn with rfl | rfl | rfl | rfl | rfl | rfl | rfl
  · have hs : (⟨[115]⟩ : Array UInt8).size = 1 := rfl
    have hl : i < 1 := hl
    have : i = 0 := by omega
    subst this
    · obtain rfl : 115 = c := Option.some.inj hc
      exact ix_s_0 k s
  · have hs : (⟨[115, 113, 116]⟩ : Array UInt8).size = 3 := rfl
    have hl : i < 3 := hl
    have : i = 0 ∨ i = 1 ∨ i = 2 := by omega
    rcases this with rfl | rfl | rfl
    · obtain rfl : 115 = c := Option.some.inj hc
      exact ix_sqt_0 k s
    · obtain rfl : 113 = c := Option.some.inj hc
      exact ix_sqt_1 k s
    · obtain rfl : 116 = c := Option.some.inj hc
      exact ix_sqt_2 k s
  · have hs : (⟨[115, 113, 116]⟩ : Array UInt8).size = 3 := rfl
    have hl : i < 3 := hl
    have : i = 0 ∨ i = 1 ∨ i = 2 := by omega
    rcases this with rfl | rfl | rfl
    · obtain rfl : 115 = c := Option.some.inj hc
      exact ix_sqt_0 k s
    · obtain rfl : 113 = c := Option.some.inj hc
      exact ix_sqt_1 k s
    · obtain rfl : 116 = c := Option.some.inj hc
      exact ix_sqt_2 k s
  · have hs : (⟨[115, 113, 116, 100]⟩ : Array UInt8).size = 4 := rfl
    have hl : i < 4 := hl
    have : i = 0 ∨ i = 1 ∨ i = 2 ∨ i = 3 := by omega
    rcases this with rfl | rfl | rfl | rfl
    · obtain rfl : 115 = c := Option.some.inj hc
      exact ix_sqtd_0 k s
    · obtain rfl : 113 = c := Option.some.inj hc
      exact ix_sqtd_1 k s
    · obtain rfl : 116 = c := Option.some.inj hc
      exact ix_sqtd_2 k s
    · obtain rfl : 100 = c := Option.some.inj hc
      exact ix_sqtd_3 k s
  · have hs : (⟨[115, 113, 116, 100]⟩ : Array UInt8).size = 4 := rfl
    have hl : i < 4 := hl
    have : i = 0 ∨ i = 1 ∨ i = 2 ∨ i = 3 := by omega
    rcases this with rfl | rfl | rfl | rfl
    · obtain rfl : 115 = c := Option.some.inj hc
      exact ix_sqtd_0 k s
    · obtain rfl : 113 = c := Option.some.inj hc
      exact ix_sqtd_1 k s
    · obtain rfl : 116 = c := Option.some.inj hc
      exact ix_sqtd_2 k s
    · obtain rfl : 100 = c := Option.some.inj hc
      exact ix_sqtd_3 k s
  · have hs : (⟨[113, 116]⟩ : Array UInt8).size = 2 := rfl
    have hl : i < 2 := hl
    have : i = 0 ∨ i = 1 := by omega
    rcases this with rfl | rfl
    · obtain rfl : 113 = c := Option.some.inj hc
      exact ix_qt_0 k s
    · obtain rfl : 116 = c := Option.some.inj hc
      exact ix_qt_1 k s
  · have hs : (⟨[113]⟩ : Array UInt8).size = 1 := rfl
    have hl : i < 1 := hl
    have : i = 0 := by omega
    subst this
    · obtain rfl : 113 = c := Option.some.inj hc
      exact ix_q_0 k s
theorem eqc8 (a b : Nat) (k : KV) (s : Nat) : eqX P 5 5 false true (u8 (a : Int)) (.int .u8 (.ofNat b)) k s = k (.bool (a == b)) s := by
  rw [show Int.ofNat b = (b : Int) from rfl]
  have := eq8 a b k s
  rw [this]
  congr 2
  by_cases h : a = b
  · simp [h]
  · rw [decide_eq_false (by omega)]; simp [h]
section
variable {N d : Nat} (hN : N = 100000) {h : T} {s : Nat} (hf : ∀ n, s ≤ n → h.get n = none)
include hN hf
theorem s24 (x : SV) {dt : List Int} (r : Row EI h x.p x.n dt) : PureS (D N (d + 12)) 24 [.agg ⟨svv x⟩] h s (fun v h' s' => if badS x = true then v = .tuple ⟨[.slice none 0 0, vi 2]⟩ else ∃ p' len, v = .tuple ⟨[.slice p' len len, vi 0]⟩ ∧ OwnG EB 5 h' s p' len (encS x dt)) := by
  refine PureS.of hf fun K pw Z g hp hk => ?_
  rw [D_24]; unfold F24; rw [app1_eq]
  refine wp_boxA g hp fun h1 g1 c1 b1 => ?_
  simp only [svv] at b1
  try simp (disch := first | assumption | omega | (simp only [Int.ofNat_eq_natCast, neg_one]; done) | (simp only [Int.ofNat_eq_natCast, neg_one]; omega)) only [tysW, w_bindJ, w_logJ, w_ct, w_cf, w_gtt, w_gft, w_gtf, w_gff, w_pt, w_pf, w_lret, w_e0, w_e1, w_e2, w_nil, w_fun, w_nt, w_nf, w_add, w_sub, w_eqt, w_eqf, w_net, w_nef, w_ltt, w_ltf, w_let, w_lef, w_gtt', w_gtf', w_get, w_gef, toNat_of, of_add, cast_add, nth_0, nth_s, Nat.zero_add, Nat.reduceAdd, Nat.reduceMul, Nat.add_zero, List.length_cons, List.length_nil, List.drop_zero, List.drop_succ_cons, List.take_succ_cons, List.take_zero, List.take_nil, true_and, and_true, Int.toNat_natCast, List.append_nil, List.nil_append, List.cons_append, ldB b1, clB b1, ldBL b1, clBL b1]
  refine ValS.go g1 hp (s26 (d := d) hN g1.fresh x) fun h2 s2 g2 c2 => ?_
  have l2 := c2.le
  replace b1 := c2.box b1 (by omega)
  cases hbad : badS x with
  | true =>
    try simp (disch := first | assumption | omega | (simp only [Int.ofNat_eq_natCast, neg_one]; done) | (simp only [Int.ofNat_eq_natCast, neg_one]; omega)) only [tysW, w_bindJ, w_logJ, w_ct, w_cf, w_gtt, w_gft, w_gtf, w_gff, w_pt, w_pf, w_lret, w_e0, w_e1, w_e2, w_nil, w_fun, w_nt, w_nf, w_add, w_sub, w_eqt, w_eqf, w_net, w_nef, w_ltt, w_ltf, w_let, w_lef, w_gtt', w_gtf', w_get, w_gef, toNat_of, of_add, cast_add, nth_0, nth_s, Nat.zero_add, Nat.reduceAdd, Nat.reduceMul, Nat.add_zero, List.length_cons, List.length_nil, List.drop_zero, List.drop_succ_cons, List.take_succ_cons, List.take_zero, List.take_nil, true_and, and_true, Int.toNat_natCast, List.append_nil, List.nil_append, List.cons_append, if_true]
    refine hk _ _ _ g2 ?_
    rw [if_pos hbad]; rfl
  | false =>
    obtain ⟨q1, q2, q3, q4, -⟩ := good hbad
    try simp (disch := first | assumption | omega | (simp only [Int.ofNat_eq_natCast, neg_one]; done) | (simp only [Int.ofNat_eq_natCast, neg_one]; omega)) only [tysW, w_bindJ, w_logJ, w_ct, w_cf, w_gtt, w_gft, w_gtf, w_gff, w_pt, w_pf, w_lret, w_e0, w_e1, w_e2, w_nil, w_fun, w_nt, w_nf, w_add, w_sub, w_eqt, w_eqf, w_net, w_nef, w_ltt, w_ltf, w_let, w_lef, w_gtt', w_gtf', w_get, w_gef, toNat_of, of_add, cast_add, nth_0, nth_s, Nat.zero_add, Nat.reduceAdd, Nat.reduceMul, Nat.add_zero, List.length_cons, List.length_nil, List.drop_zero, List.drop_succ_cons, List.take_succ_cons, List.take_zero, List.take_nil, true_and, and_true, Int.toNat_natCast, List.append_nil, List.nil_append, List.cons_append, ldB b1, clB b1, ldBL b1, clBL b1, Bool.false_eq_true, if_false]
    refine PureS.go g2 hp (s89 (w := 1) (d := d + 8) (by omega) g2.fresh (.inl rfl) (.nil _) (by omega) x.kind (by simp [fitsW]; omega)) fun v h3 s3 g3 c3 hv => ?_
    obtain ⟨p3, rfl, o3⟩ := hv
    have l3 := c3.le
    replace b1 := c3.box b1 (by omega)
    try simp (disch := first | assumption | omega | (simp only [Int.ofNat_eq_natCast, neg_one]; done) | (simp only [Int.ofNat_eq_natCast, neg_one]; omega)) only [tysW, w_bindJ, w_logJ, w_ct, w_cf, w_gtt, w_gft, w_gtf, w_gff, w_pt, w_pf, w_lret, w_e0, w_e1, w_e2, w_nil, w_fun, w_nt, w_nf, w_add, w_sub, w_eqt, w_eqf, w_net, w_nef, w_ltt, w_ltf, w_let, w_lef, w_gtt', w_gtf', w_get, w_gef, toNat_of, of_add, cast_add, nth_0, nth_s, Nat.zero_add, Nat.reduceAdd, Nat.reduceMul, Nat.add_zero, List.length_cons, List.length_nil, List.drop_zero, List.drop_succ_cons, List.take_succ_cons, List.take_zero, List.take_nil, true_and, and_true, Int.toNat_natCast, List.append_nil, List.nil_append, List.cons_append, ldB b1, clB b1, ldBL b1, clBL b1]
    refine ValS.go g3 hp (s90 (d := d + 10) g3.fresh x.kind) fun h4 s4 g4 c4 => ?_
    replace b1 := c4.box b1 (by omega)
    have l4 := c4.le
    rw [List.nil_append] at o3
    replace o3 := (o3.from g3.fresh c4).less (show s ≤ s2 by omega)
    simp only [Nat.zero_add] at o3
    try simp (disch := first | assumption | omega | (simp only [Int.ofNat_eq_natCast, neg_one]; done) | (simp only [Int.ofNat_eq_natCast, neg_one]; omega)) only [tysW, w_bindJ, w_logJ, w_ct, w_cf, w_gtt, w_gft, w_gtf, w_gff, w_pt, w_pf, w_lret, w_e0, w_e1, w_e2, w_nil, w_fun, w_nt, w_nf, w_add, w_sub, w_eqt, w_eqf, w_net, w_nef, w_ltt, w_ltf, w_let, w_lef, w_gtt', w_gtf', w_get, w_gef, toNat_of, of_add, cast_add, nth_0, nth_s, Nat.zero_add, Nat.reduceAdd, Nat.reduceMul, Nat.add_zero, List.length_cons, List.length_nil, List.drop_zero, List.drop_succ_cons, List.take_succ_cons, List.take_zero, List.take_nil, true_and, and_true, Int.toNat_natCast, List.append_nil, List.nil_append, List.cons_append]
    have loop : ∀ (J : Value → Nat → AM) (hJ : ∀ v s', J v s' = K (.tuple ⟨[v, i64 0]⟩) s') (B : (Value → Value → Nat → AM) → Value → Value → Nat → AM) (hB : ∀ H u v s', B H u v s' = X24_1 N (D N (d + 11)) K (str (sayT x.kind)) (ptr s) J H u v s') (n i : Nat) (p1 : Option Addr) (len1 : Nat) (h1 : T) (s1 : Nat), (sayT x.kind).length - i < n → i ≤ (sayT x.kind).length → From s h h1 s1 → s + 1 ≤ s1 → h1.get s = some (.cells ⟨[vi x.kind, vi x.sen, vi x.seq, vi x.time, .slice x.p x.n x.c]⟩ 33 (0, 0)) → OwnG EB 5 h1 s p1 len1 (be 1 x.kind ++ ((sayT x.kind).take i).flatMap (letB x dt)) → len1 ≤ 1 + 200 * i →
        (loopJ n 2 (fun _ _ _ => AM.fail) B (.slice p1 len1 len1) (vi i) s1).wp pw Z h1 := by
      intro J hJ B hB n
      induction n with
      | zero => intro i p1 len1 h1 s1 hn; omega
      | succ n ih =>
        intro i p1 len1 h1 s1 hn hi g1 hs1 b1 o1 hl1
        have hle := say_le x.kind
        rw [loopJ_succ, hB]
        unfold X24_1
        by_cases hlt : i < (sayT x.kind).length
        · obtain ⟨c, hc⟩ := get_some (l := sayT x.kind) (i := i) hlt
          have hcm := say_mem (List.mem_of_getElem? hc)
          try simp (disch := first | assumption | omega | (simp only [Int.ofNat_eq_natCast, neg_one]; done) | (simp only [Int.ofNat_eq_natCast, neg_one]; omega)) only [tysW, w_bindJ, w_logJ, w_ct, w_cf, w_gtt, w_gft, w_gtf, w_gff, w_pt, w_pf, w_lret, w_e0, w_e1, w_e2, w_nil, w_fun, w_nt, w_nf, w_add, w_sub, w_eqt, w_eqf, w_net, w_nef, w_ltt, w_ltf, w_let, w_lef, w_gtt', w_gtf', w_get, w_gef, toNat_of, of_add, cast_add, nth_0, nth_s, Nat.zero_add, Nat.reduceAdd, Nat.reduceMul, Nat.add_zero, List.length_cons, List.length_nil, List.drop_zero, List.drop_succ_cons, List.take_succ_cons, List.take_zero, List.take_nil, true_and, and_true, Int.toNat_natCast, List.append_nil, List.nil_append, List.cons_append, len_say, ix_say q1 hc]
          have step : ∀ (w : Nat) (n1 : Int), isW w → letB x dt c = be w n1 → fitsW w n1 = true → (D N (d + 11) 89 [.slice p1 len1 len1, vi w, vi n1] (fun v s => addX P 3 3 false true (vi i) (i64 1) (fun v20 s => loopJ n 2 (fun _ _ _ => AM.fail) B v v20 s) s) s1).wp pw Z h1 := by
            intro w n1 hw he hfit
            have hw8 : w ≤ 8 := by rcases hw with rfl | rfl | rfl | rfl <;> omega
            refine PureS.go g1 hp (s89 (d := d + 8) (by omega) g1.fresh hw o1.sl (by omega) n1 hfit) fun v h4 s4 g4 c4 hv => ?_
            obtain ⟨p4, rfl, o4⟩ := hv
            have l4 := c4.le
            try simp (disch := first | assumption | omega | (simp only [Int.ofNat_eq_natCast, neg_one]; done) | (simp only [Int.ofNat_eq_natCast, neg_one]; omega)) only [tysW, w_bindJ, w_logJ, w_ct, w_cf, w_gtt, w_gft, w_gtf, w_gff, w_pt, w_pf, w_lret, w_e0, w_e1, w_e2, w_nil, w_fun, w_nt, w_nf, w_add, w_sub, w_eqt, w_eqf, w_net, w_nef, w_ltt, w_ltf, w_let, w_lef, w_gtt', w_gtf', w_get, w_gef, toNat_of, of_add, cast_add, nth_0, nth_s, Nat.zero_add, Nat.reduceAdd, Nat.reduceMul, Nat.add_zero, List.length_cons, List.length_nil, List.drop_zero, List.drop_succ_cons, List.take_succ_cons, List.take_zero, List.take_nil, true_and, and_true, Int.toNat_natCast, List.append_nil, List.nil_append, List.cons_append]
            refine ih (i + 1) p4 (len1 + w) h4 s4 (by omega) (by omega) g4 (by omega) (c4.box b1 (by omega)) ?_ (by omega)
            rw [take_next hc, ← List.append_assoc, he]
            exact o4.less (by omega)
          rcases hcm with rfl | rfl | rfl | rfl
          · try simp (disch := first | assumption | omega | (simp only [Int.ofNat_eq_natCast, neg_one]; done) | (simp only [Int.ofNat_eq_natCast, neg_one]; omega)) only [tysW, w_bindJ, w_logJ, w_ct, w_cf, w_gtt, w_gft, w_gtf, w_gff, w_pt, w_pf, w_lret, w_e0, w_e1, w_e2, w_nil, w_fun, w_nt, w_nf, w_add, w_sub, w_eqt, w_eqf, w_net, w_nef, w_ltt, w_ltf, w_let, w_lef, w_gtt', w_gtf', w_get, w_gef, toNat_of, of_add, cast_add, nth_0, nth_s, Nat.zero_add, Nat.reduceAdd, Nat.reduceMul, Nat.add_zero, List.length_cons, List.length_nil, List.drop_zero, List.drop_succ_cons, List.take_succ_cons, List.take_zero, List.take_nil, true_and, and_true, Int.toNat_natCast, List.append_nil, List.nil_append, List.cons_append, ldB b1, clB b1, ldBL b1, clBL b1, eqc8, UInt8.reduceToNat, Nat.reduceBEq]
            exact step 1 x.sen (.inl rfl) rfl (by simp [fitsW]; omega)
          · try simp (disch := first | assumption | omega | (simp only [Int.ofNat_eq_natCast, neg_one]; done) | (simp only [Int.ofNat_eq_natCast, neg_one]; omega)) only [tysW, w_bindJ, w_logJ, w_ct, w_cf, w_gtt, w_gft, w_gtf, w_gff, w_pt, w_pf, w_lret, w_e0, w_e1, w_e2, w_nil, w_fun, w_nt, w_nf, w_add, w_sub, w_eqt, w_eqf, w_net, w_nef, w_ltt, w_ltf, w_let, w_lef, w_gtt', w_gtf', w_get, w_gef, toNat_of, of_add, cast_add, nth_0, nth_s, Nat.zero_add, Nat.reduceAdd, Nat.reduceMul, Nat.add_zero, List.length_cons, List.length_nil, List.drop_zero, List.drop_succ_cons, List.take_succ_cons, List.take_zero, List.take_nil, true_and, and_true, Int.toNat_natCast, List.append_nil, List.nil_append, List.cons_append, ldB b1, clB b1, ldBL b1, clBL b1, eqc8, UInt8.reduceToNat, Nat.reduceBEq]
            exact step 4 x.seq (.inr (.inr (.inl rfl))) rfl (by simp [fitsW]; omega)
          · try simp (disch := first | assumption | omega | (simp only [Int.ofNat_eq_natCast, neg_one]; done) | (simp only [Int.ofNat_eq_natCast, neg_one]; omega)) only [tysW, w_bindJ, w_logJ, w_ct, w_cf, w_gtt, w_gft, w_gtf, w_gff, w_pt, w_pf, w_lret, w_e0, w_e1, w_e2, w_nil, w_fun, w_nt, w_nf, w_add, w_sub, w_eqt, w_eqf, w_net, w_nef, w_ltt, w_ltf, w_let, w_lef, w_gtt', w_gtf', w_get, w_gef, toNat_of, of_add, cast_add, nth_0, nth_s, Nat.zero_add, Nat.reduceAdd, Nat.reduceMul, Nat.add_zero, List.length_cons, List.length_nil, List.drop_zero, List.drop_succ_cons, List.take_succ_cons, List.take_zero, List.take_nil, true_and, and_true, Int.toNat_natCast, List.append_nil, List.nil_append, List.cons_append, ldB b1, clB b1, ldBL b1, clBL b1, eqc8, UInt8.reduceToNat, Nat.reduceBEq]
            exact step 8 x.time (.inr (.inr (.inr rfl))) rfl (by simp [fitsW])
          · try simp (disch := first | assumption | omega | (simp only [Int.ofNat_eq_natCast, neg_one]; done) | (simp only [Int.ofNat_eq_natCast, neg_one]; omega)) only [tysW, w_bindJ, w_logJ, w_ct, w_cf, w_gtt, w_gft, w_gtf, w_gff, w_pt, w_pf, w_lret, w_e0, w_e1, w_e2, w_nil, w_fun, w_nt, w_nf, w_add, w_sub, w_eqt, w_eqf, w_net, w_nef, w_ltt, w_ltf, w_let, w_lef, w_gtt', w_gtf', w_get, w_gef, toNat_of, of_add, cast_add, nth_0, nth_s, Nat.zero_add, Nat.reduceAdd, Nat.reduceMul, Nat.add_zero, List.length_cons, List.length_nil, List.drop_zero, List.drop_succ_cons, List.take_succ_cons, List.take_zero, List.take_nil, true_and, and_true, Int.toNat_natCast, List.append_nil, List.nil_append, List.cons_append, ldB b1, clB b1, ldBL b1, clBL b1, eqc8, UInt8.reduceToNat, Nat.reduceBEq]
            refine PureS.go g1 hp (s91 (d := d + 8) (by omega) g1.fresh o1.sl (g1.row hf r) (by omega) (by omega)) fun v h4 s4 g4 c4 hv => ?_
            rw [if_pos q4] at hv
            obtain ⟨p4, rfl, o4⟩ := hv
            have l4 := c4.le
            try simp (disch := first | assumption | omega | (simp only [Int.ofNat_eq_natCast, neg_one]; done) | (simp only [Int.ofNat_eq_natCast, neg_one]; omega)) only [tysW, w_bindJ, w_logJ, w_ct, w_cf, w_gtt, w_gft, w_gtf, w_gff, w_pt, w_pf, w_lret, w_e0, w_e1, w_e2, w_nil, w_fun, w_nt, w_nf, w_add, w_sub, w_eqt, w_eqf, w_net, w_nef, w_ltt, w_ltf, w_let, w_lef, w_gtt', w_gtf', w_get, w_gef, toNat_of, of_add, cast_add, nth_0, nth_s, Nat.zero_add, Nat.reduceAdd, Nat.reduceMul, Nat.add_zero, List.length_cons, List.length_nil, List.drop_zero, List.drop_succ_cons, List.take_succ_cons, List.take_zero, List.take_nil, true_and, and_true, Int.toNat_natCast, List.append_nil, List.nil_append, List.cons_append]
            refine ih (i + 1) p4 _ h4 s4 (by omega) (by omega) g4 (by omega) (c4.box b1 (by omega)) ?_ (by omega)
            rw [take_next hc, ← List.append_assoc]
            exact o4.less (by omega)
        · obtain rfl : i = (sayT x.kind).length := by omega
          try simp (disch := first | assumption | omega | (simp only [Int.ofNat_eq_natCast, neg_one]; done) | (simp only [Int.ofNat_eq_natCast, neg_one]; omega)) only [tysW, w_bindJ, w_logJ, w_ct, w_cf, w_gtt, w_gft, w_gtf, w_gff, w_pt, w_pf, w_lret, w_e0, w_e1, w_e2, w_nil, w_fun, w_nt, w_nf, w_add, w_sub, w_eqt, w_eqf, w_net, w_nef, w_ltt, w_ltf, w_let, w_lef, w_gtt', w_gtf', w_get, w_gef, toNat_of, of_add, cast_add, nth_0, nth_s, Nat.zero_add, Nat.reduceAdd, Nat.reduceMul, Nat.add_zero, List.length_cons, List.length_nil, List.drop_zero, List.drop_succ_cons, List.take_succ_cons, List.take_zero, List.take_nil, true_and, and_true, Int.toNat_natCast, List.append_nil, List.nil_append, List.cons_append, len_say]
          rw [hJ]
          refine hk _ _ _ g1 ?_
          rw [if_neg (by simp [hbad])]
          refine ⟨p1, len1, rfl, ?_⟩
          rw [List.take_of_length_le (Nat.le_refl _)] at o1
          exact o1
    have hle := say_le x.kind
    exact loop _ (fun _ _ => rfl) _ (fun _ _ _ _ => rfl) N 0 p3 1 h4 s4 (by omega) (by omega) g4 (by omega) b1 (by simpa using o3) (by omega)
end
end Go.Ev.R
namespace Go.Ev.R
open Go Go.RowKit
theorem D_21 (N d : Nat) (K : KV) (s : Nat) : D N (d + 1) 21 [] K s = K (.bool true) s := by kernel_rfl
/-- What is told of a saying. -/
def bytesS (x : SV) (dt : List Int) : List Int := if badS x = true then [] else encS x dt
def errS (x : SV) : Int := if badS x = true then 2 else 0
theorem bys_range (w : Nat) (l : List Int) : ∀ y ∈ bys w l, 0 ≤ y ∧ y < 256 := by
  intro y hy
  obtain ⟨n, -, h⟩ := List.mem_flatMap.1 hy
  exact be_range n w y h
theorem lis_range (l : List Int) : ∀ y ∈ lis l, 0 ≤ y ∧ y < 256 := by
  intro y hy
  rcases List.mem_append.1 hy with h | h
  · exact bys_range _ _ y h
  · exact bys_range _ _ y h
theorem letB_range (x : SV) (dt : List Int) (c : UInt8) : ∀ y ∈ letB x dt c, 0 ≤ y ∧ y < 256 := by
  intro y hy
  unfold letB at hy
  split at hy
  · exact be_range _ _ y hy
  split at hy
  · exact be_range _ _ y hy
  split at hy
  · exact be_range _ _ y hy
  · exact lis_range _ y hy
theorem bytesS_range (x : SV) (dt : List Int) : ∀ y ∈ bytesS x dt, 0 ≤ y ∧ y < 256 := by
  intro y hy
  unfold bytesS at hy
  split at hy
  · cases hy
  · rcases List.mem_append.1 hy with h | h
    · exact be_range _ _ y h
    · obtain ⟨c, -, h⟩ := List.mem_flatMap.1 h
      exact letB_range x dt c y h
section
variable {N d : Nat} (hN : N = 100000) {h : T} {s : Nat} (hf : ∀ n, s ≤ n → h.get n = none)
include hN hf
theorem s23e (x : SV) {dt : List Int} (r : Row EI h x.p x.n dt) : PureS (D N (d + 12)) 23 [.agg ⟨svv x⟩] h s (fun v h' s' => ∃ p' len, v = .tuple ⟨[.slice p' len len, vi (errS x)]⟩ ∧ OwnG EB 5 h' s p' len (bytesS x dt) ∧ len ≤ 1000) := by
  refine PureS.of hf fun K pw Z g hp hk => ?_
  refine PureS.go g hp (s23 (d := d) hN hf x r) fun v h1 s1 g1 c1 hv => hk _ _ _ g1 ?_
  unfold errS bytesS
  cases hb : badS x with
  | true => rw [hb] at hv; rw [if_pos rfl] at hv; subst hv; exact ⟨none, 0, rfl, .nil, by omega⟩
  | false =>
    obtain ⟨q1, q2, q3, q4, -⟩ := good hb
    rw [hb] at hv
    rw [if_neg (by simp)] at hv
    obtain ⟨p, len, rfl, o⟩ := hv
    refine ⟨p, len, rfl, o, ?_⟩
    have hl : ∀ c, (letB x dt c).length ≤ 193 := by
      intro c
      unfold letB
      split
      · rw [be_len]; omega
      split
      · rw [be_len]; omega
      split
      · rw [be_len]; omega
      · rw [lis_len, r.1]; omega
    have hm : ∀ l : List UInt8, (l.flatMap (letB x dt)).length ≤ 193 * l.length := by
      intro l
      induction l with
      | nil => simp
      | cons c l ih => rw [List.flatMap_cons, List.length_append, List.length_cons]; have := hl c; omega
    have h1 := o.1
    have h2 := say_le x.kind
    have h3 := hm (sayT x.kind)
    unfold encS at h1
    rw [List.length_append, be_len] at h1
    omega
theorem s24e (x : SV) {dt : List Int} (r : Row EI h x.p x.n dt) : PureS (D N (d + 12)) 24 [.agg ⟨svv x⟩] h s (fun v h' s' => ∃ p' len, v = .tuple ⟨[.slice p' len len, vi (errS x)]⟩ ∧ OwnG EB 5 h' s p' len (bytesS x dt)) := by
  refine PureS.of hf fun K pw Z g hp hk => ?_
  refine PureS.go g hp (s24 (d := d) hN hf x r) fun v h1 s1 g1 c1 hv => hk _ _ _ g1 ?_
  unfold errS bytesS
  cases hb : badS x with
  | true => rw [hb] at hv; rw [if_pos rfl] at hv; subst hv; exact ⟨none, 0, rfl, .nil⟩
  | false =>
    rw [hb] at hv
    rw [if_neg (by simp)] at hv
    obtain ⟨p, len, rfl, o⟩ := hv
    exact ⟨p, len, rfl, o⟩
theorem s4 (x : SV) {dt : List Int} (r : Sl EI h x.p x.n x.c dt) : ValS (D N (d + 13)) 4 [.agg ⟨svv x⟩] h s (.bool true) := by
  refine ValS.of hf fun K pw Z g hp hk => ?_
  rw [D_4]; unfold F4; rw [app1_eq]
  unfold X4_4
  refine wp_boxA g hp fun h1 g1 c1 b1 => ?_
  simp only [svv] at b1
  by_cases h60 : (60 : Int) < (x.n : Int)
  · try simp (disch := first | assumption | omega | (simp only [Int.ofNat_eq_natCast, neg_one]; done) | (simp only [Int.ofNat_eq_natCast, neg_one]; omega)) only [tysW, w_bindJ, w_logJ, w_ct, w_cf, w_gtt, w_gft, w_gtf, w_gff, w_pt, w_pf, w_lret, w_e0, w_e1, w_e2, w_nil, w_fun, w_nt, w_nf, w_add, w_sub, w_eqt, w_eqf, w_net, w_nef, w_ltt, w_ltf, w_let, w_lef, w_gtt', w_gtf', w_get, w_gef, toNat_of, of_add, cast_add, nth_0, nth_s, Nat.zero_add, Nat.reduceAdd, Nat.reduceMul, Nat.add_zero, List.length_cons, List.length_nil, List.drop_zero, List.drop_succ_cons, List.take_succ_cons, List.take_zero, List.take_nil, true_and, and_true, Int.toNat_natCast, List.append_nil, List.nil_append, List.cons_append, ldB b1, clB b1, ldBL b1, clBL b1]
    rw [D_21]
    exact hk _ _ g1
  try simp (disch := first | assumption | omega | (simp only [Int.ofNat_eq_natCast, neg_one]; done) | (simp only [Int.ofNat_eq_natCast, neg_one]; omega)) only [tysW, w_bindJ, w_logJ, w_ct, w_cf, w_gtt, w_gft, w_gtf, w_gff, w_pt, w_pf, w_lret, w_e0, w_e1, w_e2, w_nil, w_fun, w_nt, w_nf, w_add, w_sub, w_eqt, w_eqf, w_net, w_nef, w_ltt, w_ltf, w_let, w_lef, w_gtt', w_gtf', w_get, w_gef, toNat_of, of_add, cast_add, nth_0, nth_s, Nat.zero_add, Nat.reduceAdd, Nat.reduceMul, Nat.add_zero, List.length_cons, List.length_nil, List.drop_zero, List.drop_succ_cons, List.take_succ_cons, List.take_zero, List.take_nil, true_and, and_true, Int.toNat_natCast, List.append_nil, List.nil_append, List.cons_append, ldB b1, clB b1, ldBL b1, clBL b1]
  refine PureS.go g1 hp (s22 (d := d + 10) g1.fresh x (r.from hf g1) (by omega)) fun v h2 s2 g2 c2 hv => ?_
  obtain ⟨p2, rfl, o2⟩ := hv
  have l2 := c2.le
  have o2n : p2 ≠ none → blk p2 < s2 := fun hp => (o2.lt g2.fresh hp).2
  replace b1 := c2.box b1 (by omega)
  try simp (disch := first | assumption | omega | (simp only [Int.ofNat_eq_natCast, neg_one]; done) | (simp only [Int.ofNat_eq_natCast, neg_one]; omega)) only [tysW, w_bindJ, w_logJ, w_ct, w_cf, w_gtt, w_gft, w_gtf, w_gff, w_pt, w_pf, w_lret, w_e0, w_e1, w_e2, w_nil, w_fun, w_nt, w_nf, w_add, w_sub, w_eqt, w_eqf, w_net, w_nef, w_ltt, w_ltf, w_let, w_lef, w_gtt', w_gtf', w_get, w_gef, toNat_of, of_add, cast_add, nth_0, nth_s, Nat.zero_add, Nat.reduceAdd, Nat.reduceMul, Nat.add_zero, List.length_cons, List.length_nil, List.drop_zero, List.drop_succ_cons, List.take_succ_cons, List.take_zero, List.take_nil, true_and, and_true, Int.toNat_natCast, List.append_nil, List.nil_append, List.cons_append]
  refine wp_boxA g2 hp fun h3 g3 c3 b3 => ?_
  replace b1 := c3.box b1 (by omega)
  try simp (disch := first | assumption | omega | (simp only [Int.ofNat_eq_natCast, neg_one]; done) | (simp only [Int.ofNat_eq_natCast, neg_one]; omega)) only [tysW, w_bindJ, w_logJ, w_ct, w_cf, w_gtt, w_gft, w_gtf, w_gff, w_pt, w_pf, w_lret, w_e0, w_e1, w_e2, w_nil, w_fun, w_nt, w_nf, w_add, w_sub, w_eqt, w_eqf, w_net, w_nef, w_ltt, w_ltf, w_let, w_lef, w_gtt', w_gtf', w_get, w_gef, toNat_of, of_add, cast_add, nth_0, nth_s, Nat.zero_add, Nat.reduceAdd, Nat.reduceMul, Nat.add_zero, List.length_cons, List.length_nil, List.drop_zero, List.drop_succ_cons, List.take_succ_cons, List.take_zero, List.take_nil, true_and, and_true, Int.toNat_natCast, List.append_nil, List.nil_append, List.cons_append, svv]
  refine wp_putF g3 hp b3 (by omega) (by simp) rfl fun h4 g4 b4 e4 => ?_
  simp only [overL] at b4
  replace b1 := (e4 s (by omega)).trans b1
  replace o2 := (o2.from g2.fresh c3).but fun hp => e4 _ (by have := o2.lt g2.fresh hp; omega)
  try simp (disch := first | assumption | omega | (simp only [Int.ofNat_eq_natCast, neg_one]; done) | (simp only [Int.ofNat_eq_natCast, neg_one]; omega)) only [tysW, w_bindJ, w_logJ, w_ct, w_cf, w_gtt, w_gft, w_gtf, w_gff, w_pt, w_pf, w_lret, w_e0, w_e1, w_e2, w_nil, w_fun, w_nt, w_nf, w_add, w_sub, w_eqt, w_eqf, w_net, w_nef, w_ltt, w_ltf, w_let, w_lef, w_gtt', w_gtf', w_get, w_gef, toNat_of, of_add, cast_add, nth_0, nth_s, Nat.zero_add, Nat.reduceAdd, Nat.reduceMul, Nat.add_zero, List.length_cons, List.length_nil, List.drop_zero, List.drop_succ_cons, List.take_succ_cons, List.take_zero, List.take_nil, true_and, and_true, Int.toNat_natCast, List.append_nil, List.nil_append, List.cons_append, ldB b4, clB b4, ldBL b4, clBL b4]
  have er : errS ⟨x.kind, x.sen, x.seq, x.time, p2, x.n, x.n⟩ = errS x := rfl
  refine PureS.go g4 hp (s23e (d := d) hN g4.fresh ⟨x.kind, x.sen, x.seq, x.time, p2, x.n, x.n⟩ o2.sl.row) fun v h5 s5 g5 c5 hv => ?_
  obtain ⟨pa, la, rfl, oa, hla⟩ := hv
  have l5 := c5.le
  have en : bytesS ⟨x.kind, x.sen, x.seq, x.time, p2, x.n, x.n⟩ dt = bytesS x dt := rfl
  rw [en] at oa
  rw [er]
  replace b1 := c5.box b1 (by omega)
  replace b4 := c5.box b4 (by omega)
  replace o2 := o2.from g4.fresh c5
  try simp (disch := first | assumption | omega | (simp only [Int.ofNat_eq_natCast, neg_one]; done) | (simp only [Int.ofNat_eq_natCast, neg_one]; omega)) only [tysW, w_bindJ, w_logJ, w_ct, w_cf, w_gtt, w_gft, w_gtf, w_gff, w_pt, w_pf, w_lret, w_e0, w_e1, w_e2, w_nil, w_fun, w_nt, w_nf, w_add, w_sub, w_eqt, w_eqf, w_net, w_nef, w_ltt, w_ltf, w_let, w_lef, w_gtt', w_gtf', w_get, w_gef, toNat_of, of_add, cast_add, nth_0, nth_s, Nat.zero_add, Nat.reduceAdd, Nat.reduceMul, Nat.add_zero, List.length_cons, List.length_nil, List.drop_zero, List.drop_succ_cons, List.take_succ_cons, List.take_zero, List.take_nil, true_and, and_true, Int.toNat_natCast, List.append_nil, List.nil_append, List.cons_append, ldB b1, clB b1, ldBL b1, clBL b1]
  refine PureS.go g5 hp (s24e (d := d) hN g5.fresh x (g5.row hf r.row)) fun v h6 s6 g6 c6 hv => ?_
  obtain ⟨pb, lb, rfl, ob⟩ := hv
  have l6 := c6.le
  replace b1 := c6.box b1 (by omega)
  replace b4 := c6.box b4 (by omega)
  replace o2 := o2.from g5.fresh c6
  replace oa := oa.from g5.fresh c6
  try simp (disch := first | assumption | omega | (simp only [Int.ofNat_eq_natCast, neg_one]; done) | (simp only [Int.ofNat_eq_natCast, neg_one]; omega)) only [tysW, w_bindJ, w_logJ, w_ct, w_cf, w_gtt, w_gft, w_gtf, w_gff, w_pt, w_pf, w_lret, w_e0, w_e1, w_e2, w_nil, w_fun, w_nt, w_nf, w_add, w_sub, w_eqt, w_eqf, w_net, w_nef, w_ltt, w_ltf, w_let, w_lef, w_gtt', w_gtf', w_get, w_gef, toNat_of, of_add, cast_add, nth_0, nth_s, Nat.zero_add, Nat.reduceAdd, Nat.reduceMul, Nat.add_zero, List.length_cons, List.length_nil, List.drop_zero, List.drop_succ_cons, List.take_succ_cons, List.take_zero, List.take_nil, true_and, and_true, Int.toNat_natCast, List.append_nil, List.nil_append, List.cons_append]
  refine ValS.goL g6 hp (s19 (d := d + 11) g6.fresh oa.sl.row ob.sl.row (bytesS_range x dt) (bytesS_range x dt)) fun h7 s7 ts7 ws7 g7 c7 hw7 ht7 => ?_
  have l7 := c7.le
  replace b1 := c7.box b1 (by omega)
  replace b4 := c7.box b4 (by omega)
  replace o2 := o2.from g6.fresh c7
  replace oa := oa.from g6.fresh c7
  rw [decide_eq_true rfl]
  have ern : errS x = (if badS x = true then 2 else 0) := rfl
  obtain ⟨e, he⟩ : ∃ e, e = errS x := ⟨_, rfl⟩
  rw [← he] at *
  unfold X4_3
  try simp (disch := first | assumption | omega | (simp only [Int.ofNat_eq_natCast, neg_one]; done) | (simp only [Int.ofNat_eq_natCast, neg_one]; omega)) only [tysW, w_bindJ, w_logJ, w_ct, w_cf, w_gtt, w_gft, w_gtf, w_gff, w_pt, w_pf, w_lret, w_e0, w_e1, w_e2, w_nil, w_fun, w_nt, w_nf, w_add, w_sub, w_eqt, w_eqf, w_net, w_nef, w_ltt, w_ltf, w_let, w_lef, w_gtt', w_gtf', w_get, w_gef, toNat_of, of_add, cast_add, nth_0, nth_s, Nat.zero_add, Nat.reduceAdd, Nat.reduceMul, Nat.add_zero, List.length_cons, List.length_nil, List.drop_zero, List.drop_succ_cons, List.take_succ_cons, List.take_zero, List.take_nil, true_and, and_true, Int.toNat_natCast, List.append_nil, List.nil_append, List.cons_append, ldB b4, clB b4, ldBL b4, clBL b4]
  refine ValS.goL g7 hp (s25 (d := d + 1) hN g7.fresh ⟨x.kind, x.sen, x.seq, x.time, p2, x.n, x.n⟩) fun h8 s8 ts8 ws8 g8 c8 hw8 ht8 => ?_
  have l8 := c8.le
  replace b1 := c8.box b1 (by omega)
  replace b4 := c8.box b4 (by omega)
  replace o2 := o2.from g7.fresh c8
  replace oa := oa.from g7.fresh c8
  rw [show badS ⟨x.kind, x.sen, x.seq, x.time, p2, x.n, x.n⟩ = badS x from rfl, ← ern]
  unfold X4_2
  try simp (disch := first | assumption | omega | (simp only [Int.ofNat_eq_natCast, neg_one]; done) | (simp only [Int.ofNat_eq_natCast, neg_one]; omega)) only [tysW, w_bindJ, w_logJ, w_ct, w_cf, w_gtt, w_gft, w_gtf, w_gff, w_pt, w_pf, w_lret, w_e0, w_e1, w_e2, w_nil, w_fun, w_nt, w_nf, w_add, w_sub, w_eqt, w_eqf, w_net, w_nef, w_ltt, w_ltf, w_let, w_lef, w_gtt', w_gtf', w_get, w_gef, toNat_of, of_add, cast_add, nth_0, nth_s, Nat.zero_add, Nat.reduceAdd, Nat.reduceMul, Nat.add_zero, List.length_cons, List.length_nil, List.drop_zero, List.drop_succ_cons, List.take_succ_cons, List.take_zero, List.take_nil, true_and, and_true, Int.toNat_natCast, List.append_nil, List.nil_append, List.cons_append, ldB b1, clB b1, ldBL b1, clBL b1]
  refine ValS.goL g8 hp (s26 (d := d + 1) hN g8.fresh x) fun h9 s9 ts9 ws9 g9 c9 hw9 ht9 => ?_
  have l9 := c9.le
  replace b1 := c9.box b1 (by omega)
  replace b4 := c9.box b4 (by omega)
  replace o2 := o2.from g8.fresh c9
  replace oa := oa.from g8.fresh c9
  rw [← ern]
  try simp (disch := first | assumption | omega | (simp only [Int.ofNat_eq_natCast, neg_one]; done) | (simp only [Int.ofNat_eq_natCast, neg_one]; omega)) only [tysW, w_bindJ, w_logJ, w_ct, w_cf, w_gtt, w_gft, w_gtf, w_gff, w_pt, w_pf, w_lret, w_e0, w_e1, w_e2, w_nil, w_fun, w_nt, w_nf, w_add, w_sub, w_eqt, w_eqf, w_net, w_nef, w_ltt, w_ltf, w_let, w_lef, w_gtt', w_gtf', w_get, w_gef, toNat_of, of_add, cast_add, nth_0, nth_s, Nat.zero_add, Nat.reduceAdd, Nat.reduceMul, Nat.add_zero, List.length_cons, List.length_nil, List.drop_zero, List.drop_succ_cons, List.take_succ_cons, List.take_zero, List.take_nil, true_and, and_true, Int.toNat_natCast, List.append_nil, List.nil_append, List.cons_append]
  unfold X4_1
  try simp (disch := first | assumption | omega | (simp only [Int.ofNat_eq_natCast, neg_one]; done) | (simp only [Int.ofNat_eq_natCast, neg_one]; omega)) only [tysW, w_bindJ, w_logJ, w_ct, w_cf, w_gtt, w_gft, w_gtf, w_gff, w_pt, w_pf, w_lret, w_e0, w_e1, w_e2, w_nil, w_fun, w_nt, w_nf, w_add, w_sub, w_eqt, w_eqf, w_net, w_nef, w_ltt, w_ltf, w_let, w_lef, w_gtt', w_gtf', w_get, w_gef, toNat_of, of_add, cast_add, nth_0, nth_s, Nat.zero_add, Nat.reduceAdd, Nat.reduceMul, Nat.add_zero, List.length_cons, List.length_nil, List.drop_zero, List.drop_succ_cons, List.take_succ_cons, List.take_zero, List.take_nil, true_and, and_true, Int.toNat_natCast, List.append_nil, List.nil_append, List.cons_append]
  rw [wp_guard, if_pos (by repeat' (first | exact dynOk_nil _ _ | refine dyn_skip' ?_ | refine dyn_cons ?_ ?_ | exact allF_nil _ _ | refine allF_cons ?_ ?_ | exact disj_below hw7 (by omega) | exact disjA hw7 (by omega) | exact disjB hw7 (by omega) | exact disjC hw7 (by assumption) | exact disjD (fun m hm => by have := hw7 m hm; omega) | exact disj_below ht7 (by omega) | exact disjA ht7 (by omega) | exact disjB ht7 (by omega) | exact disjC ht7 (by assumption) | exact disjD (fun m hm => by have := ht7 m hm; omega) | exact disj_below hw8 (by omega) | exact disjA hw8 (by omega) | exact disjB hw8 (by omega) | exact disjC hw8 (by assumption) | exact disjD (fun m hm => by have := hw8 m hm; omega) | exact disj_below ht8 (by omega) | exact disjA ht8 (by omega) | exact disjB ht8 (by omega) | exact disjC ht8 (by assumption) | exact disjD (fun m hm => by have := ht8 m hm; omega) | exact disj_below hw9 (by omega) | exact disjA hw9 (by omega) | exact disjB hw9 (by omega) | exact disjC hw9 (by assumption) | exact disjD (fun m hm => by have := hw9 m hm; omega) | exact disj_below ht9 (by omega) | exact disjA ht9 (by omega) | exact disjB ht9 (by omega) | exact disjC ht9 (by assumption) | exact disjD (fun m hm => by have := ht9 m hm; omega) | exact disjN _ | exact disj1 (by omega) | exact disj2 (by omega) | exact disj3 (by assumption) | exact disjC hw7 (fun m hm => by have := ht7 m hm; omega) | exact disjC hw7 (fun m hm => by have := hw8 m hm; omega) | exact disjC hw7 (fun m hm => by have := ht8 m hm; omega) | exact disjC hw7 (fun m hm => by have := hw9 m hm; omega) | exact disjC hw7 (fun m hm => by have := ht9 m hm; omega) | exact disjC ht7 (fun m hm => by have := hw7 m hm; omega) | exact disjC ht7 (fun m hm => by have := hw8 m hm; omega) | exact disjC ht7 (fun m hm => by have := ht8 m hm; omega) | exact disjC ht7 (fun m hm => by have := hw9 m hm; omega) | exact disjC ht7 (fun m hm => by have := ht9 m hm; omega) | exact disjC hw8 (fun m hm => by have := hw7 m hm; omega) | exact disjC hw8 (fun m hm => by have := ht7 m hm; omega) | exact disjC hw8 (fun m hm => by have := ht8 m hm; omega) | exact disjC hw8 (fun m hm => by have := hw9 m hm; omega) | exact disjC hw8 (fun m hm => by have := ht9 m hm; omega) | exact disjC ht8 (fun m hm => by have := hw7 m hm; omega) | exact disjC ht8 (fun m hm => by have := ht7 m hm; omega) | exact disjC ht8 (fun m hm => by have := hw8 m hm; omega) | exact disjC ht8 (fun m hm => by have := hw9 m hm; omega) | exact disjC ht8 (fun m hm => by have := ht9 m hm; omega) | exact disjC hw9 (fun m hm => by have := hw7 m hm; omega) | exact disjC hw9 (fun m hm => by have := ht7 m hm; omega) | exact disjC hw9 (fun m hm => by have := hw8 m hm; omega) | exact disjC hw9 (fun m hm => by have := ht8 m hm; omega) | exact disjC hw9 (fun m hm => by have := ht9 m hm; omega) | exact disjC ht9 (fun m hm => by have := hw7 m hm; omega) | exact disjC ht9 (fun m hm => by have := ht7 m hm; omega) | exact disjC ht9 (fun m hm => by have := hw8 m hm; omega) | exact disjC ht9 (fun m hm => by have := ht8 m hm; omega) | exact disjC ht9 (fun m hm => by have := hw9 m hm; omega)))]
  refine s27 (d := d + 11) (by omega) g9 hp (oa.less (by omega)) (by omega) fun h10 g10 e10 => ?_
  have na : pa ≠ none → s2 + 1 ≤ blk pa := fun hp => (oa.lt g9.fresh hp).1
  replace b1 := (e10 s fun hp => by have := na hp; omega).trans b1
  replace b4 := (e10 s2 fun hp => by have := na hp; omega).trans b4
  replace o2 := o2.but fun hp => e10 _ fun hpa => by have := na hpa; have := o2n hp; omega
  have r10 := g10.row hf r.row
  try simp (disch := first | assumption | omega | (simp only [Int.ofNat_eq_natCast, neg_one]; done) | (simp only [Int.ofNat_eq_natCast, neg_one]; omega)) only [tysW, w_bindJ, w_logJ, w_ct, w_cf, w_gtt, w_gft, w_gtf, w_gff, w_pt, w_pf, w_lret, w_e0, w_e1, w_e2, w_nil, w_fun, w_nt, w_nf, w_add, w_sub, w_eqt, w_eqf, w_net, w_nef, w_ltt, w_ltf, w_let, w_lef, w_gtt', w_gtf', w_get, w_gef, toNat_of, of_add, cast_add, nth_0, nth_s, Nat.zero_add, Nat.reduceAdd, Nat.reduceMul, Nat.add_zero, List.length_cons, List.length_nil, List.drop_zero, List.drop_succ_cons, List.take_succ_cons, List.take_zero, List.take_nil, true_and, and_true, Int.toNat_natCast, List.append_nil, List.nil_append, List.cons_append, ldB b1, clB b1, ldBL b1, clBL b1, ldB b4, clB b4, ldBL b4, clBL b4]
  refine ValS.go g10 hp (s28 (d := d + 10) (by omega) g10.fresh ⟨x.kind, x.sen, x.seq, x.time, p2, x.n, x.n⟩ x o2.sl.row r10 (by show x.n ≤ 1000; omega)) fun h11 s11 g11 c11 => ?_
  have hk := hk _ _ g11
  rw [show sameS ⟨x.kind, x.sen, x.seq, x.time, p2, x.n, x.n⟩ x dt dt = true by simp [sameS]]
  try simp (disch := first | assumption | omega | (simp only [Int.ofNat_eq_natCast, neg_one]; done) | (simp only [Int.ofNat_eq_natCast, neg_one]; omega)) only [tysW, w_bindJ, w_logJ, w_ct, w_cf, w_gtt, w_gft, w_gtf, w_gff, w_pt, w_pf, w_lret, w_e0, w_e1, w_e2, w_nil, w_fun, w_nt, w_nf, w_add, w_sub, w_eqt, w_eqf, w_net, w_nef, w_ltt, w_ltf, w_let, w_lef, w_gtt', w_gtf', w_get, w_gef, toNat_of, of_add, cast_add, nth_0, nth_s, Nat.zero_add, Nat.reduceAdd, Nat.reduceMul, Nat.add_zero, List.length_cons, List.length_nil, List.drop_zero, List.drop_succ_cons, List.take_succ_cons, List.take_zero, List.take_nil, true_and, and_true, Int.toNat_natCast, List.append_nil, List.nil_append, List.cons_append]
  rw [D_21]
  try simp (disch := first | assumption | omega | (simp only [Int.ofNat_eq_natCast, neg_one]; done) | (simp only [Int.ofNat_eq_natCast, neg_one]; omega)) only [tysW, w_bindJ, w_logJ, w_ct, w_cf, w_gtt, w_gft, w_gtf, w_gff, w_pt, w_pf, w_lret, w_e0, w_e1, w_e2, w_nil, w_fun, w_nt, w_nf, w_add, w_sub, w_eqt, w_eqf, w_net, w_nef, w_ltt, w_ltf, w_let, w_lef, w_gtt', w_gtf', w_get, w_gef, toNat_of, of_add, cast_add, nth_0, nth_s, Nat.zero_add, Nat.reduceAdd, Nat.reduceMul, Nat.add_zero, List.length_cons, List.length_nil, List.drop_zero, List.drop_succ_cons, List.take_succ_cons, List.take_zero, List.take_nil, true_and, and_true, Int.toNat_natCast, List.append_nil, List.nil_append, List.cons_append]
  exact hk
end
end Go.Ev.R

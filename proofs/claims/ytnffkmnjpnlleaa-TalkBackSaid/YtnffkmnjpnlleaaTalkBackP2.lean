/- The law TalkBack, part 2: what the functions answer, by their terms. No condition. -/
import Derived.Test.YtnffkmnjpnlleaaTalkBackP1
set_option linter.unusedVariables false
set_option linter.unusedSimpArgs false
set_option maxRecDepth 100000
namespace Go.Ev.R
open Go Go.RowKit
/-- A letter's bytes. -/
def letB (x : SV) (dt : List Int) (c : UInt8) : List Int := if c = 115 then be 1 x.sen else if c = 113 then be 4 x.seq else if c = 116 then be 8 x.time else lis dt
def encS (x : SV) (dt : List Int) : List Int := be 1 x.kind ++ (sayT x.kind).flatMap (letB x dt)
theorem say_mem {k : Int} {c : UInt8} (h : c ∈ sayT k) : c = 115 ∨ c = 113 ∨ c = 116 ∨ c = 100 := by
  unfold sayT at h
  split at h
  · simp at h; simp [h]
  split at h
  · simp at h; rcases h with h | h | h <;> simp [h]
  split at h
  · simp at h; rcases h with h | h | h <;> simp [h]
  split at h
  · simp at h; rcases h with h | h | h | h <;> simp [h]
  split at h
  · simp at h; rcases h with h | h | h | h <;> simp [h]
  split at h
  · simp at h; rcases h with h | h <;> simp [h]
  split at h
  · simp at h; simp [h]
  · cases h
theorem say_le (k : Int) : (sayT k).length ≤ 4 := by
  unfold sayT
  split
  · simp
  split
  · simp
  split
  · simp
  split
  · simp
  split
  · simp
  split
  · simp
  split
  · simp
  · simp
theorem take_next {α β : Type} {l : List α} {i : Nat} {x : α} (hx : l[i]? = some x) (f : α → List β) : (l.take (i + 1)).flatMap f = (l.take i).flatMap f ++ f x := by
  rw [List.take_add_one, hx, List.flatMap_append]; simp
theorem OwnG.ne {α : Type} {E : Enc α} {el : TypeId} {h : T} {s : Nat} {p : Option Addr} {len : Nat} {l : List α} (o : OwnG E el h s p len l) {it : Nat} {a : ByteArray} {b : Nat} (hb : h.get it = some (.stringIter a b)) : p ≠ none → blk p ≠ it := by
  intro hp e
  obtain ⟨hl, ⟨rfl, _⟩ | ⟨n, f, rfl, h1, hg, hff⟩⟩ := o
  · exact hp rfl
  · have e : n = it := e
    rw [e, hb] at hg; cases hg
theorem eqc32 (a b : Nat) (k : KV) (s : Nat) : eqX P 21 21 false true (.int .i32 (a : Int)) (.int .i32 (.ofNat b)) k s = k (.bool (a == b)) s := by
  rw [eq32]
  congr 2
  by_cases h : a = b
  · simp [h]
  · rw [decide_eq_false (by simp only [Int.ofNat_eq_natCast]; omega)]; simp [h]
/-- What holds of a saying that may be said. -/
theorem good {x : SV} (h : badS x = false) : (1 ≤ x.kind ∧ x.kind ≤ 7) ∧ (0 ≤ x.sen ∧ x.sen ≤ 255) ∧ (0 ≤ x.seq ∧ x.seq ≤ 2147483647) ∧ x.n ≤ 24 ∧ (x.kind = 6 ∨ x.kind = 7 → x.sen = 0) ∧ (x.kind = 1 → x.seq = 0) ∧ (x.kind = 1 ∨ x.kind = 7 → x.time = 0) ∧ (x.n = 0 ∨ x.kind = 4 ∨ x.kind = 5) := by
  unfold badS at h
  simp only [Bool.or_eq_false_iff, Bool.and_eq_false_imp, Bool.not_eq_true', Bool.not_eq_false', decide_eq_true_eq, decide_eq_false_iff_not] at h
  obtain ⟨h1, h2, h3, h4, h5, h6, h7, h8⟩ := h
  refine ⟨h1, h2, h3, by omega, fun k => Classical.byContradiction fun n => (h5 n) k, fun k => Classical.byContradiction fun n => (h6 n) k, fun k => Classical.byContradiction fun n => (h7 n) k, ?_⟩
  by_cases h9 : x.n = 0
  · exact .inl h9
  · exact .inr (h8 h9)
theorem rng9 (b : ByteArray) (k : KV) (s : Nat) : arangeOf P 9 (.string b) k s = anew (.stringIter b 0) (fun n => k (ptr n)) s := by kernel_rfl
section
variable {N d : Nat} (hN : N = 100000) {h : T} {s : Nat} (hf : ∀ n, s ≤ n → h.get n = none)
include hN hf
theorem s23 (x : SV) {dt : List Int} (r : Row EI h x.p x.n dt) : PureS (D N (d + 12)) 23 [.agg ⟨svv x⟩] h s (fun v h' s' => if badS x = true then v = .tuple ⟨[.slice none 0 0, vi 2]⟩ else ∃ p' len, v = .tuple ⟨[.slice p' len len, vi 0]⟩ ∧ OwnG EB 5 h' s p' len (encS x dt)) := by
  refine PureS.of hf fun K pw Z g hp hk => ?_
  rw [D_23]; unfold F23; rw [app1_eq]
  unfold X23_3
  refine wp_boxA g hp fun h1 g1 c1 b1 => ?_
  simp only [svv] at b1
  try simp (disch := first | assumption | omega | (simp only [Int.ofNat_eq_natCast, neg_one]; done) | (simp only [Int.ofNat_eq_natCast, neg_one]; omega)) only [tysW, w_bindJ, w_logJ, w_ct, w_cf, w_gtt, w_gft, w_gtf, w_gff, w_pt, w_pf, w_lret, w_e0, w_e1, w_e2, w_nil, w_fun, w_nt, w_nf, w_add, w_sub, w_eqt, w_eqf, w_net, w_nef, w_ltt, w_ltf, w_let, w_lef, w_gtt', w_gtf', w_get, w_gef, toNat_of, of_add, cast_add, nth_0, nth_s, Nat.zero_add, Nat.reduceAdd, Nat.reduceMul, Nat.add_zero, List.length_cons, List.length_nil, List.drop_zero, List.drop_succ_cons, List.take_succ_cons, List.take_zero, List.take_nil, true_and, and_true, Int.toNat_natCast, List.append_nil, List.nil_append, List.cons_append, ldB b1, clB b1, ldBL b1, clBL b1]
  refine ValS.go g1 hp (s25 (d := d) hN g1.fresh x) fun h2 s2 g2 c2 => ?_
  have l2 := c2.le
  replace b1 := c2.box b1 (by omega)
  cases hbad : badS x with
  | true =>
    try simp (disch := first | assumption | omega | (simp only [Int.ofNat_eq_natCast, neg_one]; done) | (simp only [Int.ofNat_eq_natCast, neg_one]; omega)) only [tysW, w_bindJ, w_logJ, w_ct, w_cf, w_gtt, w_gft, w_gtf, w_gff, w_pt, w_pf, w_lret, w_e0, w_e1, w_e2, w_nil, w_fun, w_nt, w_nf, w_add, w_sub, w_eqt, w_eqf, w_net, w_nef, w_ltt, w_ltf, w_let, w_lef, w_gtt', w_gtf', w_get, w_gef, toNat_of, of_add, cast_add, nth_0, nth_s, Nat.zero_add, Nat.reduceAdd, Nat.reduceMul, Nat.add_zero, List.length_cons, List.length_nil, List.drop_zero, List.drop_succ_cons, List.take_succ_cons, List.take_zero, List.take_nil, true_and, and_true, Int.toNat_natCast, List.append_nil, List.nil_append, List.cons_append, if_true]
    refine hk _ _ _ g2 ?_
    rw [if_pos hbad]; rfl
  | false =>
    obtain ⟨q1, q2, q3, q4, -⟩ := good hbad
    try simp (disch := first | assumption | omega | (simp only [Int.ofNat_eq_natCast, neg_one]; done) | (simp only [Int.ofNat_eq_natCast, neg_one]; omega)) only [tysW, w_bindJ, w_logJ, w_ct, w_cf, w_gtt, w_gft, w_gtf, w_gff, w_pt, w_pf, w_lret, w_e0, w_e1, w_e2, w_nil, w_fun, w_nt, w_nf, w_add, w_sub, w_eqt, w_eqf, w_net, w_nef, w_ltt, w_ltf, w_let, w_lef, w_gtt', w_gtf', w_get, w_gef, toNat_of, of_add, cast_add, nth_0, nth_s, Nat.zero_add, Nat.reduceAdd, Nat.reduceMul, Nat.add_zero, List.length_cons, List.length_nil, List.drop_zero, List.drop_succ_cons, List.take_succ_cons, List.take_zero, List.take_nil, true_and, and_true, Int.toNat_natCast, List.append_nil, List.nil_append, List.cons_append, Bool.false_eq_true, if_false]
    refine wp_boxA g2 hp fun h3 g3 c3 b3 => ?_
    replace b1 := c3.box b1 (by omega)
    try simp (disch := first | assumption | omega | (simp only [Int.ofNat_eq_natCast, neg_one]; done) | (simp only [Int.ofNat_eq_natCast, neg_one]; omega)) only [tysW, w_bindJ, w_logJ, w_ct, w_cf, w_gtt, w_gft, w_gtf, w_gff, w_pt, w_pf, w_lret, w_e0, w_e1, w_e2, w_nil, w_fun, w_nt, w_nf, w_add, w_sub, w_eqt, w_eqf, w_net, w_nef, w_ltt, w_ltf, w_let, w_lef, w_gtt', w_gtf', w_get, w_gef, toNat_of, of_add, cast_add, nth_0, nth_s, Nat.zero_add, Nat.reduceAdd, Nat.reduceMul, Nat.add_zero, List.length_cons, List.length_nil, List.drop_zero, List.drop_succ_cons, List.take_succ_cons, List.take_zero, List.take_nil, true_and, and_true, Int.toNat_natCast, List.append_nil, List.nil_append, List.cons_append, ldB b1, clB b1, ldBL b1, clBL b1]
    refine wp_newF g3 hp fun h4 g4 c4 b4 => ?_
    replace b1 := c4.box b1 (by omega)
    replace b3 := c4.box b3 (by omega)
    try simp (disch := first | assumption | omega | (simp only [Int.ofNat_eq_natCast, neg_one]; done) | (simp only [Int.ofNat_eq_natCast, neg_one]; omega)) only [tysW, w_bindJ, w_logJ, w_ct, w_cf, w_gtt, w_gft, w_gtf, w_gff, w_pt, w_pf, w_lret, w_e0, w_e1, w_e2, w_nil, w_fun, w_nt, w_nf, w_add, w_sub, w_eqt, w_eqf, w_net, w_nef, w_ltt, w_ltf, w_let, w_lef, w_gtt', w_gtf', w_get, w_gef, toNat_of, of_add, cast_add, nth_0, nth_s, Nat.zero_add, Nat.reduceAdd, Nat.reduceMul, Nat.add_zero, List.length_cons, List.length_nil, List.drop_zero, List.drop_succ_cons, List.take_succ_cons, List.take_zero, List.take_nil, true_and, and_true, Int.toNat_natCast, List.append_nil, List.nil_append, List.cons_append]
    refine s86 (w := 1) (d := d + 8) (by omega) g4 hp (wb := s2) (by omega) b3 (.nil _) (.inl rfl) (Row.of_cells (E := EI) (l := [x.kind]) b4 rfl) (by simp [fitsW]; omega) (by omega) fun p5 h5 s5 g5 l5 b5 o5 e5 => ?_
    replace b1 := (e5 s (by omega) (by omega)).trans b1
    try simp (disch := first | assumption | omega | (simp only [Int.ofNat_eq_natCast, neg_one]; done) | (simp only [Int.ofNat_eq_natCast, neg_one]; omega)) only [tysW, w_bindJ, w_logJ, w_ct, w_cf, w_gtt, w_gft, w_gtf, w_gff, w_pt, w_pf, w_lret, w_e0, w_e1, w_e2, w_nil, w_fun, w_nt, w_nf, w_add, w_sub, w_eqt, w_eqf, w_net, w_nef, w_ltt, w_ltf, w_let, w_lef, w_gtt', w_gtf', w_get, w_gef, toNat_of, of_add, cast_add, nth_0, nth_s, Nat.zero_add, Nat.reduceAdd, Nat.reduceMul, Nat.add_zero, List.length_cons, List.length_nil, List.drop_zero, List.drop_succ_cons, List.take_succ_cons, List.take_zero, List.take_nil, true_and, and_true, Int.toNat_natCast, List.append_nil, List.nil_append, List.cons_append]
    refine PureS.goL g5 hp (s87 (d := d + 10) g5.fresh) fun v h6 s6 ts6 ws6 g6 c6 hv hw6 ht6 => ?_
    obtain ⟨m, rfl, hm, bm⟩ := hv
    have l6 := c6.le
    replace b1 := c6.box b1 (by omega)
    replace b5 := c6.box b5 (by omega)
    replace o5 := o5.from g5.fresh c6
    try simp (disch := first | assumption | omega | (simp only [Int.ofNat_eq_natCast, neg_one]; done) | (simp only [Int.ofNat_eq_natCast, neg_one]; omega)) only [tysW, w_bindJ, w_logJ, w_ct, w_cf, w_gtt, w_gft, w_gtf, w_gff, w_pt, w_pf, w_lret, w_e0, w_e1, w_e2, w_nil, w_fun, w_nt, w_nf, w_add, w_sub, w_eqt, w_eqf, w_net, w_nef, w_ltt, w_ltf, w_let, w_lef, w_gtt', w_gtf', w_get, w_gef, toNat_of, of_add, cast_add, nth_0, nth_s, Nat.zero_add, Nat.reduceAdd, Nat.reduceMul, Nat.add_zero, List.length_cons, List.length_nil, List.drop_zero, List.drop_succ_cons, List.take_succ_cons, List.take_zero, List.take_nil, true_and, and_true, Int.toNat_natCast, List.append_nil, List.nil_append, List.cons_append, ldB b1, clB b1, ldBL b1, clBL b1]
    unfold X23_2
    refine log_wp (W := fun _ => False) (Q := fun v h' s' => v = txt (sayT x.kind) ∧ h' = h6 ∧ s' = s6) ?_ (fun n hn => hn.elim) ?_
    · rw [wp_say bm]
      exact ⟨_, _, rfl, rfl, rfl, rfl⟩
    rintro v h7 s7 ts7 ws7 ⟨rfl, rfl, rfl⟩ hw7 ht7
    replace hw7 : ∀ n ∈ ws7, s7 ≤ n ∧ n < s7 := fun n hn => (hw7 n hn).1.elim
    replace ht7 : ∀ n ∈ ts7, n < s7 := fun n hn => lt_of_some g6.fresh (ht7 n hn)
    try simp (disch := first | assumption | omega | (simp only [Int.ofNat_eq_natCast, neg_one]; done) | (simp only [Int.ofNat_eq_natCast, neg_one]; omega)) only [tysW, w_bindJ, w_logJ, w_ct, w_cf, w_gtt, w_gft, w_gtf, w_gff, w_pt, w_pf, w_lret, w_e0, w_e1, w_e2, w_nil, w_fun, w_nt, w_nf, w_add, w_sub, w_eqt, w_eqf, w_net, w_nef, w_ltt, w_ltf, w_let, w_lef, w_gtt', w_gtf', w_get, w_gef, toNat_of, of_add, cast_add, nth_0, nth_s, Nat.zero_add, Nat.reduceAdd, Nat.reduceMul, Nat.add_zero, List.length_cons, List.length_nil, List.drop_zero, List.drop_succ_cons, List.take_succ_cons, List.take_zero, List.take_nil, true_and, and_true, Int.toNat_natCast, List.append_nil, List.nil_append, List.cons_append, rng9]
    refine wp_newL (q := fun b => ptr b) g6 hp fun h8 g8 c8 b8 => ?_
    replace b1 := c8.box b1 (by omega)
    replace b5 := c8.box b5 (by omega)
    replace o5 := (o5.from g6.fresh c8).less (show s2 + 1 ≤ s2 + 1 + 1 by omega)
    rw [List.nil_append] at o5
    simp only [Nat.zero_add] at b5 o5
    rw [wp_guard, if_pos (by repeat' (first | exact dynOk_nil _ _ | refine dyn_skip' ?_ | refine dyn_cons ?_ ?_ | exact allF_nil _ _ | refine allF_cons ?_ ?_ | exact disj_below hw6 (by omega) | exact disjA hw6 (by omega) | exact disjB hw6 (by omega) | exact disjC hw6 (by assumption) | exact disjD (fun m hm => by have := hw6 m hm; omega) | exact disj_below ht6 (by omega) | exact disjA ht6 (by omega) | exact disjB ht6 (by omega) | exact disjC ht6 (by assumption) | exact disjD (fun m hm => by have := ht6 m hm; omega) | exact disj_below hw7 (by omega) | exact disjA hw7 (by omega) | exact disjB hw7 (by omega) | exact disjC hw7 (by assumption) | exact disjD (fun m hm => by have := hw7 m hm; omega) | exact disj_below ht7 (by omega) | exact disjA ht7 (by omega) | exact disjB ht7 (by omega) | exact disjC ht7 (by assumption) | exact disjD (fun m hm => by have := ht7 m hm; omega) | exact disjN _ | exact disj1 (by omega) | exact disj2 (by omega) | exact disj3 (by assumption) | exact disjC hw6 (fun m hm => by have := ht6 m hm; omega) | exact disjC hw6 (fun m hm => by have := hw7 m hm; omega) | exact disjC hw6 (fun m hm => by have := ht7 m hm; omega) | exact disjC ht6 (fun m hm => by have := hw6 m hm; omega) | exact disjC ht6 (fun m hm => by have := hw7 m hm; omega) | exact disjC ht6 (fun m hm => by have := ht7 m hm; omega) | exact disjC hw7 (fun m hm => by have := hw6 m hm; omega) | exact disjC hw7 (fun m hm => by have := ht6 m hm; omega) | exact disjC hw7 (fun m hm => by have := ht7 m hm; omega) | exact disjC ht7 (fun m hm => by have := hw6 m hm; omega) | exact disjC ht7 (fun m hm => by have := ht6 m hm; omega) | exact disjC ht7 (fun m hm => by have := hw7 m hm; omega)))]
    have loop : ∀ (J : Nat → AM) (hJ : ∀ s', J s' = fa 111 (ptr s2) 0 (fun v11 s => fa 109 v11 0 (fun v12 s => ld 25 v12 (fun v13 s => K (.tuple ⟨[v13, i64 0]⟩) s) s) s) s') (B : (Nat → AM) → Nat → AM) (hB : ∀ H s', B H s' = X23_1 N (D N (d + 11)) K (ptr s7) (ptr s) (ptr s2) J H s') (n i : Nat) (p1 : Option Addr) (len1 : Nat) (h1 : T) (s1 : Nat), (sayT x.kind).length - i < n → i ≤ (sayT x.kind).length → From s h h1 s1 → s7 + 1 ≤ s1 → h1.get s = some (.cells ⟨[vi x.kind, vi x.sen, vi x.seq, vi x.time, .slice x.p x.n x.c]⟩ 33 (0, 0)) → h1.get s2 = some (.cells ⟨[.slice p1 len1 len1, .bool false]⟩ 111 (0, 0)) → OwnG EB 5 h1 (s2 + 1) p1 len1 (be 1 x.kind ++ ((sayT x.kind).take i).flatMap (letB x dt)) → h1.get s7 = some (.stringIter ⟨⟨sayT x.kind⟩⟩ i) → len1 ≤ 1 + 200 * i →
        (loopJ n 0 (fun _ => AM.fail) B s1).wp pw Z h1 := by
      intro J hJ B hB n
      induction n with
      | zero => intro i p1 len1 h1 s1 hn; omega
      | succ n ih =>
        intro i p1 len1 h1 s1 hn hi g1 hs1 b1 bw o1 bi hl1
        have hle := say_le x.kind
        rw [loopJ_succ, hB]
        unfold X23_1
        by_cases hlt : i < (sayT x.kind).length
        · obtain ⟨c, hc⟩ := get_some (l := sayT x.kind) (i := i) hlt
          have hcm := say_mem (List.mem_of_getElem? hc)
          refine wp_next g1 hp bi (by omega) hc (by rcases hcm with rfl | rfl | rfl | rfl <;> decide) fun h2 g2 bi2 e2 => ?_
          replace b1 := (e2 s (by omega)).trans b1
          replace bw := (e2 s2 (by omega)).trans bw
          replace o1 := o1.but fun hp => e2 _ (o1.ne bi hp)
          have step : ∀ (w : Nat) (n1 : Int) (h3 : T) (s3 : Nat) (q : Option Addr), isW w → letB x dt c = be w n1 → fitsW w n1 = true → From s h h3 s3 → From s1 h2 h3 s3 → Row EI h3 q 1 [n1] → (D N (d + 11) 86 [ptr s2, vi w, .slice q 1 1] (fun _ s => loopJ n 0 (fun _ => AM.fail) B s) s3).wp pw Z h3 := by
            intro w n1 h3 s3 q hw he hfit g3 c3 r3
            have l3 := c3.le
            have hw8 : w ≤ 8 := by rcases hw with rfl | rfl | rfl | rfl <;> omega
            refine s86 (d := d + 8) (by omega) g3 hp (wb := s2) (by omega) (c3.box bw (by omega)) (o1.from g2.fresh c3).sl hw r3 hfit (by omega) fun p4 h4 s4 g4 l4 b4 o4 e4 => ?_
            refine ih (i + 1) p4 (len1 + w) h4 s4 (by omega) (by omega) g4 (by omega) ((e4 s (by omega) (by omega)).trans (c3.box b1 (by omega))) b4 ?_ ((e4 s7 (by omega) (by omega)).trans (c3.box bi2 (by omega))) (by omega)
            rw [take_next hc, ← List.append_assoc, he]
            exact o4.less (by omega)
          rcases hcm with rfl | rfl | rfl | rfl
          · try simp (disch := first | assumption | omega | (simp only [Int.ofNat_eq_natCast, neg_one]; done) | (simp only [Int.ofNat_eq_natCast, neg_one]; omega)) only [tysW, w_bindJ, w_logJ, w_ct, w_cf, w_gtt, w_gft, w_gtf, w_gff, w_pt, w_pf, w_lret, w_e0, w_e1, w_e2, w_nil, w_fun, w_nt, w_nf, w_add, w_sub, w_eqt, w_eqf, w_net, w_nef, w_ltt, w_ltf, w_let, w_lef, w_gtt', w_gtf', w_get, w_gef, toNat_of, of_add, cast_add, nth_0, nth_s, Nat.zero_add, Nat.reduceAdd, Nat.reduceMul, Nat.add_zero, List.length_cons, List.length_nil, List.drop_zero, List.drop_succ_cons, List.take_succ_cons, List.take_zero, List.take_nil, true_and, and_true, Int.toNat_natCast, List.append_nil, List.nil_append, List.cons_append, ldB b1, clB b1, ldBL b1, clBL b1, eqc32, UInt8.reduceToNat, Nat.reduceBEq]
            refine wp_newF g2 hp fun h3 g3 c3 b3 => ?_
            try simp (disch := first | assumption | omega | (simp only [Int.ofNat_eq_natCast, neg_one]; done) | (simp only [Int.ofNat_eq_natCast, neg_one]; omega)) only [tysW, w_bindJ, w_logJ, w_ct, w_cf, w_gtt, w_gft, w_gtf, w_gff, w_pt, w_pf, w_lret, w_e0, w_e1, w_e2, w_nil, w_fun, w_nt, w_nf, w_add, w_sub, w_eqt, w_eqf, w_net, w_nef, w_ltt, w_ltf, w_let, w_lef, w_gtt', w_gtf', w_get, w_gef, toNat_of, of_add, cast_add, nth_0, nth_s, Nat.zero_add, Nat.reduceAdd, Nat.reduceMul, Nat.add_zero, List.length_cons, List.length_nil, List.drop_zero, List.drop_succ_cons, List.take_succ_cons, List.take_zero, List.take_nil, true_and, and_true, Int.toNat_natCast, List.append_nil, List.nil_append, List.cons_append]
            exact step 1 x.sen h3 _ _ (.inl rfl) rfl (by simp [fitsW]; omega) g3 c3 (Row.of_cells (E := EI) (l := [x.sen]) b3 rfl)
          · try simp (disch := first | assumption | omega | (simp only [Int.ofNat_eq_natCast, neg_one]; done) | (simp only [Int.ofNat_eq_natCast, neg_one]; omega)) only [tysW, w_bindJ, w_logJ, w_ct, w_cf, w_gtt, w_gft, w_gtf, w_gff, w_pt, w_pf, w_lret, w_e0, w_e1, w_e2, w_nil, w_fun, w_nt, w_nf, w_add, w_sub, w_eqt, w_eqf, w_net, w_nef, w_ltt, w_ltf, w_let, w_lef, w_gtt', w_gtf', w_get, w_gef, toNat_of, of_add, cast_add, nth_0, nth_s, Nat.zero_add, Nat.reduceAdd, Nat.reduceMul, Nat.add_zero, List.length_cons, List.length_nil, List.drop_zero, List.drop_succ_cons, List.take_succ_cons, List.take_zero, List.take_nil, true_and, and_true, Int.toNat_natCast, List.append_nil, List.nil_append, List.cons_append, ldB b1, clB b1, ldBL b1, clBL b1, eqc32, UInt8.reduceToNat, Nat.reduceBEq]
            refine wp_newF g2 hp fun h3 g3 c3 b3 => ?_
            try simp (disch := first | assumption | omega | (simp only [Int.ofNat_eq_natCast, neg_one]; done) | (simp only [Int.ofNat_eq_natCast, neg_one]; omega)) only [tysW, w_bindJ, w_logJ, w_ct, w_cf, w_gtt, w_gft, w_gtf, w_gff, w_pt, w_pf, w_lret, w_e0, w_e1, w_e2, w_nil, w_fun, w_nt, w_nf, w_add, w_sub, w_eqt, w_eqf, w_net, w_nef, w_ltt, w_ltf, w_let, w_lef, w_gtt', w_gtf', w_get, w_gef, toNat_of, of_add, cast_add, nth_0, nth_s, Nat.zero_add, Nat.reduceAdd, Nat.reduceMul, Nat.add_zero, List.length_cons, List.length_nil, List.drop_zero, List.drop_succ_cons, List.take_succ_cons, List.take_zero, List.take_nil, true_and, and_true, Int.toNat_natCast, List.append_nil, List.nil_append, List.cons_append]
            exact step 4 x.seq h3 _ _ (.inr (.inr (.inl rfl))) rfl (by simp [fitsW]; omega) g3 c3 (Row.of_cells (E := EI) (l := [x.seq]) b3 rfl)
          · try simp (disch := first | assumption | omega | (simp only [Int.ofNat_eq_natCast, neg_one]; done) | (simp only [Int.ofNat_eq_natCast, neg_one]; omega)) only [tysW, w_bindJ, w_logJ, w_ct, w_cf, w_gtt, w_gft, w_gtf, w_gff, w_pt, w_pf, w_lret, w_e0, w_e1, w_e2, w_nil, w_fun, w_nt, w_nf, w_add, w_sub, w_eqt, w_eqf, w_net, w_nef, w_ltt, w_ltf, w_let, w_lef, w_gtt', w_gtf', w_get, w_gef, toNat_of, of_add, cast_add, nth_0, nth_s, Nat.zero_add, Nat.reduceAdd, Nat.reduceMul, Nat.add_zero, List.length_cons, List.length_nil, List.drop_zero, List.drop_succ_cons, List.take_succ_cons, List.take_zero, List.take_nil, true_and, and_true, Int.toNat_natCast, List.append_nil, List.nil_append, List.cons_append, ldB b1, clB b1, ldBL b1, clBL b1, eqc32, UInt8.reduceToNat, Nat.reduceBEq]
            refine wp_newF g2 hp fun h3 g3 c3 b3 => ?_
            try simp (disch := first | assumption | omega | (simp only [Int.ofNat_eq_natCast, neg_one]; done) | (simp only [Int.ofNat_eq_natCast, neg_one]; omega)) only [tysW, w_bindJ, w_logJ, w_ct, w_cf, w_gtt, w_gft, w_gtf, w_gff, w_pt, w_pf, w_lret, w_e0, w_e1, w_e2, w_nil, w_fun, w_nt, w_nf, w_add, w_sub, w_eqt, w_eqf, w_net, w_nef, w_ltt, w_ltf, w_let, w_lef, w_gtt', w_gtf', w_get, w_gef, toNat_of, of_add, cast_add, nth_0, nth_s, Nat.zero_add, Nat.reduceAdd, Nat.reduceMul, Nat.add_zero, List.length_cons, List.length_nil, List.drop_zero, List.drop_succ_cons, List.take_succ_cons, List.take_zero, List.take_nil, true_and, and_true, Int.toNat_natCast, List.append_nil, List.nil_append, List.cons_append]
            exact step 8 x.time h3 _ _ (.inr (.inr (.inr rfl))) rfl (by simp [fitsW]) g3 c3 (Row.of_cells (E := EI) (l := [x.time]) b3 rfl)
          · try simp (disch := first | assumption | omega | (simp only [Int.ofNat_eq_natCast, neg_one]; done) | (simp only [Int.ofNat_eq_natCast, neg_one]; omega)) only [tysW, w_bindJ, w_logJ, w_ct, w_cf, w_gtt, w_gft, w_gtf, w_gff, w_pt, w_pf, w_lret, w_e0, w_e1, w_e2, w_nil, w_fun, w_nt, w_nf, w_add, w_sub, w_eqt, w_eqf, w_net, w_nef, w_ltt, w_ltf, w_let, w_lef, w_gtt', w_gtf', w_get, w_gef, toNat_of, of_add, cast_add, nth_0, nth_s, Nat.zero_add, Nat.reduceAdd, Nat.reduceMul, Nat.add_zero, List.length_cons, List.length_nil, List.drop_zero, List.drop_succ_cons, List.take_succ_cons, List.take_zero, List.take_nil, true_and, and_true, Int.toNat_natCast, List.append_nil, List.nil_append, List.cons_append, ldB b1, clB b1, ldBL b1, clBL b1, eqc32, UInt8.reduceToNat, Nat.reduceBEq]
            refine s88 (d := d + 7) (by omega) g2 hp (wb := s2) (by omega) bw o1.sl (g2.row hf r) q4 (by omega) fun p4 h4 s4 g4 l4 b4 o4 e4 => ?_
            refine ih (i + 1) p4 _ h4 s4 (by omega) (by omega) g4 (by omega) ((e4 s (by omega) (by omega)).trans b1) b4 ?_ ((e4 s7 (by omega) (by omega)).trans bi2) (by omega)
            rw [take_next hc, ← List.append_assoc]
            exact o4.less (by omega)
        · obtain rfl : i = (sayT x.kind).length := by omega
          rw [wp_last bi]
          try simp (disch := first | assumption | omega | (simp only [Int.ofNat_eq_natCast, neg_one]; done) | (simp only [Int.ofNat_eq_natCast, neg_one]; omega)) only [tysW, w_bindJ, w_logJ, w_ct, w_cf, w_gtt, w_gft, w_gtf, w_gff, w_pt, w_pf, w_lret, w_e0, w_e1, w_e2, w_nil, w_fun, w_nt, w_nf, w_add, w_sub, w_eqt, w_eqf, w_net, w_nef, w_ltt, w_ltf, w_let, w_lef, w_gtt', w_gtf', w_get, w_gef, toNat_of, of_add, cast_add, nth_0, nth_s, Nat.zero_add, Nat.reduceAdd, Nat.reduceMul, Nat.add_zero, List.length_cons, List.length_nil, List.drop_zero, List.drop_succ_cons, List.take_succ_cons, List.take_zero, List.take_nil, true_and, and_true, Int.toNat_natCast, List.append_nil, List.nil_append, List.cons_append]
          rw [hJ]
          try simp (disch := first | assumption | omega | (simp only [Int.ofNat_eq_natCast, neg_one]; done) | (simp only [Int.ofNat_eq_natCast, neg_one]; omega)) only [tysW, w_bindJ, w_logJ, w_ct, w_cf, w_gtt, w_gft, w_gtf, w_gff, w_pt, w_pf, w_lret, w_e0, w_e1, w_e2, w_nil, w_fun, w_nt, w_nf, w_add, w_sub, w_eqt, w_eqf, w_net, w_nef, w_ltt, w_ltf, w_let, w_lef, w_gtt', w_gtf', w_get, w_gef, toNat_of, of_add, cast_add, nth_0, nth_s, Nat.zero_add, Nat.reduceAdd, Nat.reduceMul, Nat.add_zero, List.length_cons, List.length_nil, List.drop_zero, List.drop_succ_cons, List.take_succ_cons, List.take_zero, List.take_nil, true_and, and_true, Int.toNat_natCast, List.append_nil, List.nil_append, List.cons_append, ldB bw, clB bw, ldBL bw, clBL bw]
          refine hk _ _ _ g1 ?_
          rw [if_neg (by simp [hbad])]
          refine ⟨p1, len1, rfl, ?_⟩
          rw [List.take_of_length_le (Nat.le_refl _)] at o1
          exact o1.less (by omega)
    have hle := say_le x.kind
    exact loop _ (fun _ => rfl) _ (fun _ _ => rfl) N 0 p5 1 h8 (s7 + 1) (by omega) (by omega) g8 (Nat.le_refl _) b1 b5 (by simpa using o5) b8 (by omega)
end
end Go.Ev.R
namespace Go.Ev.R
open Go Go.RowKit
theorem ix_s_0 (k : KV) (s : Nat) : indexX P 9 (str [115]) (vi 0) k s = k (u8 115) s := by kernel_rfl
theorem ix_sqt_0 (k : KV) (s : Nat) : indexX P 9 (str [115, 113, 116]) (vi 0) k s = k (u8 115) s := by kernel_rfl
theorem ix_sqt_1 (k : KV) (s : Nat) : indexX P 9 (str [115, 113, 116]) (vi 1) k s = k (u8 113) s := by kernel_rfl
theorem ix_sqt_2 (k : KV) (s : Nat) : indexX P 9 (str [115, 113, 116]) (vi 2) k s = k (u8 116) s := by kernel_rfl
theorem ix_sqtd_0 (k : KV) (s : Nat) : indexX P 9 (str [115, 113, 116, 100]) (vi 0) k s = k (u8 115) s := by kernel_rfl
theorem ix_sqtd_1 (k : KV) (s : Nat) : indexX P 9 (str [115, 113, 116, 100]) (vi 1) k s = k (u8 113) s := by kernel_rfl
theorem ix_sqtd_2 (k : KV) (s : Nat) : indexX P 9 (str [115, 113, 116, 100]) (vi 2) k s = k (u8 116) s := by kernel_rfl
theorem ix_sqtd_3 (k : KV) (s : Nat) : indexX P 9 (str [115, 113, 116, 100]) (vi 3) k s = k (u8 100) s := by kernel_rfl
theorem ix_qt_0 (k : KV) (s : Nat) : indexX P 9 (str [113, 116]) (vi 0) k s = k (u8 113) s := by kernel_rfl
theorem ix_qt_1 (k : KV) (s : Nat) : indexX P 9 (str [113, 116]) (vi 1) k s = k (u8 116) s := by kernel_rfl
theorem ix_q_0 (k : KV) (s : Nat) : indexX P 9 (str [113]) (vi 0) k s = k (u8 113) s := by kernel_rfl
theorem len_say (n : Int) (k : KV) (s : Nat) : lenX P ⟨[9]⟩ (str (sayT n)) k s = k (vi (sayT n).length) s := ln_9 _ k s
theorem ix_say {n : Int} (hn : 1 ≤ n ∧ n ≤ 7) {i : Nat} {c : UInt8} (hc : (sayT n)[i]? = some c) (k : KV) (s : Nat) : indexX P 9 (str (sayT n)) (vi i) k s = k (u8 c.toNat) s := by
  have hl := (List.getElem?_eq_some_iff.1 hc).1
  rcases kinds hn with rfl | rfl | rfl | rfl | rfl | rfl | rfl
  · have hs : (⟨[115]⟩ : Array UInt8).size = 1 := rfl
    have hl : i < 1 := hl
    have : i = 0 := by omega
    subst this
    · obtain rfl : 115 = c := Option.some.inj hc
      exact ix_s_0 k s
  · have hs : (⟨[115, 113, 116]⟩ : Array UInt8).size = 3 := rfl
    have hl : i < 3 := hl
    have : i = 0 ∨ i = 1 ∨ i = 2 := by omega
    rcases this with rfl | rfl | rfl
    · obtain rfl : 115 = c := Option.some.inj hc
      exact ix_sqt_0 k s
    · obtain rfl : 113 = c := Option.some.inj hc
      exact ix_sqt_1 k s
    · obtain rfl : 116 = c := Option.some.inj hc
      exact ix_sqt_2 k s
  · have hs : (⟨[115, 113, 116]⟩ : Array UInt8).size = 3 := rfl
    have hl : i < 3 := hl
    have : i = 0 ∨ i = 1 ∨ i = 2 := by omega
    rcases this with rfl | rfl | rfl
    · obtain rfl : 115 = c := Option.some.inj hc
      exact ix_sqt_0 k s
    · obtain rfl : 113 = c := Option.some.inj hc
      exact ix_sqt_1 k s
    · obtain rfl : 116 = c := Option.some.inj hc
      exact ix_sqt_2 k s
  · have hs : (⟨[115, 113, 116, 100]⟩ : Array UInt8).size = 4 := rfl
    have hl : i < 4 := hl
    have : i = 0 ∨ i = 1 ∨ i = 2 ∨ i = 3 := by omega
    rcases this with rfl | rfl | rfl | rfl
    · obtain rfl : 115 = c := Option.some.inj hc
      exact ix_sqtd_0 k s
    · obtain rfl : 113 = c := Option.some.inj hc
      exact ix_sqtd_1 k s
    · obtain rfl : 116 = c := Option.some.inj hc
      exact ix_sqtd_2 k s
    · obtain rfl : 100 = c := Option.some.inj hc
      exact ix_sqtd_3 k s
  · have hs : (⟨[115, 113, 116, 100]⟩ : Array UInt8).size = 4 := rfl
    have hl : i < 4 := hl
    have : i = 0 ∨ i = 1 ∨ i = 2 ∨ i = 3 := by omega
    rcases this with rfl | rfl | rfl | rfl
    · obtain rfl : 115 = c := Option.some.inj hc
      exact ix_sqtd_0 k s
    · obtain rfl : 113 = c := Option.some.inj hc
      exact ix_sqtd_1 k s
    · obtain rfl : 116 = c := Option.some.inj hc
      exact ix_sqtd_2 k s
    · obtain rfl : 100 = c := Option.some.inj hc
      exact ix_sqtd_3 k s
  · have hs : (⟨[113, 116]⟩ : Array UInt8).size = 2 := rfl
    have hl : i < 2 := hl
    have : i = 0 ∨ i = 1 := by omega
    rcases this with rfl | rfl
    · obtain rfl : 113 = c := Option.some.inj hc
      exact ix_qt_0 k s
    · obtain rfl : 116 = c := Option.some.inj hc
      exact ix_qt_1 k s
  · have hs : (⟨[113]⟩ : Array UInt8).size = 1 := rfl
    have hl : i < 1 := hl
    have : i = 0 := by omega
    subst this
    · obtain rfl : 113 = c := Option.some.inj hc
      exact ix_q_0 k s
theorem eqc8 (a b : Nat) (k : KV) (s : Nat) : eqX P 5 5 false true (u8 (a : Int)) (.int .u8 (.ofNat b)) k s = k (.bool (a == b)) s := by
  rw [show Int.ofNat b = (b : Int) from rfl]
  have := eq8 a b k s
  rw [this]
  congr 2
  by_cases h : a = b
  · simp [h]
  · rw [decide_eq_false (by omega)]; simp [h]
section
variable {N d : Nat} (hN : N = 100000) {h : T} {s : Nat} (hf : ∀ n, s ≤ n → h.get n = none)
include hN hf
theorem s24 (x : SV) {dt : List Int} (r : Row EI h x.p x.n dt) : PureS (D N (d + 12)) 24 [.agg ⟨svv x⟩] h s (fun v h' s' => if badS x = true then v = .tuple ⟨[.slice none 0 0, vi 2]⟩ else ∃ p' len, v = .tuple ⟨[.slice p' len len, vi 0]⟩ ∧ OwnG EB 5 h' s p' len (encS x dt)) := by
  refine PureS.of hf fun K pw Z g hp hk => ?_
  rw [D_24]; unfold F24; rw [app1_eq]
  refine wp_boxA g hp fun h1 g1 c1 b1 => ?_
  simp only [svv] at b1
  try simp (disch := first | assumption | omega | (simp only [Int.ofNat_eq_natCast, neg_one]; done) | (simp only [Int.ofNat_eq_natCast, neg_one]; omega)) only [tysW, w_bindJ, w_logJ, w_ct, w_cf, w_gtt, w_gft, w_gtf, w_gff, w_pt, w_pf, w_lret, w_e0, w_e1, w_e2, w_nil, w_fun, w_nt, w_nf, w_add, w_sub, w_eqt, w_eqf, w_net, w_nef, w_ltt, w_ltf, w_let, w_lef, w_gtt', w_gtf', w_get, w_gef, toNat_of, of_add, cast_add, nth_0, nth_s, Nat.zero_add, Nat.reduceAdd, Nat.reduceMul, Nat.add_zero, List.length_cons, List.length_nil, List.drop_zero, List.drop_succ_cons, List.take_succ_cons, List.take_zero, List.take_nil, true_and, and_true, Int.toNat_natCast, List.append_nil, List.nil_append, List.cons_append, ldB b1, clB b1, ldBL b1, clBL b1]
  refine ValS.go g1 hp (s26 (d := d) hN g1.fresh x) fun h2 s2 g2 c2 => ?_
  have l2 := c2.le
  replace b1 := c2.box b1 (by omega)
  cases hbad : badS x with
  | true =>
    try simp (disch := first | assumption | omega | (simp only [Int.ofNat_eq_natCast, neg_one]; done) | (simp only [Int.ofNat_eq_natCast, neg_one]; omega)) only [tysW, w_bindJ, w_logJ, w_ct, w_cf, w_gtt, w_gft, w_gtf, w_gff, w_pt, w_pf, w_lret, w_e0, w_e1, w_e2, w_nil, w_fun, w_nt, w_nf, w_add, w_sub, w_eqt, w_eqf, w_net, w_nef, w_ltt, w_ltf, w_let, w_lef, w_gtt', w_gtf', w_get, w_gef, toNat_of, of_add, cast_add, nth_0, nth_s, Nat.zero_add, Nat.reduceAdd, Nat.reduceMul, Nat.add_zero, List.length_cons, List.length_nil, List.drop_zero, List.drop_succ_cons, List.take_succ_cons, List.take_zero, List.take_nil, true_and, and_true, Int.toNat_natCast, List.append_nil, List.nil_append, List.cons_append, if_true]
    refine hk _ _ _ g2 ?_
    rw [if_pos hbad]; rfl
  | false =>
    obtain ⟨q1, q2, q3, q4, -⟩ := good hbad
    try simp (disch := first | assumption | omega | (simp only [Int.ofNat_eq_natCast, neg_one]; done) | (simp only [Int.ofNat_eq_natCast, neg_one]; omega)) only [tysW, w_bindJ, w_logJ, w_ct, w_cf, w_gtt, w_gft, w_gtf, w_gff, w_pt, w_pf, w_lret, w_e0, w_e1, w_e2, w_nil, w_fun, w_nt, w_nf, w_add, w_sub, w_eqt, w_eqf, w_net, w_nef, w_ltt, w_ltf, w_let, w_lef, w_gtt', w_gtf', w_get, w_gef, toNat_of, of_add, cast_add, nth_0, nth_s, Nat.zero_add, Nat.reduceAdd, Nat.reduceMul, Nat.add_zero, List.length_cons, List.length_nil, List.drop_zero, List.drop_succ_cons, List.take_succ_cons, List.take_zero, List.take_nil, true_and, and_true, Int.toNat_natCast, List.append_nil, List.nil_append, List.cons_append, ldB b1, clB b1, ldBL b1, clBL b1, Bool.false_eq_true, if_false]
    refine PureS.go g2 hp (s89 (w := 1) (d := d + 8) (by omega) g2.fresh (.inl rfl) (.nil _) (by omega) x.kind (by simp [fitsW]; omega)) fun v h3 s3 g3 c3 hv => ?_
    obtain ⟨p3, rfl, o3⟩ := hv
    have l3 := c3.le
    replace b1 := c3.box b1 (by omega)
    try simp (disch := first | assumption | omega | (simp only [Int.ofNat_eq_natCast, neg_one]; done) | (simp only [Int.ofNat_eq_natCast, neg_one]; omega)) only [tysW, w_bindJ, w_logJ, w_ct, w_cf, w_gtt, w_gft, w_gtf, w_gff, w_pt, w_pf, w_lret, w_e0, w_e1, w_e2, w_nil, w_fun, w_nt, w_nf, w_add, w_sub, w_eqt, w_eqf, w_net, w_nef, w_ltt, w_ltf, w_let, w_lef, w_gtt', w_gtf', w_get, w_gef, toNat_of, of_add, cast_add, nth_0, nth_s, Nat.zero_add, Nat.reduceAdd, Nat.reduceMul, Nat.add_zero, List.length_cons, List.length_nil, List.drop_zero, List.drop_succ_cons, List.take_succ_cons, List.take_zero, List.take_nil, true_and, and_true, Int.toNat_natCast, List.append_nil, List.nil_append, List.cons_append, ldB b1, clB b1, ldBL b1, clBL b1]
    refine ValS.go g3 hp (s90 (d := d + 10) g3.fresh x.kind) fun h4 s4 g4 c4 => ?_
    replace b1 := c4.box b1 (by omega)
    have l4 := c4.le
    rw [List.nil_append] at o3
    replace o3 := (o3.from g3.fresh c4).less (show s ≤ s2 by omega)
    simp only [Nat.zero_add] at o3
    try simp (disch := first | assumption | omega | (simp only [Int.ofNat_eq_natCast, neg_one]; done) | (simp only [Int.ofNat_eq_natCast, neg_one]; omega)) only [tysW, w_bindJ, w_logJ, w_ct, w_cf, w_gtt, w_gft, w_gtf, w_gff, w_pt, w_pf, w_lret, w_e0, w_e1, w_e2, w_nil, w_fun, w_nt, w_nf, w_add, w_sub, w_eqt, w_eqf, w_net, w_nef, w_ltt, w_ltf, w_let, w_lef, w_gtt', w_gtf', w_get, w_gef, toNat_of, of_add, cast_add, nth_0, nth_s, Nat.zero_add, Nat.reduceAdd, Nat.reduceMul, Nat.add_zero, List.length_cons, List.length_nil, List.drop_zero, List.drop_succ_cons, List.take_succ_cons, List.take_zero, List.take_nil, true_and, and_true, Int.toNat_natCast, List.append_nil, List.nil_append, List.cons_append]
    have loop : ∀ (J : Value → Nat → AM) (hJ : ∀ v s', J v s' = K (.tuple ⟨[v, i64 0]⟩) s') (B : (Value → Value → Nat → AM) → Value → Value → Nat → AM) (hB : ∀ H u v s', B H u v s' = X24_1 N (D N (d + 11)) K (str (sayT x.kind)) (ptr s) J H u v s') (n i : Nat) (p1 : Option Addr) (len1 : Nat) (h1 : T) (s1 : Nat), (sayT x.kind).length - i < n → i ≤ (sayT x.kind).length → From s h h1 s1 → s + 1 ≤ s1 → h1.get s = some (.cells ⟨[vi x.kind, vi x.sen, vi x.seq, vi x.time, .slice x.p x.n x.c]⟩ 33 (0, 0)) → OwnG EB 5 h1 s p1 len1 (be 1 x.kind ++ ((sayT x.kind).take i).flatMap (letB x dt)) → len1 ≤ 1 + 200 * i →
        (loopJ n 2 (fun _ _ _ => AM.fail) B (.slice p1 len1 len1) (vi i) s1).wp pw Z h1 := by
      intro J hJ B hB n
      induction n with
      | zero => intro i p1 len1 h1 s1 hn; omega
      | succ n ih =>
        intro i p1 len1 h1 s1 hn hi g1 hs1 b1 o1 hl1
        have hle := say_le x.kind
        rw [loopJ_succ, hB]
        unfold X24_1
        by_cases hlt : i < (sayT x.kind).length
        · obtain ⟨c, hc⟩ := get_some (l := sayT x.kind) (i := i) hlt
          have hcm := say_mem (List.mem_of_getElem? hc)
          try simp (disch := first | assumption | omega | (simp only [Int.ofNat_eq_natCast, neg_one]; done) | (simp only [Int.ofNat_eq_natCast, neg_one]; omega)) only [tysW, w_bindJ, w_logJ, w_ct, w_cf, w_gtt, w_gft, w_gtf, w_gff, w_pt, w_pf, w_lret, w_e0, w_e1, w_e2, w_nil, w_fun, w_nt, w_nf, w_add, w_sub, w_eqt, w_eqf, w_net, w_nef, w_ltt, w_ltf, w_let, w_lef, w_gtt', w_gtf', w_get, w_gef, toNat_of, of_add, cast_add, nth_0, nth_s, Nat.zero_add, Nat.reduceAdd, Nat.reduceMul, Nat.add_zero, List.length_cons, List.length_nil, List.drop_zero, List.drop_succ_cons, List.take_succ_cons, List.take_zero, List.take_nil, true_and, and_true, Int.toNat_natCast, List.append_nil, List.nil_append, List.cons_append, len_say, ix_say q1 hc]
          have step : ∀ (w : Nat) (n1 : Int), isW w → letB x dt c = be w n1 → fitsW w n1 = true → (D N (d + 11) 89 [.slice p1 len1 len1, vi w, vi n1] (fun v s => addX P 3 3 false true (vi i) (i64 1) (fun v20 s => loopJ n 2 (fun _ _ _ => AM.fail) B v v20 s) s) s1).wp pw Z h1 := by
            intro w n1 hw he hfit
            have hw8 : w ≤ 8 := by rcases hw with rfl | rfl | rfl | rfl <;> omega
            refine PureS.go g1 hp (s89 (d := d + 8) (by omega) g1.fresh hw o1.sl (by omega) n1 hfit) fun v h4 s4 g4 c4 hv => ?_
            obtain ⟨p4, rfl, o4⟩ := hv
            have l4 := c4.le
            try simp (disch := first | assumption | omega | (simp only [Int.ofNat_eq_natCast, neg_one]; done) | (simp only [Int.ofNat_eq_natCast, neg_one]; omega)) only [tysW, w_bindJ, w_logJ, w_ct, w_cf, w_gtt, w_gft, w_gtf, w_gff, w_pt, w_pf, w_lret, w_e0, w_e1, w_e2, w_nil, w_fun, w_nt, w_nf, w_add, w_sub, w_eqt, w_eqf, w_net, w_nef, w_ltt, w_ltf, w_let, w_lef, w_gtt', w_gtf', w_get, w_gef, toNat_of, of_add, cast_add, nth_0, nth_s, Nat.zero_add, Nat.reduceAdd, Nat.reduceMul, Nat.add_zero, List.length_cons, List.length_nil, List.drop_zero, List.drop_succ_cons, List.take_succ_cons, List.take_zero, List.take_nil, true_and, and_true, Int.toNat_natCast, List.append_nil, List.nil_append, List.cons_append]
            refine ih (i + 1) p4 (len1 + w) h4 s4 (by omega) (by omega) g4 (by omega) (c4.box b1 (by omega)) ?_ (by omega)
            rw [take_next hc, ← List.append_assoc, he]
            exact o4.less (by omega)
          rcases hcm with rfl | rfl | rfl | rfl
          · try simp (disch := first | assumption | omega | (simp only [Int.ofNat_eq_natCast, neg_one]; done) | (simp only [Int.ofNat_eq_natCast, neg_one]; omega)) only [tysW, w_bindJ, w_logJ, w_ct, w_cf, w_gtt, w_gft, w_gtf, w_gff, w_pt, w_pf, w_lret, w_e0, w_e1, w_e2, w_nil, w_fun, w_nt, w_nf, w_add, w_sub, w_eqt, w_eqf, w_net, w_nef, w_ltt, w_ltf, w_let, w_lef, w_gtt', w_gtf', w_get, w_gef, toNat_of, of_add, cast_add, nth_0, nth_s, Nat.zero_add, Nat.reduceAdd, Nat.reduceMul, Nat.add_zero, List.length_cons, List.length_nil, List.drop_zero, List.drop_succ_cons, List.take_succ_cons, List.take_zero, List.take_nil, true_and, and_true, Int.toNat_natCast, List.append_nil, List.nil_append, List.cons_append, ldB b1, clB b1, ldBL b1, clBL b1, eqc8, UInt8.reduceToNat, Nat.reduceBEq]
            exact step 1 x.sen (.inl rfl) rfl (by simp [fitsW]; omega)
          · try simp (disch := first | assumption | omega | (simp only [Int.ofNat_eq_natCast, neg_one]; done) | (simp only [Int.ofNat_eq_natCast, neg_one]; omega)) only [tysW, w_bindJ, w_logJ, w_ct, w_cf, w_gtt, w_gft, w_gtf, w_gff, w_pt, w_pf, w_lret, w_e0, w_e1, w_e2, w_nil, w_fun, w_nt, w_nf, w_add, w_sub, w_eqt, w_eqf, w_net, w_nef, w_ltt, w_ltf, w_let, w_lef, w_gtt', w_gtf', w_get, w_gef, toNat_of, of_add, cast_add, nth_0, nth_s, Nat.zero_add, Nat.reduceAdd, Nat.reduceMul, Nat.add_zero, List.length_cons, List.length_nil, List.drop_zero, List.drop_succ_cons, List.take_succ_cons, List.take_zero, List.take_nil, true_and, and_true, Int.toNat_natCast, List.append_nil, List.nil_append, List.cons_append, ldB b1, clB b1, ldBL b1, clBL b1, eqc8, UInt8.reduceToNat, Nat.reduceBEq]
            exact step 4 x.seq (.inr (.inr (.inl rfl))) rfl (by simp [fitsW]; omega)
          · try simp (disch := first | assumption | omega | (simp only [Int.ofNat_eq_natCast, neg_one]; done) | (simp only [Int.ofNat_eq_natCast, neg_one]; omega)) only [tysW, w_bindJ, w_logJ, w_ct, w_cf, w_gtt, w_gft, w_gtf, w_gff, w_pt, w_pf, w_lret, w_e0, w_e1, w_e2, w_nil, w_fun, w_nt, w_nf, w_add, w_sub, w_eqt, w_eqf, w_net, w_nef, w_ltt, w_ltf, w_let, w_lef, w_gtt', w_gtf', w_get, w_gef, toNat_of, of_add, cast_add, nth_0, nth_s, Nat.zero_add, Nat.reduceAdd, Nat.reduceMul, Nat.add_zero, List.length_cons, List.length_nil, List.drop_zero, List.drop_succ_cons, List.take_succ_cons, List.take_zero, List.take_nil, true_and, and_true, Int.toNat_natCast, List.append_nil, List.nil_append, List.cons_append, ldB b1, clB b1, ldBL b1, clBL b1, eqc8, UInt8.reduceToNat, Nat.reduceBEq]
            exact step 8 x.time (.inr (.inr (.inr rfl))) rfl (by simp [fitsW])
          · try simp (disch := first | assumption | omega | (simp only [Int.ofNat_eq_natCast, neg_one]; done) | (simp only [Int.ofNat_eq_natCast, neg_one]; omega)) only [tysW, w_bindJ, w_logJ, w_ct, w_cf, w_gtt, w_gft, w_gtf, w_gff, w_pt, w_pf, w_lret, w_e0, w_e1, w_e2, w_nil, w_fun, w_nt, w_nf, w_add, w_sub, w_eqt, w_eqf, w_net, w_nef, w_ltt, w_ltf, w_let, w_lef, w_gtt', w_gtf', w_get, w_gef, toNat_of, of_add, cast_add, nth_0, nth_s, Nat.zero_add, Nat.reduceAdd, Nat.reduceMul, Nat.add_zero, List.length_cons, List.length_nil, List.drop_zero, List.drop_succ_cons, List.take_succ_cons, List.take_zero, List.take_nil, true_and, and_true, Int.toNat_natCast, List.append_nil, List.nil_append, List.cons_append, ldB b1, clB b1, ldBL b1, clBL b1, eqc8, UInt8.reduceToNat, Nat.reduceBEq]
            refine PureS.go g1 hp (s91 (d := d + 8) (by omega) g1.fresh o1.sl (g1.row hf r) (by omega) (by omega)) fun v h4 s4 g4 c4 hv => ?_
            rw [if_pos q4] at hv
            obtain ⟨p4, rfl, o4⟩ := hv
            have l4 := c4.le
            try simp (disch := first | assumption | omega | (simp only [Int.ofNat_eq_natCast, neg_one]; done) | (simp only [Int.ofNat_eq_natCast, neg_one]; omega)) only [tysW, w_bindJ, w_logJ, w_ct, w_cf, w_gtt, w_gft, w_gtf, w_gff, w_pt, w_pf, w_lret, w_e0, w_e1, w_e2, w_nil, w_fun, w_nt, w_nf, w_add, w_sub, w_eqt, w_eqf, w_net, w_nef, w_ltt, w_ltf, w_let, w_lef, w_gtt', w_gtf', w_get, w_gef, toNat_of, of_add, cast_add, nth_0, nth_s, Nat.zero_add, Nat.reduceAdd, Nat.reduceMul, Nat.add_zero, List.length_cons, List.length_nil, List.drop_zero, List.drop_succ_cons, List.take_succ_cons, List.take_zero, List.take_nil, true_and, and_true, Int.toNat_natCast, List.append_nil, List.nil_append, List.cons_append]
            refine ih (i + 1) p4 _ h4 s4 (by omega) (by omega) g4 (by omega) (c4.box b1 (by omega)) ?_ (by omega)
            rw [take_next hc, ← List.append_assoc]
            exact o4.less (by omega)
        · obtain rfl : i = (sayT x.kind).length := by omega
          try simp (disch := first | assumption | omega | (simp only [Int.ofNat_eq_natCast, neg_one]; done) | (simp only [Int.ofNat_eq_natCast, neg_one]; omega)) only [tysW, w_bindJ, w_logJ, w_ct, w_cf, w_gtt, w_gft, w_gtf, w_gff, w_pt, w_pf, w_lret, w_e0, w_e1, w_e2, w_nil, w_fun, w_nt, w_nf, w_add, w_sub, w_eqt, w_eqf, w_net, w_nef, w_ltt, w_ltf, w_let, w_lef, w_gtt', w_gtf', w_get, w_gef, toNat_of, of_add, cast_add, nth_0, nth_s, Nat.zero_add, Nat.reduceAdd, Nat.reduceMul, Nat.add_zero, List.length_cons, List.length_nil, List.drop_zero, List.drop_succ_cons, List.take_succ_cons, List.take_zero, List.take_nil, true_and, and_true, Int.toNat_natCast, List.append_nil, List.nil_append, List.cons_append, len_say]
          rw [hJ]
          refine hk _ _ _ g1 ?_
          rw [if_neg (by simp [hbad])]
          refine ⟨p1, len1, rfl, ?_⟩
          rw [List.take_of_length_le (Nat.le_refl _)] at o1
          exact o1
    have hle := say_le x.kind
    exact loop _ (fun _ _ => rfl) _ (fun _ _ _ _ => rfl) N 0 p3 1 h4 s4 (by omega) (by omega) g4 (by omega) b1 (by simpa using o3) (by omega)
end
end Go.Ev.R
namespace Go.Ev.R
open Go Go.RowKit
/-- What is told of a saying. -/
def bytesS (x : SV) (dt : List Int) : List Int := if badS x = true then [] else encS x dt
def errS (x : SV) : Int := if badS x = true then 2 else 0
theorem bys_range (w : Nat) (l : List Int) : ∀ y ∈ bys w l, 0 ≤ y ∧ y < 256 := by
  intro y hy
  obtain ⟨n, -, h⟩ := List.mem_flatMap.1 hy
  exact be_range n w y h
theorem lis_range (l : List Int) : ∀ y ∈ lis l, 0 ≤ y ∧ y < 256 := by
  intro y hy
  rcases List.mem_append.1 hy with h | h
  · exact bys_range _ _ y h
  · exact bys_range _ _ y h
theorem letB_range (x : SV) (dt : List Int) (c : UInt8) : ∀ y ∈ letB x dt c, 0 ≤ y ∧ y < 256 := by
  intro y hy
  unfold letB at hy
  split at hy
  · exact be_range _ _ y hy
  split at hy
  · exact be_range _ _ y hy
  split at hy
  · exact be_range _ _ y hy
  · exact lis_range _ y hy
theorem bytesS_range (x : SV) (dt : List Int) : ∀ y ∈ bytesS x dt, 0 ≤ y ∧ y < 256 := by
  intro y hy
  unfold bytesS at hy
  split at hy
  · cases hy
  · rcases List.mem_append.1 hy with h | h
    · exact be_range _ _ y h
    · obtain ⟨c, -, h⟩ := List.mem_flatMap.1 h
      exact letB_range x dt c y h
section
variable {N d : Nat} (hN : N = 100000) {h : T} {s : Nat} (hf : ∀ n, s ≤ n → h.get n = none)
include hN hf
theorem s23e (x : SV) {dt : List Int} (r : Row EI h x.p x.n dt) : PureS (D N (d + 12)) 23 [.agg ⟨svv x⟩] h s (fun v h' s' => ∃ p' len, v = .tuple ⟨[.slice p' len len, vi (errS x)]⟩ ∧ OwnG EB 5 h' s p' len (bytesS x dt) ∧ len ≤ 1000) := by
  refine PureS.of hf fun K pw Z g hp hk => ?_
  refine PureS.go g hp (s23 (d := d) hN hf x r) fun v h1 s1 g1 c1 hv => hk _ _ _ g1 ?_
  unfold errS bytesS
  cases hb : badS x with
  | true => rw [hb] at hv; rw [if_pos rfl] at hv; subst hv; exact ⟨none, 0, rfl, .nil, by omega⟩
  | false =>
    obtain ⟨q1, q2, q3, q4, -⟩ := good hb
    rw [hb] at hv
    rw [if_neg (by simp)] at hv
    obtain ⟨p, len, rfl, o⟩ := hv
    refine ⟨p, len, rfl, o, ?_⟩
    have hl : ∀ c, (letB x dt c).length ≤ 193 := by
      intro c
      unfold letB
      split
      · rw [be_len]; omega
      split
      · rw [be_len]; omega
      split
      · rw [be_len]; omega
      · rw [lis_len, r.1]; omega
    have hm : ∀ l : List UInt8, (l.flatMap (letB x dt)).length ≤ 193 * l.length := by
      intro l
      induction l with
      | nil => simp
      | cons c l ih => rw [List.flatMap_cons, List.length_append, List.length_cons]; have := hl c; omega
    have h1 := o.1
    have h2 := say_le x.kind
    have h3 := hm (sayT x.kind)
    unfold encS at h1
    rw [List.length_append, be_len] at h1
    omega
theorem s24e (x : SV) {dt : List Int} (r : Row EI h x.p x.n dt) : PureS (D N (d + 12)) 24 [.agg ⟨svv x⟩] h s (fun v h' s' => ∃ p' len, v = .tuple ⟨[.slice p' len len, vi (errS x)]⟩ ∧ OwnG EB 5 h' s p' len (bytesS x dt)) := by
  refine PureS.of hf fun K pw Z g hp hk => ?_
  refine PureS.go g hp (s24 (d := d) hN hf x r) fun v h1 s1 g1 c1 hv => hk _ _ _ g1 ?_
  unfold errS bytesS
  cases hb : badS x with
  | true => rw [hb] at hv; rw [if_pos rfl] at hv; subst hv; exact ⟨none, 0, rfl, .nil⟩
  | false =>
    rw [hb] at hv
    rw [if_neg (by simp)] at hv
    obtain ⟨p, len, rfl, o⟩ := hv
    exact ⟨p, len, rfl, o⟩
end
end Go.Ev.R
namespace Go.Ev.R
open Go Go.RowKit
def wrap64 (n : Int) : Int := (n + 9223372036854775808) % 18446744073709551616 - 9223372036854775808
theorem i64_w (n : Int) : IntKind.i64.wrap n = wrap64 n := by
  show (if (true && decide (n % 18446744073709551616 ≥ 9223372036854775808)) = true then n % 18446744073709551616 - 18446744073709551616 else n % 18446744073709551616) = _
  unfold wrap64
  by_cases h : n % 18446744073709551616 ≥ 9223372036854775808
  · rw [if_pos (by simp [h])]; omega
  · rw [if_neg (by simp; omega)]; omega
def bts (n : Int) : Nat → List Int
  | 0 => []
  | j + 1 => (n / 2 ^ (8 * j)) % 256 :: bts n j
theorem be_bts (n : Int) : ∀ w, be w n = bts n w
  | 0 => rfl
  | w + 1 => by
    show byteN n w :: be w n = (n / 2 ^ (8 * w)) % 256 :: bts n w
    rw [be_bts n w]
    unfold byteN
    rw [Int.pow_mul]; rfl
theorem bts_length (n : Int) : ∀ j, (bts n j).length = j
  | 0 => rfl
  | j + 1 => by simp [bts, bts_length n j]
/-! ### numbers out of bytes -/
def isByte (x : Int) : Prop := 0 ≤ x ∧ x < 256
def allBytes (l : List Int) : Prop := ∀ x ∈ l, isByte x
theorem allBytes_drop {l : List Int} (h : allBytes l) (n : Nat) : allBytes (l.drop n) := fun x hx => h x (List.mem_of_mem_drop hx)
theorem allBytes_take {l : List Int} (h : allBytes l) (n : Nat) : allBytes (l.take n) := fun x hx => h x (List.mem_of_mem_take hx)
theorem allBytes_append {l m : List Int} (h : allBytes l) (k : allBytes m) : allBytes (l ++ m) := fun x hx => by
  rcases List.mem_append.1 hx with q | q
  · exact h x q
  · exact k x q
theorem allBytes_bts (n : Int) : ∀ j, allBytes (bts n j)
  | 0 => fun x hx => by simp [bts] at hx
  | j + 1 => fun x hx => by
    rcases List.mem_cons.1 hx with rfl | hx
    · exact ⟨Int.emod_nonneg _ (by decide), Int.emod_lt_of_pos _ (by decide)⟩
    · exact allBytes_bts n j x hx
theorem allBytes_of_wf {l : List Int} (h : ∀ x ∈ l, (Lit.int .u8 x).wf = true) : allBytes l := fun x hx => by
  have : 0 ≤ x ∧ x ≤ 255 := by simpa [Lit.wf, IntKind.min, IntKind.max, IntKind.signed, IntKind.bits] using h x hx
  exact ⟨this.1, by omega⟩
/-- The number that bytes come to, the highest first. -/
def valL (l : List Int) : Int := l.foldl (fun v b => 256 * v + b) 0
theorem valL_snoc (l : List Int) (b : Int) : valL (l ++ [b]) = 256 * valL l + b := by simp [valL]
theorem fold_from (l : List Int) : ∀ v : Int, l.foldl (fun v b => 256 * v + b) v = v * 2 ^ (8 * l.length) + valL l := by
  induction l with
  | nil => intro v; simp [valL]
  | cons a l ih =>
    intro v
    have e : (2 : Int) ^ (8 * (a :: l).length) = 256 * 2 ^ (8 * l.length) := by rw [List.length_cons, show 8 * (l.length + 1) = 8 + 8 * l.length by omega, Int.pow_add]; rfl
    have h1 := ih (256 * v + a)
    have h2 : valL (a :: l) = (256 * 0 + a) * 2 ^ (8 * l.length) + valL l := ih (256 * 0 + a)
    show l.foldl (fun v b => 256 * v + b) (256 * v + a) = _
    rw [h1, h2, e, Int.add_mul, Int.add_mul]
    have h3 : v * (256 * 2 ^ (8 * l.length)) = 256 * v * 2 ^ (8 * l.length) := by rw [← Int.mul_assoc, Int.mul_comm v 256]
    rw [h3]; omega
theorem valL_cons (a : Int) (l : List Int) : valL (a :: l) = a * 2 ^ (8 * l.length) + valL l := by
  have := fold_from l (256 * 0 + a)
  show l.foldl (fun v b => 256 * v + b) (256 * 0 + a) = _
  rw [this, show (256 * 0 + a) = a by omega]
theorem valL_bounds : ∀ (l : List Int), allBytes l → 0 ≤ valL l ∧ valL l < 2 ^ (8 * l.length)
  | [], _ => by simp [valL]
  | a :: l, h => by
    have ih := valL_bounds l (fun x hx => h x (List.mem_cons_of_mem _ hx))
    have ha := h a List.mem_cons_self
    have e : (2 : Int) ^ (8 * (a :: l).length) = 256 * 2 ^ (8 * l.length) := by rw [List.length_cons, show 8 * (l.length + 1) = 8 + 8 * l.length by omega, Int.pow_add]; rfl
    rw [valL_cons, e]
    have hp : (0 : Int) < 2 ^ (8 * l.length) := Int.pow_pos (by decide)
    generalize (2 : Int) ^ (8 * l.length) = P at *
    have h1 : 0 ≤ a * P := Int.mul_nonneg ha.1 (by omega)
    have h2 : a * P ≤ 255 * P := Int.mul_le_mul_of_nonneg_right (by have := ha.2; omega) (by omega)
    omega
theorem emod_two' (z P : Int) (hP : 0 < P) : z % (P * 256) = z % P + P * ((z / P) % 256) := by
  have h1 := Int.mul_ediv_add_emod z P
  have h2 := Int.mul_ediv_add_emod (z / P) 256
  have h3 : z / P / 256 = z / (P * 256) := Int.ediv_ediv_of_nonneg (by omega)
  have h4 := Int.mul_ediv_add_emod z (P * 256)
  rw [h3] at h2
  have h5 : P * (z / P) = P * 256 * (z / (P * 256)) + P * (z / P % 256) := by
    conv => lhs; rw [← h2]
    rw [Int.mul_add, Int.mul_assoc]
  omega
theorem valL_bts (n : Int) : ∀ j, valL (bts n j) = n % 2 ^ (8 * j)
  | 0 => by simp [bts, valL, Int.emod_one]
  | j + 1 => by
    have hp : (0 : Int) < 2 ^ (8 * j) := Int.pow_pos (by decide)
    have e : (2 : Int) ^ (8 * (j + 1)) = 2 ^ (8 * j) * 256 := by rw [show 8 * (j + 1) = 8 * j + 8 by omega, Int.pow_add]; rfl
    show valL ((n / 2 ^ (8 * j)) % 256 :: bts n j) = _
    rw [valL_cons, bts_length, valL_bts n j, e, emod_two' n _ hp, Int.mul_comm]; omega
theorem bts_valL : ∀ (l : List Int), allBytes l → ∀ z : Int, 0 ≤ z → bts (z * 2 ^ (8 * l.length) + valL l) l.length = l
  | [], _, z, _ => rfl
  | a :: l, h, z, hz => by
    have hl : allBytes l := fun x hx => h x (List.mem_cons_of_mem _ hx)
    have ha := h a List.mem_cons_self
    have hb := valL_bounds l hl
    have e : (2 : Int) ^ (8 * (a :: l).length) = 256 * 2 ^ (8 * l.length) := by rw [List.length_cons, show 8 * (l.length + 1) = 8 + 8 * l.length by omega, Int.pow_add]; rfl
    have hp : (0 : Int) < 2 ^ (8 * l.length) := Int.pow_pos (by decide)
    have e2 : z * 2 ^ (8 * (a :: l).length) + valL (a :: l) = (256 * z + a) * 2 ^ (8 * l.length) + valL l := by
      rw [valL_cons, e, Int.add_mul, ← Int.mul_assoc, Int.mul_comm z 256]; omega
    rw [e2]
    show ((256 * z + a) * 2 ^ (8 * l.length) + valL l) / 2 ^ (8 * l.length) % 256 :: bts _ l.length = _
    rw [bts_valL l hl (256 * z + a) (by have := ha.1; omega)]
    congr 1
    rw [Int.add_comm, Int.add_mul_ediv_right _ _ (by omega), Int.ediv_eq_zero_of_lt hb.1 hb.2]
    have := ha.1; have := ha.2
    omega
theorem bts_val (l : List Int) (h : allBytes l) : bts (valL l) l.length = l := by
  have := bts_valL l h 0 (by omega)
  rwa [Int.zero_mul, Int.zero_add] at this

theorem or_byte (a b : Int) (ha : a % 256 = 0) (hb : 0 ≤ b) (hb' : b < 256) : orZ .i64 a b = wrap64 (a + b) := by
  rw [orZ_eq]
  show IntKind.i64.wrap ((BitVec.ofInt 64 a ||| BitVec.ofInt 64 b).toNat : Int) = _
  rw [i64_w, BitVec.toNat_or]
  have h1 : ((BitVec.ofInt 64 a).toNat : Int) = a % 18446744073709551616 := by
    rw [BitVec.toNat_ofInt, Int.toNat_of_nonneg (Int.emod_nonneg _ (by decide))]; rfl
  have h2 : ((BitVec.ofInt 64 b).toNat : Int) = b := by
    rw [BitVec.toNat_ofInt, Int.toNat_of_nonneg (Int.emod_nonneg _ (by decide))]
    exact Int.emod_eq_of_lt hb (by show b < 18446744073709551616; omega)
  generalize (BitVec.ofInt 64 a).toNat = A at *
  generalize (BitVec.ofInt 64 b).toNat = B at *
  have h3 : A = 2 ^ 8 * (A / 256) := by omega
  have h4 : A ||| B = A + B := by
    rw [h3]; exact (Nat.two_pow_add_eq_or_of_lt (show B < 2 ^ 8 by omega) _).symm
  rw [h4]
  unfold wrap64
  omega
/-- The number of some bytes. -/
def numI (l : List Int) : Int := wrap64 (valL l)
def nums (w m : Nat) (b : List Int) : List Int := (List.range m).map fun i => numI ((b.drop (i * w)).take w)
theorem nums_len (w m : Nat) (b : List Int) : (nums w m b).length = m := by simp [nums]
theorem nums_succ (w m : Nat) (b : List Int) : nums w (m + 1) b = nums w m b ++ [numI ((b.drop (m * w)).take w)] := by
  unfold nums
  rw [List.range_succ, List.map_append]; rfl
theorem or_is (a b : Int) (k : KV) (s : Nat) : orX P 3 3 false false (vi a) (vi b) k s = k (vi (orZ .i64 a b)) s := rfl
theorem or_step (V c : Int) (hc : 0 ≤ c ∧ c < 256) (K : KV) (s : Nat) : shlX P 3 168 false true (vi (wrap64 V)) (.int .u64 (.ofNat 8)) (fun v87 s => convX P 5 3 (u8 c) (fun v88 s => orX P 3 3 false false v87 v88 K s) s) s = K (vi (wrap64 (256 * V + c))) s := by
  have h8 := shl_eq (P := P) 3 168 false true .i64 .u64 (wrap64 V) 8 (fun v87 s => convX P 5 3 (u8 c) (fun v88 s => orX P 3 3 false false v87 v88 K s) s) s
  have e8 : (.int .u64 (.ofNat 8) : Value) = .int .u64 ((8 : Nat) : Int) := rfl
  rw [e8, h8, cv_5_3, wrap_id (a := c) (by omega) (by omega), or_is, i64_w, or_byte _ _ _ hc.1 hc.2]
  · congr 2
    show wrap64 (wrap64 (wrap64 V * 256) + c) = _
    unfold wrap64; omega
  · show wrap64 (wrap64 V * 256) % 256 = 0
    unfold wrap64; omega
end Go.Ev.R

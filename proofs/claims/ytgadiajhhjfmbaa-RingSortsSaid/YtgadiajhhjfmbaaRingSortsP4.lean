/- The law RingSorts, part 4: what the functions answer, by their terms. No condition. -/
import Derived.Test.YtgadiajhhjfmbaaRingSortsP3
set_option linter.unusedVariables false
set_option linter.unusedSimpArgs false
set_option maxRecDepth 100000
namespace Go.Ev.R
open Go Go.RowKit
/-- How many keys that are told first are such. -/
def cntF (q : K3 → Bool) (ks : List K3) : Nat → Nat
  | 0 => 0
  | i + 1 => cntF q ks i + (match ks[i]? with | some x => if fr ks i && q x then 1 else 0 | none => 0)
theorem at_mem {x : K3} {m : List K3} (h : atK x m = true) : x ∈ m := List.mem_of_getElem? (at_is h)
theorem fr_iff {ks : List K3} {i : Nat} {x : K3} (hx : ks[i]? = some x) : fr ks i = true ↔ ∀ j, j < i → ks[j]? ≠ some x := by
  unfold fr
  rw [hx]
  dsimp only
  rw [Bool.not_eq_true', List.any_eq_false]
  constructor
  · intro h j hj he
    exact h x (List.mem_of_getElem? (i := j) (by rw [List.getElem?_take, if_pos hj, he])) (same_iff.2 rfl)
  · intro h y hy hs
    obtain rfl := same_iff.1 hs
    obtain ⟨j, hj⟩ := List.getElem?_of_mem hy
    rw [List.getElem?_take] at hj
    split at hj
    · exact h j (by assumption) hj
    · cases hj
structure Inv (es : List EN) (i : Nat) (L : List EN) : Prop where
  rise : risingK (ksE L) = true
  cnt : ∀ q, cntF q (ksE es) i = L.countP (fun e => q e.k)
  mem : ∀ e ∈ L, ∃ j, j < i ∧ es[j]? = some e ∧ fr (ksE es) j = true
  has : ∀ j, j < i → ∀ e, es[j]? = some e → e.k ∈ ksE L
theorem Inv.zero (es : List EN) : Inv es 0 [] := ⟨rfl, fun _ => rfl, fun e he => by simp at he, fun j hj => by omega⟩
theorem Inv.many {es : List EN} {i : Nat} {L : List EN} (v : Inv es i L) : cntF (fun _ => true) (ksE es) i = L.length := by
  rw [v.cnt, List.countP_true]
theorem cnt_le (q : K3 → Bool) (ks : List K3) : ∀ i, cntF q ks i ≤ i
  | 0 => Nat.le_refl _
  | i + 1 => by
    have := cnt_le q ks i
    unfold cntF
    split
    · split <;> omega
    · omega
theorem Inv.at {es : List EN} {i : Nat} {L : List EN} (v : Inv es i L) {e : EN} (he : es[i]? = some e) : atK e.k (ksE L) = !fr (ksE es) i := by
  have hk : (ksE es)[i]? = some e.k := by rw [ks_get, he]; rfl
  cases hf : fr (ksE es) i with
  | true =>
    rw [fr_iff hk] at hf
    cases ha : atK e.k (ksE L) with
    | false => rfl
    | true =>
      exfalso
      obtain ⟨y, hy, hyk⟩ := List.mem_map.1 (at_mem ha)
      obtain ⟨j, hj, h1, _⟩ := v.mem y hy
      exact hf j hj (by rw [ks_get, h1, ← hyk]; rfl)
  | false =>
    have hn : ¬ ∀ j, j < i → (ksE es)[j]? ≠ some e.k := fun h => by rw [(fr_iff hk).2 h] at hf; cases hf
    obtain ⟨j, hj⟩ := Classical.not_forall.1 hn
    obtain ⟨hj, h2⟩ := Classical.not_imp.1 hj
    have h2 := Classical.not_not.1 h2
    rw [ks_get] at h2
    cases h3 : es[j]? with
    | none => rw [h3] at h2; cases h2
    | some y =>
      rw [h3] at h2
      have hm := v.has j hj y h3
      rw [show y.k = e.k from Option.some.inj h2] at hm
      rw [found v.rise hm]; rfl
theorem Inv.step {es : List EN} {i keep : Nat} {L : List EN} (v : Inv es i L) (hi : i < keep) {e : EN} (he : es[i]? = some e) : Inv es (i + 1) (insE keep e L).1 := by
  have hat := v.at he
  have hk : (ksE es)[i]? = some e.k := by rw [ks_get, he]; rfl
  have hlen : L.length ≤ i := by rw [← v.many]; exact cnt_le _ _ _
  cases hf : fr (ksE es) i with
  | false =>
    rw [hf] at hat
    have hin : (insE keep e L).1 = L := by unfold insE; rw [if_pos (by simpa using hat)]
    rw [hin]
    refine ⟨v.rise, fun q => ?_, fun x hx => ?_, fun j hj x hx => ?_⟩
    · rw [← v.cnt q]
      show cntF q (ksE es) i + _ = _
      rw [hk, hf]; rfl
    · obtain ⟨j, h1, h2⟩ := v.mem x hx
      exact ⟨j, by omega, h2⟩
    · rcases Nat.lt_or_ge j i with h6 | h6
      · exact v.has j h6 x hx
      · rw [show j = i by omega, he] at hx; cases hx; exact at_mem hat
  | true =>
    rw [hf] at hat
    have hin : (insE keep e L).1 = L.take (plK e.k (ksE L)) ++ e :: L.drop (plK e.k (ksE L)) := by unfold insE; rw [if_neg (by rw [hat]; simp), if_neg (by omega)]
    rw [hin]
    refine ⟨by rw [← hin]; exact ins_rising v.rise, fun q => ?_, fun x hx => ?_, fun j hj x hx => ?_⟩
    · show cntF q (ksE es) i + _ = _
      rw [hk, hf, v.cnt q, List.countP_append, List.countP_cons]
      have := List.countP_append (p := fun e => q e.k) (l₁ := L.take (plK e.k (ksE L))) (l₂ := L.drop (plK e.k (ksE L)))
      rw [List.take_append_drop] at this
      simp only [Bool.true_and]
      omega
    · rcases List.mem_append.1 hx with h | h
      · obtain ⟨j, h1, h2⟩ := v.mem x (List.mem_of_mem_take h)
        exact ⟨j, by omega, h2⟩
      · rcases List.mem_cons.1 h with rfl | h
        · exact ⟨i, by omega, he, hf⟩
        · obtain ⟨j, h1, h2⟩ := v.mem x (List.mem_of_mem_drop h)
          exact ⟨j, by omega, h2⟩
    · rcases Nat.lt_or_ge j i with h6 | h6
      · have := v.has j h6 x hx
        obtain ⟨y, h1, h2⟩ := List.mem_map.1 this
        refine List.mem_map.2 ⟨y, ?_, h2⟩
        rw [← List.take_append_drop (plK e.k (ksE L)) L] at h1
        rcases List.mem_append.1 h1 with h | h
        · exact List.mem_append.2 (.inl h)
        · exact List.mem_append.2 (.inr (List.mem_cons_of_mem _ h))
      · rw [show j = i by omega, he] at hx; cases hx
        exact List.mem_map.2 ⟨e, List.mem_append.2 (.inr (List.mem_cons_self ..)), rfl⟩
theorem less_asym {x y : K3} (h : lessK x y = true) : lessK y x = false := by
  cases h2 : lessK y x with
  | false => rfl
  | true => have := less_trans h h2; rw [less_self] at this; cases this
/-- How many have a greater key. -/
theorem greater {L : List EN} {k : K3} (hr : risingK (ksE L) = true) (hat : atK k (ksE L) = false) : L.countP (fun e => lessK k e.k) = L.length - plK k (ksE L) := by
  have hpl := pl_le k (ksE L)
  rw [ks_len] at hpl
  have h1 : (L.take (plK k (ksE L))).countP (fun e => lessK k e.k) = 0 := by
    rw [List.countP_eq_zero]
    intro e he
    obtain ⟨j, hj⟩ := List.getElem?_of_mem he
    rw [List.getElem?_take] at hj
    split at hj
    · rw [less_asym (pl_lt (x := k) (l := ksE L) (k := j) (by assumption) (by rw [ks_get, hj]; rfl))]; simp
    · cases hj
  have h2 : (L.drop (plK k (ksE L))).countP (fun e => lessK k e.k) = (L.drop (plK k (ksE L))).length := by
    rw [List.countP_eq_length]
    intro e he
    obtain ⟨j, hj⟩ := List.getElem?_of_mem he
    rw [List.getElem?_drop] at hj
    have hkj : (ksE L)[plK k (ksE L) + j]? = some e.k := by rw [ks_get, hj]; rfl
    obtain ⟨y, hy⟩ := get_some (l := ksE L) (i := plK k (ksE L)) (by have := (List.getElem?_eq_some_iff.1 hkj).1; omega)
    have h3 := pl_at hy
    have h4 : lessK k y = true := by
      have : sameK y k = false := by unfold atK at hat; rw [hy] at hat; exact hat
      rw [← less_iff, h3, this]; rfl
    rcases Nat.eq_or_lt_of_le (Nat.zero_le j) with h5 | h5
    · subst h5
      rw [Nat.add_zero, hy] at hkj
      cases hkj; exact h4
    · exact less_trans h4 (rise_lt hr hy (by omega) hkj)
  have := List.countP_append (p := fun e => lessK k e.k) (l₁ := L.take (plK k (ksE L))) (l₂ := L.drop (plK k (ksE L)))
  rw [List.take_append_drop, h1, h2, List.length_drop] at this
  omega
theorem rise_tail {e : EN} {L : List EN} (h : risingK (ksE (e :: L)) = true) : risingK (ksE L) = true := by
  refine upTo_of (fun i x y hx hy => ?_) _
  exact rise_lt h (i := i + 1) (j := i + 1 + 1) (by show (e.k :: ksE L)[i + 1]? = _; rw [List.getElem?_cons_succ]; exact hx) (by omega) (by show (e.k :: ksE L)[i + 1 + 1]? = _; rw [List.getElem?_cons_succ]; exact hy)
theorem rise_head {e x : EN} {L : List EN} (h : risingK (ksE (e :: L)) = true) (hx : L[0]? = some x) : lessK e.k x.k = true :=
  rise_lt h (i := 0) (x := e.k) rfl (j := 1) (y := x.k) (by omega) (by rw [ks_get, List.getElem?_cons_succ, hx]; rfl)
/-- What comes in, as entries. -/
def Rel (h : T) (x : EV) (e : EN) : Prop := x.k = e.k ∧ x.inp = e.inp ∧ x.n = e.data.length ∧ Sl EI h x.p x.n x.c e.data
theorem choose_E {h : T} : ∀ (l : List EV), (∀ x ∈ l, ∃ dt : List Int, x.n = dt.length ∧ Sl EI h x.p x.n x.c dt) → ∃ es : List EN, es.length = l.length ∧ ksE es = l.map EV.k ∧ ∀ (i : Nat) (x : EV), l[i]? = some x → ∃ e, es[i]? = some e ∧ Rel h x e
  | [], _ => ⟨[], rfl, rfl, fun i x hx => by simp at hx⟩
  | y :: l, hD => by
    obtain ⟨dt, h1, h2⟩ := hD y (List.mem_cons_self ..)
    obtain ⟨es, h3, h4, h5⟩ := choose_E l fun x hx => hD x (List.mem_cons_of_mem _ hx)
    refine ⟨⟨y.k, y.inp, dt⟩ :: es, by simp [h3], by show _ :: ksE es = _; rw [h4]; rfl, fun i x hx => ?_⟩
    cases i with
    | zero => cases hx; exact ⟨_, rfl, rfl, rfl, h1, h2⟩
    | succ i => exact h5 i x hx
end Go.Ev.R
namespace Go.Ev.R
open Go Go.RowKit
theorem D_8 (N d : Nat) (K : KV) (s : Nat) : D N (d + 1) 8 [] K s = K (.bool true) s := by kernel_rfl
section
variable {N d : Nat} (hN : 100000 ≤ N) {h : T} {s : Nat} (hf : ∀ n, s ≤ n → h.get n = none)
include hN hf
/-- How many that came ahead have a greater key. -/
theorem greaterW {pl : Option Addr} {ln cl : Nat} {l : List EV} (rl : Row EE h pl ln l) (hln : ln ≤ 40) {ks : List K3} (hks : ks = l.map EV.k) {i : Nat} {x : EV} (hx : l[i]? = some x) (hi : i < ln) {pw : Nat → Prop} {Z : Value → T → Prop} (hp : ∀ n, s ≤ n → pw n)
    {J : Value → Nat → AM} (hJ : ∀ (gt : Nat) h2 s2, From s h h2 s2 → gt = cntF (lessK x.k) ks i → (J (vi gt) s2).wp pw Z h2) {K : KV} (B : (Value → Value → Nat → AM) → Value → Value → Nat → AM) (hB : ∀ H u k s', B H u k s' = X11_20 N (D N (d + 11)) K (vi i) (.slice pl ln cl) J H u k s') :
    ∀ (m k gt : Nat) (h2 : T) (s2 : Nat), i - k < m → k ≤ i → From s h h2 s2 → gt = cntF (lessK x.k) ks k → (loopJ m 2 (fun _ _ _ => AM.fail) B (vi gt) (vi k) s2).wp pw Z h2 := by
  intro m
  induction m with
  | zero => intro k gt h2 s2 hm; omega
  | succ m ih =>
    intro k gt h2 s2 hm hki g2 hgt
    have rl2 := g2.row hf rl
    have hcl := cnt_le (lessK x.k) ks k
    rw [loopJ_succ, hB]
    unfold X11_20
    by_cases hlt : k < i
    · obtain ⟨y, hy⟩ := get_some (l := l) (i := k) (by rw [rl.1]; omega)
      have hky : ks[k]? = some y.k := by rw [hks, List.getElem?_map, hy]; rfl
      try simp (disch := first | assumption | omega | (simp only [Int.ofNat_eq_natCast, neg_one]; done) | (simp only [Int.ofNat_eq_natCast, neg_one]; omega)) only [tysW, w_bindJ, w_logJ, w_ct, w_cf, w_gtt, w_gft, w_gtf, w_gff, w_pt, w_pf, w_lret, w_e0, w_e1, w_e2, w_nil, w_fun, w_nt, w_nf, w_add, w_sub, w_eqt, w_eqf, w_net, w_nef, w_ltt, w_ltf, w_let, w_lef, w_gtt', w_gtf', w_get, w_gef, toNat_of, of_add, cast_add, nth_0, nth_s, Nat.zero_add, Nat.reduceAdd, Nat.reduceMul, Nat.add_zero, List.length_cons, List.length_nil, List.drop_zero, List.drop_succ_cons, List.take_succ_cons, List.take_zero, List.take_nil, true_and, and_true, Int.toNat_natCast, List.append_nil, List.nil_append, List.cons_append]
      refine ValS.goL g2 hp (s44 (d := d + 9) hN g2.fresh rl2 (by omega) (i := k) (by omega)) fun h3 s3 ts3 ws3 g3 c3 hw3 ht3 => ?_
      rw [← hks]
      have rl3 := g3.row hf rl
      unfold X11_19 X11_18 X11_17 X11_16
      cases hfr : fr ks k with
      | false =>
        try simp (disch := first | assumption | omega | (simp only [Int.ofNat_eq_natCast, neg_one]; done) | (simp only [Int.ofNat_eq_natCast, neg_one]; omega)) only [tysW, w_bindJ, w_logJ, w_ct, w_cf, w_gtt, w_gft, w_gtf, w_gff, w_pt, w_pf, w_lret, w_e0, w_e1, w_e2, w_nil, w_fun, w_nt, w_nf, w_add, w_sub, w_eqt, w_eqf, w_net, w_nef, w_ltt, w_ltf, w_let, w_lef, w_gtt', w_gtf', w_get, w_gef, toNat_of, of_add, cast_add, nth_0, nth_s, Nat.zero_add, Nat.reduceAdd, Nat.reduceMul, Nat.add_zero, List.length_cons, List.length_nil, List.drop_zero, List.drop_succ_cons, List.take_succ_cons, List.take_zero, List.take_nil, true_and, and_true, Int.toNat_natCast, List.append_nil, List.nil_append, List.cons_append]
        rw [wp_guard, if_pos (by repeat' (first | exact dynOk_nil _ _ | refine dyn_skip' ?_ | refine dyn_cons ?_ ?_ | exact allF_nil _ _ | refine allF_cons ?_ ?_ | exact disj_below hw3 (by omega) | exact disjA hw3 (by omega) | exact disjB hw3 (by omega) | exact disjC hw3 (by assumption) | exact disjD (fun m hm => by have := hw3 m hm; omega) | exact disj_below ht3 (by omega) | exact disjA ht3 (by omega) | exact disjB ht3 (by omega) | exact disjC ht3 (by assumption) | exact disjD (fun m hm => by have := ht3 m hm; omega) | exact disjN _ | exact disj1 (by omega) | exact disj2 (by omega) | exact disj3 (by assumption) | exact disjC hw3 (fun m hm => by have := ht3 m hm; omega) | exact disjC ht3 (fun m hm => by have := hw3 m hm; omega)))]
        try simp (disch := first | assumption | omega | (simp only [Int.ofNat_eq_natCast, neg_one]; done) | (simp only [Int.ofNat_eq_natCast, neg_one]; omega)) only [tysW, w_bindJ, w_logJ, w_ct, w_cf, w_gtt, w_gft, w_gtf, w_gff, w_pt, w_pf, w_lret, w_e0, w_e1, w_e2, w_nil, w_fun, w_nt, w_nf, w_add, w_sub, w_eqt, w_eqf, w_net, w_nef, w_ltt, w_ltf, w_let, w_lef, w_gtt', w_gtf', w_get, w_gef, toNat_of, of_add, cast_add, nth_0, nth_s, Nat.zero_add, Nat.reduceAdd, Nat.reduceMul, Nat.add_zero, List.length_cons, List.length_nil, List.drop_zero, List.drop_succ_cons, List.take_succ_cons, List.take_zero, List.take_nil, true_and, and_true, Int.toNat_natCast, List.append_nil, List.nil_append, List.cons_append]
        exact ih (k + 1) gt h3 s3 (by omega) (by omega) g3 (by unfold cntF; rw [hky, hfr]; exact hgt)
      | true =>
        try simp (disch := first | assumption | omega | (simp only [Int.ofNat_eq_natCast, neg_one]; done) | (simp only [Int.ofNat_eq_natCast, neg_one]; omega)) only [tysW, w_bindJ, w_logJ, w_ct, w_cf, w_gtt, w_gft, w_gtf, w_gff, w_pt, w_pf, w_lret, w_e0, w_e1, w_e2, w_nil, w_fun, w_nt, w_nf, w_add, w_sub, w_eqt, w_eqf, w_net, w_nef, w_ltt, w_ltf, w_let, w_lef, w_gtt', w_gtf', w_get, w_gef, toNat_of, of_add, cast_add, nth_0, nth_s, Nat.zero_add, Nat.reduceAdd, Nat.reduceMul, Nat.add_zero, List.length_cons, List.length_nil, List.drop_zero, List.drop_succ_cons, List.take_succ_cons, List.take_zero, List.take_nil, true_and, and_true, Int.toNat_natCast, List.append_nil, List.nil_append, List.cons_append, xaE rl3 (j := (i : Int)) (by omega) (by omega), entAL rl3 hx]
        refine ValS.goL g3 hp (s45 (d := d + 10) g3.fresh x.k.a x.k.b x.k.c x.inp (.slice x.p x.n x.c)) fun h4 s4 ts4 ws4 g4 c4 hw4 ht4 => ?_
        have rl4 := g4.row hf rl
        try simp (disch := first | assumption | omega | (simp only [Int.ofNat_eq_natCast, neg_one]; done) | (simp only [Int.ofNat_eq_natCast, neg_one]; omega)) only [tysW, w_bindJ, w_logJ, w_ct, w_cf, w_gtt, w_gft, w_gtf, w_gff, w_pt, w_pf, w_lret, w_e0, w_e1, w_e2, w_nil, w_fun, w_nt, w_nf, w_add, w_sub, w_eqt, w_eqf, w_net, w_nef, w_ltt, w_ltf, w_let, w_lef, w_gtt', w_gtf', w_get, w_gef, toNat_of, of_add, cast_add, nth_0, nth_s, Nat.zero_add, Nat.reduceAdd, Nat.reduceMul, Nat.add_zero, List.length_cons, List.length_nil, List.drop_zero, List.drop_succ_cons, List.take_succ_cons, List.take_zero, List.take_nil, true_and, and_true, Int.toNat_natCast, List.append_nil, List.nil_append, List.cons_append, xaE rl4 (j := (k : Int)) (by omega) (by omega), entAL rl4 hy]
        refine ValS.goL g4 hp (s45 (d := d + 10) g4.fresh y.k.a y.k.b y.k.c y.inp (.slice y.p y.n y.c)) fun h5 s5 ts5 ws5 g5 c5 hw5 ht5 => ?_
        have hpb : blk pl < s3 := rl3.below g3.fresh hi
        try simp (disch := first | assumption | omega | (simp only [Int.ofNat_eq_natCast, neg_one]; done) | (simp only [Int.ofNat_eq_natCast, neg_one]; omega)) only [tysW, w_bindJ, w_logJ, w_ct, w_cf, w_gtt, w_gft, w_gtf, w_gff, w_pt, w_pf, w_lret, w_e0, w_e1, w_e2, w_nil, w_fun, w_nt, w_nf, w_add, w_sub, w_eqt, w_eqf, w_net, w_nef, w_ltt, w_ltf, w_let, w_lef, w_gtt', w_gtf', w_get, w_gef, toNat_of, of_add, cast_add, nth_0, nth_s, Nat.zero_add, Nat.reduceAdd, Nat.reduceMul, Nat.add_zero, List.length_cons, List.length_nil, List.drop_zero, List.drop_succ_cons, List.take_succ_cons, List.take_zero, List.take_nil, true_and, and_true, Int.toNat_natCast, List.append_nil, List.nil_append, List.cons_append]
        refine ValS.goL g5 hp (s17 (d := d + 7) hN g5.fresh x.k y.k) fun h6 s6 ts6 ws6 g6 c6 hw6 ht6 => ?_
        try simp (disch := first | assumption | omega | (simp only [Int.ofNat_eq_natCast, neg_one]; done) | (simp only [Int.ofNat_eq_natCast, neg_one]; omega)) only [tysW, w_bindJ, w_logJ, w_ct, w_cf, w_gtt, w_gft, w_gtf, w_gff, w_pt, w_pf, w_lret, w_e0, w_e1, w_e2, w_nil, w_fun, w_nt, w_nf, w_add, w_sub, w_eqt, w_eqf, w_net, w_nef, w_ltt, w_ltf, w_let, w_lef, w_gtt', w_gtf', w_get, w_gef, toNat_of, of_add, cast_add, nth_0, nth_s, Nat.zero_add, Nat.reduceAdd, Nat.reduceMul, Nat.add_zero, List.length_cons, List.length_nil, List.drop_zero, List.drop_succ_cons, List.take_succ_cons, List.take_zero, List.take_nil, true_and, and_true, Int.toNat_natCast, List.append_nil, List.nil_append, List.cons_append]
        rw [wp_guard, if_pos (by repeat' (first | exact dynOk_nil _ _ | refine dyn_skip' ?_ | refine dyn_cons ?_ ?_ | exact allF_nil _ _ | refine allF_cons ?_ ?_ | exact disj_below hw4 (by omega) | exact disjA hw4 (by omega) | exact disjB hw4 (by omega) | exact disjC hw4 (by assumption) | exact disjD (fun m hm => by have := hw4 m hm; omega) | exact disj_below ht4 (by omega) | exact disjA ht4 (by omega) | exact disjB ht4 (by omega) | exact disjC ht4 (by assumption) | exact disjD (fun m hm => by have := ht4 m hm; omega) | exact disj_below hw5 (by omega) | exact disjA hw5 (by omega) | exact disjB hw5 (by omega) | exact disjC hw5 (by assumption) | exact disjD (fun m hm => by have := hw5 m hm; omega) | exact disj_below ht5 (by omega) | exact disjA ht5 (by omega) | exact disjB ht5 (by omega) | exact disjC ht5 (by assumption) | exact disjD (fun m hm => by have := ht5 m hm; omega) | exact disj_below hw6 (by omega) | exact disjA hw6 (by omega) | exact disjB hw6 (by omega) | exact disjC hw6 (by assumption) | exact disjD (fun m hm => by have := hw6 m hm; omega) | exact disj_below ht6 (by omega) | exact disjA ht6 (by omega) | exact disjB ht6 (by omega) | exact disjC ht6 (by assumption) | exact disjD (fun m hm => by have := ht6 m hm; omega) | exact disjN _ | exact disj1 (by omega) | exact disj2 (by omega) | exact disj3 (by assumption) | exact disjC hw4 (fun m hm => by have := ht4 m hm; omega) | exact disjC hw4 (fun m hm => by have := hw5 m hm; omega) | exact disjC hw4 (fun m hm => by have := ht5 m hm; omega) | exact disjC hw4 (fun m hm => by have := hw6 m hm; omega) | exact disjC hw4 (fun m hm => by have := ht6 m hm; omega) | exact disjC ht4 (fun m hm => by have := hw4 m hm; omega) | exact disjC ht4 (fun m hm => by have := hw5 m hm; omega) | exact disjC ht4 (fun m hm => by have := ht5 m hm; omega) | exact disjC ht4 (fun m hm => by have := hw6 m hm; omega) | exact disjC ht4 (fun m hm => by have := ht6 m hm; omega) | exact disjC hw5 (fun m hm => by have := hw4 m hm; omega) | exact disjC hw5 (fun m hm => by have := ht4 m hm; omega) | exact disjC hw5 (fun m hm => by have := ht5 m hm; omega) | exact disjC hw5 (fun m hm => by have := hw6 m hm; omega) | exact disjC hw5 (fun m hm => by have := ht6 m hm; omega) | exact disjC ht5 (fun m hm => by have := hw4 m hm; omega) | exact disjC ht5 (fun m hm => by have := ht4 m hm; omega) | exact disjC ht5 (fun m hm => by have := hw5 m hm; omega) | exact disjC ht5 (fun m hm => by have := hw6 m hm; omega) | exact disjC ht5 (fun m hm => by have := ht6 m hm; omega) | exact disjC hw6 (fun m hm => by have := hw4 m hm; omega) | exact disjC hw6 (fun m hm => by have := ht4 m hm; omega) | exact disjC hw6 (fun m hm => by have := hw5 m hm; omega) | exact disjC hw6 (fun m hm => by have := ht5 m hm; omega) | exact disjC hw6 (fun m hm => by have := ht6 m hm; omega) | exact disjC ht6 (fun m hm => by have := hw4 m hm; omega) | exact disjC ht6 (fun m hm => by have := ht4 m hm; omega) | exact disjC ht6 (fun m hm => by have := hw5 m hm; omega) | exact disjC ht6 (fun m hm => by have := ht5 m hm; omega) | exact disjC ht6 (fun m hm => by have := hw6 m hm; omega)))]
        cases hls : lessK x.k y.k with
        | true =>
          try simp (disch := first | assumption | omega | (simp only [Int.ofNat_eq_natCast, neg_one]; done) | (simp only [Int.ofNat_eq_natCast, neg_one]; omega)) only [tysW, w_bindJ, w_logJ, w_ct, w_cf, w_gtt, w_gft, w_gtf, w_gff, w_pt, w_pf, w_lret, w_e0, w_e1, w_e2, w_nil, w_fun, w_nt, w_nf, w_add, w_sub, w_eqt, w_eqf, w_net, w_nef, w_ltt, w_ltf, w_let, w_lef, w_gtt', w_gtf', w_get, w_gef, toNat_of, of_add, cast_add, nth_0, nth_s, Nat.zero_add, Nat.reduceAdd, Nat.reduceMul, Nat.add_zero, List.length_cons, List.length_nil, List.drop_zero, List.drop_succ_cons, List.take_succ_cons, List.take_zero, List.take_nil, true_and, and_true, Int.toNat_natCast, List.append_nil, List.nil_append, List.cons_append]
          exact ih (k + 1) (gt + 1) h6 s6 (by omega) (by omega) g6 (by unfold cntF; rw [hky, hfr]; simp [hls, hgt])
        | false =>
          try simp (disch := first | assumption | omega | (simp only [Int.ofNat_eq_natCast, neg_one]; done) | (simp only [Int.ofNat_eq_natCast, neg_one]; omega)) only [tysW, w_bindJ, w_logJ, w_ct, w_cf, w_gtt, w_gft, w_gtf, w_gff, w_pt, w_pf, w_lret, w_e0, w_e1, w_e2, w_nil, w_fun, w_nt, w_nf, w_add, w_sub, w_eqt, w_eqf, w_net, w_nef, w_ltt, w_ltf, w_let, w_lef, w_gtt', w_gtf', w_get, w_gef, toNat_of, of_add, cast_add, nth_0, nth_s, Nat.zero_add, Nat.reduceAdd, Nat.reduceMul, Nat.add_zero, List.length_cons, List.length_nil, List.drop_zero, List.drop_succ_cons, List.take_succ_cons, List.take_zero, List.take_nil, true_and, and_true, Int.toNat_natCast, List.append_nil, List.nil_append, List.cons_append]
          exact ih (k + 1) gt h6 s6 (by omega) (by omega) g6 (by unfold cntF; rw [hky, hfr]; simp [hls, hgt])
    · obtain rfl : k = i := by omega
      try simp (disch := first | assumption | omega | (simp only [Int.ofNat_eq_natCast, neg_one]; done) | (simp only [Int.ofNat_eq_natCast, neg_one]; omega)) only [tysW, w_bindJ, w_logJ, w_ct, w_cf, w_gtt, w_gft, w_gtf, w_gff, w_pt, w_pf, w_lret, w_e0, w_e1, w_e2, w_nil, w_fun, w_nt, w_nf, w_add, w_sub, w_eqt, w_eqf, w_net, w_nef, w_ltt, w_ltf, w_let, w_lef, w_gtt', w_gtf', w_get, w_gef, toNat_of, of_add, cast_add, nth_0, nth_s, Nat.zero_add, Nat.reduceAdd, Nat.reduceMul, Nat.add_zero, List.length_cons, List.length_nil, List.drop_zero, List.drop_succ_cons, List.take_succ_cons, List.take_zero, List.take_nil, true_and, and_true, Int.toNat_natCast, List.append_nil, List.nil_append, List.cons_append]
      exact hJ gt h2 s2 g2 hgt
end
end Go.Ev.R
namespace Go.Ev.R
open Go Go.RowKit
theorem w_gu (b : Bool) (x y : AM) {pw : Nat → Prop} {Z : Value → T → Prop} {h : T} : (guardX (gd undef b) x y).wp pw Z h = y.wp pw Z h := by cases b <;> rfl
section
variable {N d : Nat} (hN : 100000 ≤ N) {h : T} {s : Nat} (hf : ∀ n, s ≤ n → h.get n = none)
include hN hf
/-- Whether what was dropped is one of those that came. -/
theorem foundW {pl : Option Addr} {ln cl : Nat} {l : List EV} (rl : Row EE h pl ln l) (hln : ln ≤ 40) {es : List EN} (hks : ksE es = l.map EV.k) (hes : ∀ (i : Nat) (x : EV), l[i]? = some x → ∃ e, es[i]? = some e ∧ Rel h x e) (h20 : ∀ x ∈ l, x.n ≤ 1000) {xb : Nat} (hxb : xb < s) (e : EN) {p' : Option Addr} (bx : h.get xb = some (.cells ⟨ev e p' e.data.length⟩ 43 (0, 0))) (sx : Sl EI h p' e.data.length e.data.length e.data) {pw : Nat → Prop} {Z : Value → T → Prop} (hp : ∀ n, s ≤ n → pw n)
    {J : Value → Nat → AM} (hJ : ∀ (b : Bool) h2 s2, From s h h2 s2 → ((∃ j, es[j]? = some e ∧ fr (ksE es) j = true) → b = true) → (J (.bool b) s2).wp pw Z h2) {K : KV} (B : (Value → Value → Nat → AM) → Value → Value → Nat → AM) (hB : ∀ H u k s', B H u k s' = X11_11 N (D N (d + 11)) K (.slice pl ln cl) (ptr xb) J H u k s') :
    ∀ (m k : Nat) (b : Bool) (h2 : T) (s2 : Nat), ln - k < m → k ≤ ln → From s h h2 s2 → ((∃ j, j < k ∧ es[j]? = some e ∧ fr (ksE es) j = true) → b = true) → (loopJ m 2 (fun _ _ _ => AM.fail) B (.bool b) (vi k) s2).wp pw Z h2 := by
  intro m
  induction m with
  | zero => intro k b h2 s2 hm; omega
  | succ m ih =>
    intro k b h2 s2 hm hki g2 hb
    have rl2 := g2.row hf rl
    rw [loopJ_succ, hB]
    unfold X11_11
    by_cases hlt : k < ln
    · obtain ⟨y, hy⟩ := get_some (l := l) (i := k) (by rw [rl.1]; omega)
      obtain ⟨ey, hey, q1, q2, q3, q4⟩ := hes k y hy
      unfold X11_10 X11_9 X11_8
      cases b with
      | true =>
        try simp (disch := first | assumption | omega | (simp only [Int.ofNat_eq_natCast, neg_one]; done) | (simp only [Int.ofNat_eq_natCast, neg_one]; omega)) only [tysW, w_bindJ, w_logJ, w_ct, w_cf, w_gtt, w_gft, w_gtf, w_gff, w_pt, w_pf, w_lret, w_e0, w_e1, w_e2, w_nil, w_fun, w_nt, w_nf, w_add, w_sub, w_eqt, w_eqf, w_net, w_nef, w_ltt, w_ltf, w_let, w_lef, w_gtt', w_gtf', w_get, w_gef, toNat_of, of_add, cast_add, nth_0, nth_s, Nat.zero_add, Nat.reduceAdd, Nat.reduceMul, Nat.add_zero, List.length_cons, List.length_nil, List.drop_zero, List.drop_succ_cons, List.take_succ_cons, List.take_zero, List.take_nil, true_and, and_true, Int.toNat_natCast, List.append_nil, List.nil_append, List.cons_append, w_gu]
        exact ih (k + 1) true h2 s2 (by omega) (by omega) g2 fun _ => rfl
      | false =>
        have hno : ∀ b', (fr (ksE es) k = true → ey = e → b' = true) → ((∃ j, j < k + 1 ∧ es[j]? = some e ∧ fr (ksE es) j = true) → b' = true) := fun b' hb' ⟨j, hj, h3, h4⟩ => by
          rcases Nat.lt_or_ge j k with h6 | h6
          · cases hb ⟨j, h6, h3, h4⟩
          · rw [show j = k by omega] at h3 h4
            rw [hey] at h3
            exact hb' h4 (Option.some.inj h3)
        try simp (disch := first | assumption | omega | (simp only [Int.ofNat_eq_natCast, neg_one]; done) | (simp only [Int.ofNat_eq_natCast, neg_one]; omega)) only [tysW, w_bindJ, w_logJ, w_ct, w_cf, w_gtt, w_gft, w_gtf, w_gff, w_pt, w_pf, w_lret, w_e0, w_e1, w_e2, w_nil, w_fun, w_nt, w_nf, w_add, w_sub, w_eqt, w_eqf, w_net, w_nef, w_ltt, w_ltf, w_let, w_lef, w_gtt', w_gtf', w_get, w_gef, toNat_of, of_add, cast_add, nth_0, nth_s, Nat.zero_add, Nat.reduceAdd, Nat.reduceMul, Nat.add_zero, List.length_cons, List.length_nil, List.drop_zero, List.drop_succ_cons, List.take_succ_cons, List.take_zero, List.take_nil, true_and, and_true, Int.toNat_natCast, List.append_nil, List.nil_append, List.cons_append]
        refine ValS.goL g2 hp (s44 (d := d + 9) hN g2.fresh rl2 (by omega) (i := k) (by omega)) fun h3 s3 ts3 ws3 g3 c3 hw3 ht3 => ?_
        rw [← hks]
        have rl3 := g3.row hf rl
        have bx3 := g3.box bx hxb
        simp only [ev] at bx3
        cases hfr : fr (ksE es) k with
        | false =>
          try simp (disch := first | assumption | omega | (simp only [Int.ofNat_eq_natCast, neg_one]; done) | (simp only [Int.ofNat_eq_natCast, neg_one]; omega)) only [tysW, w_bindJ, w_logJ, w_ct, w_cf, w_gtt, w_gft, w_gtf, w_gff, w_pt, w_pf, w_lret, w_e0, w_e1, w_e2, w_nil, w_fun, w_nt, w_nf, w_add, w_sub, w_eqt, w_eqf, w_net, w_nef, w_ltt, w_ltf, w_let, w_lef, w_gtt', w_gtf', w_get, w_gef, toNat_of, of_add, cast_add, nth_0, nth_s, Nat.zero_add, Nat.reduceAdd, Nat.reduceMul, Nat.add_zero, List.length_cons, List.length_nil, List.drop_zero, List.drop_succ_cons, List.take_succ_cons, List.take_zero, List.take_nil, true_and, and_true, Int.toNat_natCast, List.append_nil, List.nil_append, List.cons_append]
          exact ih (k + 1) false h3 s3 (by omega) (by omega) g3 (hno false fun h => by rw [hfr] at h; cases h)
        | true =>
          try simp (disch := first | assumption | omega | (simp only [Int.ofNat_eq_natCast, neg_one]; done) | (simp only [Int.ofNat_eq_natCast, neg_one]; omega)) only [tysW, w_bindJ, w_logJ, w_ct, w_cf, w_gtt, w_gft, w_gtf, w_gff, w_pt, w_pf, w_lret, w_e0, w_e1, w_e2, w_nil, w_fun, w_nt, w_nf, w_add, w_sub, w_eqt, w_eqf, w_net, w_nef, w_ltt, w_ltf, w_let, w_lef, w_gtt', w_gtf', w_get, w_gef, toNat_of, of_add, cast_add, nth_0, nth_s, Nat.zero_add, Nat.reduceAdd, Nat.reduceMul, Nat.add_zero, List.length_cons, List.length_nil, List.drop_zero, List.drop_succ_cons, List.take_succ_cons, List.take_zero, List.take_nil, true_and, and_true, Int.toNat_natCast, List.append_nil, List.nil_append, List.cons_append, ldB bx3, clB bx3, ldBL bx3, clBL bx3, xaE rl3 (j := (k : Int)) (by omega) (by omega), entAL rl3 hy]
          have e1 : Value.agg ⟨xv y⟩ = eval ey y.p y.c := by simp only [xv, eval, ev, q1, q2, q3]
          have sl3 := q4.from hf g3
          rw [q3] at sl3
          have hyn := h20 y (List.mem_of_getElem? hy)
          rw [e1, show Value.agg ⟨[vi e.k.a, vi e.k.b, vi e.k.c, .bool e.inp, .slice p' e.data.length e.data.length]⟩ = eval e p' e.data.length from rfl]
          refine PureS.goL g3 hp (s35 (d := d + 9) hN g3.fresh ey e sl3.row ((sx.from hf g3).row) (by omega)) fun v h4 s4 ts4 ws4 g4 c4 hv hw4 ht4 => ?_
          obtain ⟨b', rfl, hb'⟩ := hv
          try simp (disch := first | assumption | omega | (simp only [Int.ofNat_eq_natCast, neg_one]; done) | (simp only [Int.ofNat_eq_natCast, neg_one]; omega)) only [tysW, w_bindJ, w_logJ, w_ct, w_cf, w_gtt, w_gft, w_gtf, w_gff, w_pt, w_pf, w_lret, w_e0, w_e1, w_e2, w_nil, w_fun, w_nt, w_nf, w_add, w_sub, w_eqt, w_eqf, w_net, w_nef, w_ltt, w_ltf, w_let, w_lef, w_gtt', w_gtf', w_get, w_gef, toNat_of, of_add, cast_add, nth_0, nth_s, Nat.zero_add, Nat.reduceAdd, Nat.reduceMul, Nat.add_zero, List.length_cons, List.length_nil, List.drop_zero, List.drop_succ_cons, List.take_succ_cons, List.take_zero, List.take_nil, true_and, and_true, Int.toNat_natCast, List.append_nil, List.nil_append, List.cons_append]
          exact ih (k + 1) b' h4 s4 (by omega) (by omega) g4 (hno b' fun _ h => hb'.2 h)
    · obtain rfl : k = ln := by omega
      try simp (disch := first | assumption | omega | (simp only [Int.ofNat_eq_natCast, neg_one]; done) | (simp only [Int.ofNat_eq_natCast, neg_one]; omega)) only [tysW, w_bindJ, w_logJ, w_ct, w_cf, w_gtt, w_gft, w_gtf, w_gff, w_pt, w_pf, w_lret, w_e0, w_e1, w_e2, w_nil, w_fun, w_nt, w_nf, w_add, w_sub, w_eqt, w_eqf, w_net, w_nef, w_ltt, w_ltf, w_let, w_lef, w_gtt', w_gtf', w_get, w_gef, toNat_of, of_add, cast_add, nth_0, nth_s, Nat.zero_add, Nat.reduceAdd, Nat.reduceMul, Nat.add_zero, List.length_cons, List.length_nil, List.drop_zero, List.drop_succ_cons, List.take_succ_cons, List.take_zero, List.take_nil, true_and, and_true, Int.toNat_natCast, List.append_nil, List.nil_append, List.cons_append]
      exact hJ b h2 s2 g2 fun ⟨j, h3, h4⟩ => hb ⟨j, by
        have := (List.getElem?_eq_some_iff.1 h3).1
        have h5 : (ksE es).length = (l.map EV.k).length := by rw [hks]
        rw [ks_len, List.length_map, rl.1] at h5
        omega, h3, h4⟩
end
end Go.Ev.R
namespace Go.Ev.R
open Go Go.RowKit
theorem row30L {h : T} {p : Option Addr} {len : Nat} {l : List K3} (r : Row EK h p len l) {x : K3} (hx : l[0]? = some x) {pw : Nat → Prop} {Z : Value → T → Prop} (q : List Value → Value) (j : LogT) (s : Nat) : (AM.log (acells (blk p) (off p) 3 (fun l s => .ret (pk (q l) s)) s) (logU j)).wp pw Z h = (j (q (kv x)) [blk p] [] s).wp pw Z h := by
  have := row3L r hx (pw := pw) (Z := Z) q j s
  rwa [Nat.zero_mul, Nat.add_zero] at this
theorem xa30 {h : T} {p : Option Addr} {len : Nat} {l : List K3} (r : Row EK h p len l) (h0 : 0 < len) (cap : Nat) (k : Value → Nat → AM) (s : Nat) : M.opt (aindexAt P 24 (.slice p len cap) (i64 0)) k s = k (.pointer (some ⟨blk p, off p, none⟩)) s := by
  have := xa3 r (j := Int.ofNat 0) (by decide) (by simp only [Int.ofNat_eq_natCast]; omega) cap .i64 k s
  rwa [show (Int.ofNat 0).toNat = 0 from rfl, Nat.zero_mul, Nat.add_zero] at this
section
variable {N d : Nat} (hN : 100000 ≤ N) {h : T} {s : Nat} (hf : ∀ n, s ≤ n → h.get n = none)
include hN hf
set_option maxHeartbeats 1000000 in
/-- All are dropped. -/
theorem dropW {pl : Option Addr} {ln cl : Nat} {l : List EV} (rl : Row EE h pl ln l) (hln : ln ≤ 40) {es : List EN} (hks : ksE es = l.map EV.k) (hes : ∀ (i : Nat) (x : EV), l[i]? = some x → ∃ e, es[i]? = some e ∧ Rel h x e) (h20 : ∀ x ∈ l, x.n ≤ 1000) {rb q : Nat} (hrb : s ≤ rb) (hq : s ≤ q) {pw : Nat → Prop} {Z : Value → T → Prop} (hp : ∀ n, s ≤ n → pw n)
    {J : Nat → AM} (hJ : ∀ h2 s2, From s h h2 s2 → (J s2).wp pw Z h2) {K : KV} (B : (Value → Value → Nat → AM) → Value → Value → Nat → AM) (hB : ∀ H u k s', B H u k s' = X11_12 N (D N (d + 11)) K (ptr rb) (.slice pl ln cl) J H u k s') :
    ∀ (m n : Nat) (u : Value) (h2 : T) (s2 first : Nat) (bs : List Nat) (L : List EN), n < m → n = L.length → From s h h2 s2 → RingAt h2 rb q 40 first bs L → risingK (ksE L) = true → (∀ e ∈ L, ∃ j, es[j]? = some e ∧ fr (ksE es) j = true) → (∀ e ∈ L, e.data.length ≤ 1000) → (loopJ m 2 (fun _ _ _ => AM.fail) B u (vi n) s2).wp pw Z h2 := by
  intro m
  induction m with
  | zero => intro n u h2 s2 first bs L hm; omega
  | succ m ih =>
    intro n u h2 s2 first bs L hm hnL g2 r2 hr hmem hd
    rw [loopJ_succ, hB]
    unfold X11_12
    cases L with
    | nil =>
      obtain rfl : n = 0 := hnL
      try simp (disch := first | assumption | omega | (simp only [Int.ofNat_eq_natCast, neg_one]; done) | (simp only [Int.ofNat_eq_natCast, neg_one]; omega)) only [tysW, w_bindJ, w_logJ, w_ct, w_cf, w_gtt, w_gft, w_gtf, w_gff, w_pt, w_pf, w_lret, w_e0, w_e1, w_e2, w_nil, w_fun, w_nt, w_nf, w_add, w_sub, w_eqt, w_eqf, w_net, w_nef, w_ltt, w_ltf, w_let, w_lef, w_gtt', w_gtf', w_get, w_gef, toNat_of, of_add, cast_add, nth_0, nth_s, Nat.zero_add, Nat.reduceAdd, Nat.reduceMul, Nat.add_zero, List.length_cons, List.length_nil, List.drop_zero, List.drop_succ_cons, List.take_succ_cons, List.take_zero, List.take_nil, true_and, and_true, Int.toNat_natCast, List.append_nil, List.nil_append, List.cons_append]
      exact hJ h2 s2 g2
    | cons e L =>
      have hlen := r2.len
      cases bs with
      | nil => simp at hlen
      | cons b bs =>
        have hle := r2.le
        rw [List.length_cons] at hnL hlen hle
        rw [List.length_cons] at hlen
        try simp (disch := first | assumption | omega | (simp only [Int.ofNat_eq_natCast, neg_one]; done) | (simp only [Int.ofNat_eq_natCast, neg_one]; omega)) only [tysW, w_bindJ, w_logJ, w_ct, w_cf, w_gtt, w_gft, w_gtf, w_gff, w_pt, w_pf, w_lret, w_e0, w_e1, w_e2, w_nil, w_fun, w_nt, w_nf, w_add, w_sub, w_eqt, w_eqf, w_net, w_nef, w_ltt, w_ltf, w_let, w_lef, w_gtt', w_gtf', w_get, w_gef, toNat_of, of_add, cast_add, nth_0, nth_s, Nat.zero_add, Nat.reduceAdd, Nat.reduceMul, Nat.add_zero, List.length_cons, List.length_nil, List.drop_zero, List.drop_succ_cons, List.take_succ_cons, List.take_zero, List.take_nil, true_and, and_true, Int.toNat_natCast, List.append_nil, List.nil_append, List.cons_append]
        refine s34 (d := d + 7) g2 hrb hq hp r2 (by decide) (fun x hx => by have := hd x hx; omega) fun h3 s3 p3 g3 l3 r3 a3 _ _ => ?_
        simp only [eval, ev]
        try simp (disch := first | assumption | omega | (simp only [Int.ofNat_eq_natCast, neg_one]; done) | (simp only [Int.ofNat_eq_natCast, neg_one]; omega)) only [tysW, w_bindJ, w_logJ, w_ct, w_cf, w_gtt, w_gft, w_gtf, w_gff, w_pt, w_pf, w_lret, w_e0, w_e1, w_e2, w_nil, w_fun, w_nt, w_nf, w_add, w_sub, w_eqt, w_eqf, w_net, w_nef, w_ltt, w_ltf, w_let, w_lef, w_gtt', w_gtf', w_get, w_gef, toNat_of, of_add, cast_add, nth_0, nth_s, Nat.zero_add, Nat.reduceAdd, Nat.reduceMul, Nat.add_zero, List.length_cons, List.length_nil, List.drop_zero, List.drop_succ_cons, List.take_succ_cons, List.take_zero, List.take_nil, true_and, and_true, Int.toNat_natCast, List.append_nil, List.nil_append, List.cons_append]
        refine wp_boxA g3 hp fun h4 g4 c4 b4 => ?_
        have l4 := c4.le
        try simp (disch := first | assumption | omega | (simp only [Int.ofNat_eq_natCast, neg_one]; done) | (simp only [Int.ofNat_eq_natCast, neg_one]; omega)) only [tysW, w_bindJ, w_logJ, w_ct, w_cf, w_gtt, w_gft, w_gtf, w_gff, w_pt, w_pf, w_lret, w_e0, w_e1, w_e2, w_nil, w_fun, w_nt, w_nf, w_add, w_sub, w_eqt, w_eqf, w_net, w_nef, w_ltt, w_ltf, w_let, w_lef, w_gtt', w_gtf', w_get, w_gef, toNat_of, of_add, cast_add, nth_0, nth_s, Nat.zero_add, Nat.reduceAdd, Nat.reduceMul, Nat.add_zero, List.length_cons, List.length_nil, List.drop_zero, List.drop_succ_cons, List.take_succ_cons, List.take_zero, List.take_nil, true_and, and_true, Int.toNat_natCast, List.append_nil, List.nil_append, List.cons_append]
        refine wp_putF g4 hp b4 (by have := g3.le; omega) (by exact Nat.le_refl 5) rfl fun h5 g5 b5 e5 => ?_
        simp only [overL] at b5
        have a5 : Sl EI h5 p3 e.data.length e.data.length e.data := a3.but fun hc => by
          have := a3.lt g3.fresh hc
          rw [e5 _ (by omega), c4.keep _ (by omega)]
        have r5 : RingAt h5 rb q 40 (ix first 40 1) bs L := r3.from g3.fresh ⟨by omega, fun n hn => by rw [e5 n (by omega), c4.keep n (by omega)], g5.fresh⟩
        try simp (disch := first | assumption | omega | (simp only [Int.ofNat_eq_natCast, neg_one]; done) | (simp only [Int.ofNat_eq_natCast, neg_one]; omega)) only [tysW, w_bindJ, w_logJ, w_ct, w_cf, w_gtt, w_gft, w_gtf, w_gff, w_pt, w_pf, w_lret, w_e0, w_e1, w_e2, w_nil, w_fun, w_nt, w_nf, w_add, w_sub, w_eqt, w_eqf, w_net, w_nef, w_ltt, w_ltf, w_let, w_lef, w_gtt', w_gtf', w_get, w_gef, toNat_of, of_add, cast_add, nth_0, nth_s, Nat.zero_add, Nat.reduceAdd, Nat.reduceMul, Nat.add_zero, List.length_cons, List.length_nil, List.drop_zero, List.drop_succ_cons, List.take_succ_cons, List.take_zero, List.take_nil, true_and, and_true, Int.toNat_natCast, List.append_nil, List.nil_append, List.cons_append]
        refine PureS.go g5 hp (s41 (d := d + 9) hN g5.fresh r5 (by decide)) fun v h6 s6 g6 c6 hv => ?_
        obtain ⟨p6, rfl, o6⟩ := hv
        have l6 := c6.le
        have r6 := r5.from g5.fresh c6
        have b6 := c6.box b5 (by omega)
        have a6 := a5.from g5.fresh c6
        have rl6 := g6.row hf rl
        try simp (disch := first | assumption | omega | (simp only [Int.ofNat_eq_natCast, neg_one]; done) | (simp only [Int.ofNat_eq_natCast, neg_one]; omega)) only [tysW, w_bindJ, w_logJ, w_ct, w_cf, w_gtt, w_gft, w_gtf, w_gff, w_pt, w_pf, w_lret, w_e0, w_e1, w_e2, w_nil, w_fun, w_nt, w_nf, w_add, w_sub, w_eqt, w_eqf, w_net, w_nef, w_ltt, w_ltf, w_let, w_lef, w_gtt', w_gtf', w_get, w_gef, toNat_of, of_add, cast_add, nth_0, nth_s, Nat.zero_add, Nat.reduceAdd, Nat.reduceMul, Nat.add_zero, List.length_cons, List.length_nil, List.drop_zero, List.drop_succ_cons, List.take_succ_cons, List.take_zero, List.take_nil, true_and, and_true, Int.toNat_natCast, List.append_nil, List.nil_append, List.cons_append]
        refine foundW hN g6.fresh rl6 hln hks (fun i x hx => ?_) h20 (xb := s3) (by omega) e b6 a6 (fun n hn => hp n (by have := g6.le; omega)) (fun fb h7 s7 g7 hfb => ?_) _ (fun _ _ _ _ => rfl) N 0 false h6 s6 (by omega) (by omega) (.refl g6.fresh) (fun ⟨j, hj, _⟩ => by omega)
        · obtain ⟨e', x1, x2, x3, x4, x5⟩ := hes i x hx
          exact ⟨e', x1, x2, x3, x4, x5.from hf g6⟩
        obtain rfl := hfb (hmem e (List.mem_cons_self ..))
        have G7 := g6.trans g7
        have b7 := g7.box b6 (by omega)
        have o7 := (o6.from g6.fresh g7).sl.row
        have r7 := r6.from g6.fresh g7
        have hiL : ∀ (h8 : T) (s8 : Nat), From s h h8 s8 → RingAt h8 rb q 40 (ix first 40 1) bs L → (loopJ m 2 (fun _ _ _ => AM.fail) B u (vi (L.length : Nat)) s8).wp pw Z h8 := fun h8 s8 g8 r8 => ih L.length u h8 s8 _ bs L (by omega) rfl g8 r8 (rise_tail hr) (fun x hx => hmem x (List.mem_cons_of_mem _ hx)) (fun x hx => hd x (List.mem_cons_of_mem _ hx))
        subst hnL
        unfold X11_7 X11_6 X11_5 X11_4 X11_3 X11_2 X11_1
        try simp (disch := first | assumption | omega | (simp only [Int.ofNat_eq_natCast, neg_one]; done) | (simp only [Int.ofNat_eq_natCast, neg_one]; omega)) only [tysW, w_bindJ, w_logJ, w_ct, w_cf, w_gtt, w_gft, w_gtf, w_gff, w_pt, w_pf, w_lret, w_e0, w_e1, w_e2, w_nil, w_fun, w_nt, w_nf, w_add, w_sub, w_eqt, w_eqf, w_net, w_nef, w_ltt, w_ltf, w_let, w_lef, w_gtt', w_gtf', w_get, w_gef, toNat_of, of_add, cast_add, nth_0, nth_s, Nat.zero_add, Nat.reduceAdd, Nat.reduceMul, Nat.add_zero, List.length_cons, List.length_nil, List.drop_zero, List.drop_succ_cons, List.take_succ_cons, List.take_zero, List.take_nil, true_and, and_true, Int.toNat_natCast, List.append_nil, List.nil_append, List.cons_append, ldB b7, clB b7, ldBL b7, clBL b7, w_gu]
        cases L with
        | nil =>
          try simp (disch := first | assumption | omega | (simp only [Int.ofNat_eq_natCast, neg_one]; done) | (simp only [Int.ofNat_eq_natCast, neg_one]; omega)) only [tysW, w_bindJ, w_logJ, w_ct, w_cf, w_gtt, w_gft, w_gtf, w_gff, w_pt, w_pf, w_lret, w_e0, w_e1, w_e2, w_nil, w_fun, w_nt, w_nf, w_add, w_sub, w_eqt, w_eqf, w_net, w_nef, w_ltt, w_ltf, w_let, w_lef, w_gtt', w_gtf', w_get, w_gef, toNat_of, of_add, cast_add, nth_0, nth_s, Nat.zero_add, Nat.reduceAdd, Nat.reduceMul, Nat.add_zero, List.length_cons, List.length_nil, List.drop_zero, List.drop_succ_cons, List.take_succ_cons, List.take_zero, List.take_nil, true_and, and_true, Int.toNat_natCast, List.append_nil, List.nil_append, List.cons_append, w_gu]
          rw [wp_guard, if_pos (by repeat' (first | exact dynOk_nil _ _ | refine dyn_skip' ?_ | refine dyn_cons ?_ ?_ | exact allF_nil _ _ | refine allF_cons ?_ ?_))]
          try simp (disch := first | assumption | omega | (simp only [Int.ofNat_eq_natCast, neg_one]; done) | (simp only [Int.ofNat_eq_natCast, neg_one]; omega)) only [tysW, w_bindJ, w_logJ, w_ct, w_cf, w_gtt, w_gft, w_gtf, w_gff, w_pt, w_pf, w_lret, w_e0, w_e1, w_e2, w_nil, w_fun, w_nt, w_nf, w_add, w_sub, w_eqt, w_eqf, w_net, w_nef, w_ltt, w_ltf, w_let, w_lef, w_gtt', w_gtf', w_get, w_gef, toNat_of, of_add, cast_add, nth_0, nth_s, Nat.zero_add, Nat.reduceAdd, Nat.reduceMul, Nat.add_zero, List.length_cons, List.length_nil, List.drop_zero, List.drop_succ_cons, List.take_succ_cons, List.take_zero, List.take_nil, true_and, and_true, Int.toNat_natCast, List.append_nil, List.nil_append, List.cons_append, w_gu]
          exact hiL h7 s7 G7 r7
        | cons y L =>
          have hy : (ksE (y :: L))[0]? = some y.k := rfl
          try simp (disch := first | assumption | omega | (simp only [Int.ofNat_eq_natCast, neg_one]; done) | (simp only [Int.ofNat_eq_natCast, neg_one]; omega)) only [tysW, w_bindJ, w_logJ, w_ct, w_cf, w_gtt, w_gft, w_gtf, w_gff, w_pt, w_pf, w_lret, w_e0, w_e1, w_e2, w_nil, w_fun, w_nt, w_nf, w_add, w_sub, w_eqt, w_eqf, w_net, w_nef, w_ltt, w_ltf, w_let, w_lef, w_gtt', w_gtf', w_get, w_gef, toNat_of, of_add, cast_add, nth_0, nth_s, Nat.zero_add, Nat.reduceAdd, Nat.reduceMul, Nat.add_zero, List.length_cons, List.length_nil, List.drop_zero, List.drop_succ_cons, List.take_succ_cons, List.take_zero, List.take_nil, true_and, and_true, Int.toNat_natCast, List.append_nil, List.nil_append, List.cons_append, ldB b7, clB b7, ldBL b7, clBL b7, w_gu]
          refine ValS.goL G7 hp (s45 (d := d + 10) G7.fresh e.k.a e.k.b e.k.c e.inp (.slice p3 e.data.length e.data.length)) fun h8 s8 ts8 ws8 g8 c8 hw8 ht8 => ?_
          have o8 := (o6.from g6.fresh (g7.trans c8)).sl.row
          have hpb : blk p6 < s7 := (o6.from g6.fresh g7).sl.row.below g7.fresh (i := 0) (by simp)
          rw [List.length_cons] at o8
          simp only [List.length_cons] at hlen
          try simp (disch := first | assumption | omega | (simp only [Int.ofNat_eq_natCast, neg_one]; done) | (simp only [Int.ofNat_eq_natCast, neg_one]; omega)) only [tysW, w_bindJ, w_logJ, w_ct, w_cf, w_gtt, w_gft, w_gtf, w_gff, w_pt, w_pf, w_lret, w_e0, w_e1, w_e2, w_nil, w_fun, w_nt, w_nf, w_add, w_sub, w_eqt, w_eqf, w_net, w_nef, w_ltt, w_ltf, w_let, w_lef, w_gtt', w_gtf', w_get, w_gef, toNat_of, of_add, cast_add, nth_0, nth_s, Nat.zero_add, Nat.reduceAdd, Nat.reduceMul, Nat.add_zero, List.length_cons, List.length_nil, List.drop_zero, List.drop_succ_cons, List.take_succ_cons, List.take_zero, List.take_nil, true_and, and_true, Int.toNat_natCast, List.append_nil, List.nil_append, List.cons_append, xa30 o8 (by omega), row30L o8 hy, w_gu]
          refine ValS.goL g8 hp (s17 (d := d + 7) hN g8.fresh e.k y.k) fun h9 s9 ts9 ws9 g9 c9 hw9 ht9 => ?_
          rw [rise_head hr rfl]
          try simp (disch := first | assumption | omega | (simp only [Int.ofNat_eq_natCast, neg_one]; done) | (simp only [Int.ofNat_eq_natCast, neg_one]; omega)) only [tysW, w_bindJ, w_logJ, w_ct, w_cf, w_gtt, w_gft, w_gtf, w_gff, w_pt, w_pf, w_lret, w_e0, w_e1, w_e2, w_nil, w_fun, w_nt, w_nf, w_add, w_sub, w_eqt, w_eqf, w_net, w_nef, w_ltt, w_ltf, w_let, w_lef, w_gtt', w_gtf', w_get, w_gef, toNat_of, of_add, cast_add, nth_0, nth_s, Nat.zero_add, Nat.reduceAdd, Nat.reduceMul, Nat.add_zero, List.length_cons, List.length_nil, List.drop_zero, List.drop_succ_cons, List.take_succ_cons, List.take_zero, List.take_nil, true_and, and_true, Int.toNat_natCast, List.append_nil, List.nil_append, List.cons_append, w_gu]
          rw [wp_guard, if_pos (by repeat' (first | exact dynOk_nil _ _ | refine dyn_skip' ?_ | refine dyn_cons ?_ ?_ | exact allF_nil _ _ | refine allF_cons ?_ ?_ | exact disj_below hw8 (by omega) | exact disjA hw8 (by omega) | exact disjB hw8 (by omega) | exact disjC hw8 (by assumption) | exact disjD (fun m hm => by have := hw8 m hm; omega) | exact disj_below ht8 (by omega) | exact disjA ht8 (by omega) | exact disjB ht8 (by omega) | exact disjC ht8 (by assumption) | exact disjD (fun m hm => by have := ht8 m hm; omega) | exact disj_below hw9 (by omega) | exact disjA hw9 (by omega) | exact disjB hw9 (by omega) | exact disjC hw9 (by assumption) | exact disjD (fun m hm => by have := hw9 m hm; omega) | exact disj_below ht9 (by omega) | exact disjA ht9 (by omega) | exact disjB ht9 (by omega) | exact disjC ht9 (by assumption) | exact disjD (fun m hm => by have := ht9 m hm; omega) | exact disjN _ | exact disj1 (by omega) | exact disj2 (by omega) | exact disj3 (by assumption) | exact disjC hw8 (fun m hm => by have := ht8 m hm; omega) | exact disjC hw8 (fun m hm => by have := hw9 m hm; omega) | exact disjC hw8 (fun m hm => by have := ht9 m hm; omega) | exact disjC ht8 (fun m hm => by have := hw8 m hm; omega) | exact disjC ht8 (fun m hm => by have := hw9 m hm; omega) | exact disjC ht8 (fun m hm => by have := ht9 m hm; omega) | exact disjC hw9 (fun m hm => by have := hw8 m hm; omega) | exact disjC hw9 (fun m hm => by have := ht8 m hm; omega) | exact disjC hw9 (fun m hm => by have := ht9 m hm; omega) | exact disjC ht9 (fun m hm => by have := hw8 m hm; omega) | exact disjC ht9 (fun m hm => by have := ht8 m hm; omega) | exact disjC ht9 (fun m hm => by have := hw9 m hm; omega)))]
          try simp (disch := first | assumption | omega | (simp only [Int.ofNat_eq_natCast, neg_one]; done) | (simp only [Int.ofNat_eq_natCast, neg_one]; omega)) only [tysW, w_bindJ, w_logJ, w_ct, w_cf, w_gtt, w_gft, w_gtf, w_gff, w_pt, w_pf, w_lret, w_e0, w_e1, w_e2, w_nil, w_fun, w_nt, w_nf, w_add, w_sub, w_eqt, w_eqf, w_net, w_nef, w_ltt, w_ltf, w_let, w_lef, w_gtt', w_gtf', w_get, w_gef, toNat_of, of_add, cast_add, nth_0, nth_s, Nat.zero_add, Nat.reduceAdd, Nat.reduceMul, Nat.add_zero, List.length_cons, List.length_nil, List.drop_zero, List.drop_succ_cons, List.take_succ_cons, List.take_zero, List.take_nil, true_and, and_true, Int.toNat_natCast, List.append_nil, List.nil_append, List.cons_append, w_gu]
          have := hiL h9 s9 g9 (r7.from g7.fresh (c8.trans c9))
          rw [show ((L.length + 1 + 1 : Nat) : Int) - Int.ofNat 1 = (((y :: L).length : Nat) : Int) from by simp only [Int.ofNat_eq_natCast, List.length_cons]; omega]
          exact this
end
end Go.Ev.R
namespace Go.Ev.R
open Go Go.RowKit
section
variable {N d : Nat} (hN : 100000 ≤ N) {h : T} {s : Nat} (hf : ∀ n, s ≤ n → h.get n = none)
include hN hf
set_option maxHeartbeats 1000000 in
theorem s11 {pl : Option Addr} {ln cl : Nat} {l : List EV} (rl : Row EE h pl ln l) (hD : ∀ x ∈ l, ∃ dt : List Int, x.n = dt.length ∧ Sl EI h x.p x.n x.c dt) : ValS (D N (d + 12)) 11 [.slice pl ln cl] h s (.bool true) := by
  refine ValS.of hf fun K pw Z g hp hk => ?_
  rw [D_11]; unfold F11; rw [app1_eq]
  have done_ : ∀ h' s', From s h h' s' → (K (.bool true) s').wp pw Z h' := fun h' s' g' => hk _ _ g'
  rw [D_8]
  by_cases h40 : (40 : Int) < (ln : Int)
  · try simp (disch := first | assumption | omega | (simp only [Int.ofNat_eq_natCast, neg_one]; done) | (simp only [Int.ofNat_eq_natCast, neg_one]; omega)) only [tysW, w_bindJ, w_logJ, w_ct, w_cf, w_gtt, w_gft, w_gtf, w_gff, w_pt, w_pf, w_lret, w_e0, w_e1, w_e2, w_nil, w_fun, w_nt, w_nf, w_add, w_sub, w_eqt, w_eqf, w_net, w_nef, w_ltt, w_ltf, w_let, w_lef, w_gtt', w_gtf', w_get, w_gef, toNat_of, of_add, cast_add, nth_0, nth_s, Nat.zero_add, Nat.reduceAdd, Nat.reduceMul, Nat.add_zero, List.length_cons, List.length_nil, List.drop_zero, List.drop_succ_cons, List.take_succ_cons, List.take_zero, List.take_nil, true_and, and_true, Int.toNat_natCast, List.append_nil, List.nil_append, List.cons_append]
    exact done_ _ _ g
  try simp (disch := first | assumption | omega | (simp only [Int.ofNat_eq_natCast, neg_one]; done) | (simp only [Int.ofNat_eq_natCast, neg_one]; omega)) only [tysW, w_bindJ, w_logJ, w_ct, w_cf, w_gtt, w_gft, w_gtf, w_gff, w_pt, w_pf, w_lret, w_e0, w_e1, w_e2, w_nil, w_fun, w_nt, w_nf, w_add, w_sub, w_eqt, w_eqf, w_net, w_nef, w_ltt, w_ltf, w_let, w_lef, w_gtt', w_gtf', w_get, w_gef, toNat_of, of_add, cast_add, nth_0, nth_s, Nat.zero_add, Nat.reduceAdd, Nat.reduceMul, Nat.add_zero, List.length_cons, List.length_nil, List.drop_zero, List.drop_succ_cons, List.take_succ_cons, List.take_zero, List.take_nil, true_and, and_true, Int.toNat_natCast, List.append_nil, List.nil_append, List.cons_append]
  obtain ⟨es, hel, hks, hes⟩ := choose_E l hD
  have hll := rl.1
  refine PureS.go g hp (s27 (d := d + 10) g.fresh 40 (by decide) (by decide)) fun v h1 s1 g1 c1 hv => ?_
  obtain ⟨rb, q, rfl, hrb, hq, r1⟩ := hv
  have l1 := g1.le
  try simp (disch := first | assumption | omega | (simp only [Int.ofNat_eq_natCast, neg_one]; done) | (simp only [Int.ofNat_eq_natCast, neg_one]; omega)) only [tysW, w_bindJ, w_logJ, w_ct, w_cf, w_gtt, w_gft, w_gtf, w_gff, w_pt, w_pf, w_lret, w_e0, w_e1, w_e2, w_nil, w_fun, w_nt, w_nf, w_add, w_sub, w_eqt, w_eqf, w_net, w_nef, w_ltt, w_ltf, w_let, w_lef, w_gtt', w_gtf', w_get, w_gef, toNat_of, of_add, cast_add, nth_0, nth_s, Nat.zero_add, Nat.reduceAdd, Nat.reduceMul, Nat.add_zero, List.length_cons, List.length_nil, List.drop_zero, List.drop_succ_cons, List.take_succ_cons, List.take_zero, List.take_nil, true_and, and_true, Int.toNat_natCast, List.append_nil, List.nil_append, List.cons_append]
  have loop : ∀ (J : Value → Value → Nat → AM) (hJ : ∀ u h2 s2 bs L, From s h h2 s2 → RingAt h2 rb q 40 0 bs L → Inv es ln L → (∀ x ∈ l, x.n ≤ 20) → (∀ e ∈ L, e.data.length ≤ 20) → (J u (vi (L.length : Nat)) s2).wp pw Z h2) (B : (Value → Value → Value → Nat → AM) → Value → Value → Value → Nat → AM) (hB : ∀ H u n i s', B H u n i s' = X11_21 N (D N (d + 11)) K (.slice pl ln cl) (.bool true) (ptr rb) J H u n i s') (m i : Nat) (u : Value) (h2 : T) (s2 : Nat) (bs : List Nat) (L : List EN), ln - i < m → i ≤ ln → From s h h2 s2 → RingAt h2 rb q 40 0 bs L → Inv es i L → (∀ j x, j < i → l[j]? = some x → x.n ≤ 20) → (∀ e ∈ L, e.data.length ≤ 20) →
      (loopJ m 3 (fun _ _ _ _ => AM.fail) B u (vi (L.length : Nat)) (vi i) s2).wp pw Z h2 := by
    intro J hJ B hB m
    induction m with
    | zero => intro i u h2 s2 bs L hm; omega
    | succ m ih =>
      intro i u h2 s2 bs L hm hil g2 r2 hv hx20 hd2
      have rl2 := g2.row hf rl
      rw [loopJ_succ, hB]
      unfold X11_21
      by_cases hlt : i < ln
      · obtain ⟨x, hx⟩ := get_some (l := l) (i := i) (by rw [rl.1]; omega)
        obtain ⟨e, he, q1, q2, q3, q4⟩ := hes i x hx
        try simp (disch := first | assumption | omega | (simp only [Int.ofNat_eq_natCast, neg_one]; done) | (simp only [Int.ofNat_eq_natCast, neg_one]; omega)) only [tysW, w_bindJ, w_logJ, w_ct, w_cf, w_gtt, w_gft, w_gtf, w_gff, w_pt, w_pf, w_lret, w_e0, w_e1, w_e2, w_nil, w_fun, w_nt, w_nf, w_add, w_sub, w_eqt, w_eqf, w_net, w_nef, w_ltt, w_ltf, w_let, w_lef, w_gtt', w_gtf', w_get, w_gef, toNat_of, of_add, cast_add, nth_0, nth_s, Nat.zero_add, Nat.reduceAdd, Nat.reduceMul, Nat.add_zero, List.length_cons, List.length_nil, List.drop_zero, List.drop_succ_cons, List.take_succ_cons, List.take_zero, List.take_nil, true_and, and_true, Int.toNat_natCast, List.append_nil, List.nil_append, List.cons_append, xaE rl2 (j := (i : Int)) (by omega) (by omega), entD rl2 hx]
        by_cases h20 : (20 : Int) < (x.n : Int)
        · try simp (disch := first | assumption | omega | (simp only [Int.ofNat_eq_natCast, neg_one]; done) | (simp only [Int.ofNat_eq_natCast, neg_one]; omega)) only [tysW, w_bindJ, w_logJ, w_ct, w_cf, w_gtt, w_gft, w_gtf, w_gff, w_pt, w_pf, w_lret, w_e0, w_e1, w_e2, w_nil, w_fun, w_nt, w_nf, w_add, w_sub, w_eqt, w_eqf, w_net, w_nef, w_ltt, w_ltf, w_let, w_lef, w_gtt', w_gtf', w_get, w_gef, toNat_of, of_add, cast_add, nth_0, nth_s, Nat.zero_add, Nat.reduceAdd, Nat.reduceMul, Nat.add_zero, List.length_cons, List.length_nil, List.drop_zero, List.drop_succ_cons, List.take_succ_cons, List.take_zero, List.take_nil, true_and, and_true, Int.toNat_natCast, List.append_nil, List.nil_append, List.cons_append]
          exact done_ _ _ g2
        try simp (disch := first | assumption | omega | (simp only [Int.ofNat_eq_natCast, neg_one]; done) | (simp only [Int.ofNat_eq_natCast, neg_one]; omega)) only [tysW, w_bindJ, w_logJ, w_ct, w_cf, w_gtt, w_gft, w_gtf, w_gff, w_pt, w_pf, w_lret, w_e0, w_e1, w_e2, w_nil, w_fun, w_nt, w_nf, w_add, w_sub, w_eqt, w_eqf, w_net, w_nef, w_ltt, w_ltf, w_let, w_lef, w_gtt', w_gtf', w_get, w_gef, toNat_of, of_add, cast_add, nth_0, nth_s, Nat.zero_add, Nat.reduceAdd, Nat.reduceMul, Nat.add_zero, List.length_cons, List.length_nil, List.drop_zero, List.drop_succ_cons, List.take_succ_cons, List.take_zero, List.take_nil, true_and, and_true, Int.toNat_natCast, List.append_nil, List.nil_append, List.cons_append]
        refine greaterW hN g2.fresh rl2 (by omega) hks hx hlt (fun n hn => hp n (by have := g2.le; omega)) (fun gt h3 s3 g3 hgt => ?_) _ (fun _ _ _ _ => rfl) N 0 0 h2 s2 (by omega) (by omega) (.refl g2.fresh) rfl
        have G3 := g2.trans g3
        have rl3 := G3.row hf rl
        have r3 := r2.from g2.fresh g3
        have hat := hv.at he
        have hcl := cnt_le (fun _ => true) (ksE es) i
        rw [hv.many] at hcl
        unfold X11_15
        try simp (disch := first | assumption | omega | (simp only [Int.ofNat_eq_natCast, neg_one]; done) | (simp only [Int.ofNat_eq_natCast, neg_one]; omega)) only [tysW, w_bindJ, w_logJ, w_ct, w_cf, w_gtt, w_gft, w_gtf, w_gff, w_pt, w_pf, w_lret, w_e0, w_e1, w_e2, w_nil, w_fun, w_nt, w_nf, w_add, w_sub, w_eqt, w_eqf, w_net, w_nef, w_ltt, w_ltf, w_let, w_lef, w_gtt', w_gtf', w_get, w_gef, toNat_of, of_add, cast_add, nth_0, nth_s, Nat.zero_add, Nat.reduceAdd, Nat.reduceMul, Nat.add_zero, List.length_cons, List.length_nil, List.drop_zero, List.drop_succ_cons, List.take_succ_cons, List.take_zero, List.take_nil, true_and, and_true, Int.toNat_natCast, List.append_nil, List.nil_append, List.cons_append, xaE rl3 (j := (i : Int)) (by omega) (by omega), entA rl3 hx]
        have e1 : Value.agg ⟨xv x⟩ = eval e x.p x.c := by simp only [xv, eval, ev, q1, q2, q3]
        have sl3 := q4.from hf G3
        rw [q3] at sl3
        rw [e1]
        refine s28 (d := d + 1) hN G3 hrb hq hp r3 (by decide) hv.rise e sl3 (by omega) fun h4 s4 bs4 g4 hs4 r4 _ => ?_
        have hstep := hv.step (keep := 40) (by omega) he
        have hlen4 := r4.le
        rw [r4.len] at hlen4
        have rl4 := g4.row hf rl
        have hx20' : ∀ j y, j < i + 1 → l[j]? = some y → y.n ≤ 20 := fun j y hj hy => by
          rcases Nat.lt_or_ge j i with h6 | h6
          · exact hx20 j y h6 hy
          · rw [show j = i by omega, hx] at hy; cases hy; omega
        have hd4 : ∀ y ∈ (insE 40 e L).1, y.data.length ≤ 20 := fun y hy => by
          unfold insE at hy
          split at hy
          · exact hd2 y hy
          · split at hy
            · exact hd2 y hy
            · rcases List.mem_append.1 hy with h | h
              · exact hd2 y (List.mem_of_mem_take h)
              · rcases List.mem_cons.1 h with rfl | h
                · omega
                · exact hd2 y (List.mem_of_mem_drop h)
        have next := fun h5 s5 (g5 : From s h h5 s5) (c5 : From s4 h4 h5 s5) => ih (i + 1) u h5 s5 bs4 _ (by omega) (by omega) g5 (r4.from g4.fresh c5) hstep hx20' hd4
        cases hfr : fr (ksE es) i with
        | true =>
          rw [hfr] at hat
          have hpl := pl_le e.k (ksE L)
          rw [ks_len] at hpl
          have hin : insE 40 e L = (L.take (plK e.k (ksE L)) ++ e :: L.drop (plK e.k (ksE L)), (plK e.k (ksE L) : Int), (L.length : Int) - plK e.k (ksE L), 0) := by unfold insE; rw [if_neg (by rw [hat]; simp), if_neg (by omega)]
          have hgt' : gt = L.length - plK e.k (ksE L) := by rw [hgt, q1, hv.cnt]; exact greater hv.rise hat
          rw [hin] at next ⊢
          rw [show (L.take (plK e.k (ksE L)) ++ e :: L.drop (plK e.k (ksE L))).length = L.length + 1 by simp; omega] at next
          try simp (disch := first | assumption | omega | (simp only [Int.ofNat_eq_natCast, neg_one]; done) | (simp only [Int.ofNat_eq_natCast, neg_one]; omega)) only [tysW, w_bindJ, w_logJ, w_ct, w_cf, w_gtt, w_gft, w_gtf, w_gff, w_pt, w_pf, w_lret, w_e0, w_e1, w_e2, w_nil, w_fun, w_nt, w_nf, w_add, w_sub, w_eqt, w_eqf, w_net, w_nef, w_ltt, w_ltf, w_let, w_lef, w_gtt', w_gtf', w_get, w_gef, toNat_of, of_add, cast_add, nth_0, nth_s, Nat.zero_add, Nat.reduceAdd, Nat.reduceMul, Nat.add_zero, List.length_cons, List.length_nil, List.drop_zero, List.drop_succ_cons, List.take_succ_cons, List.take_zero, List.take_nil, true_and, and_true, Int.toNat_natCast, List.append_nil, List.nil_append, List.cons_append]
          refine ValS.go g4 hp (s44 (d := d + 9) hN g4.fresh rl4 (by omega) (i := i) (by omega)) fun h5 s5 g5 c5 => ?_
          rw [← hks, hfr]
          unfold X11_14
          try simp (disch := first | assumption | omega | (simp only [Int.ofNat_eq_natCast, neg_one]; done) | (simp only [Int.ofNat_eq_natCast, neg_one]; omega)) only [tysW, w_bindJ, w_logJ, w_ct, w_cf, w_gtt, w_gft, w_gtf, w_gff, w_pt, w_pf, w_lret, w_e0, w_e1, w_e2, w_nil, w_fun, w_nt, w_nf, w_add, w_sub, w_eqt, w_eqf, w_net, w_nef, w_ltt, w_ltf, w_let, w_lef, w_gtt', w_gtf', w_get, w_gef, toNat_of, of_add, cast_add, nth_0, nth_s, Nat.zero_add, Nat.reduceAdd, Nat.reduceMul, Nat.add_zero, List.length_cons, List.length_nil, List.drop_zero, List.drop_succ_cons, List.take_succ_cons, List.take_zero, List.take_nil, true_and, and_true, Int.toNat_natCast, List.append_nil, List.nil_append, List.cons_append, neb_4, w_gu]
          exact next h5 s5 g5 c5
        | false =>
          rw [hfr] at hat
          have hin : insE 40 e L = (L, 0, 0, 7) := by unfold insE; rw [if_pos (by simpa using hat)]
          rw [hin] at next ⊢
          try simp (disch := first | assumption | omega | (simp only [Int.ofNat_eq_natCast, neg_one]; done) | (simp only [Int.ofNat_eq_natCast, neg_one]; omega)) only [tysW, w_bindJ, w_logJ, w_ct, w_cf, w_gtt, w_gft, w_gtf, w_gff, w_pt, w_pf, w_lret, w_e0, w_e1, w_e2, w_nil, w_fun, w_nt, w_nf, w_add, w_sub, w_eqt, w_eqf, w_net, w_nef, w_ltt, w_ltf, w_let, w_lef, w_gtt', w_gtf', w_get, w_gef, toNat_of, of_add, cast_add, nth_0, nth_s, Nat.zero_add, Nat.reduceAdd, Nat.reduceMul, Nat.add_zero, List.length_cons, List.length_nil, List.drop_zero, List.drop_succ_cons, List.take_succ_cons, List.take_zero, List.take_nil, true_and, and_true, Int.toNat_natCast, List.append_nil, List.nil_append, List.cons_append]
          refine ValS.go g4 hp (s44 (d := d + 9) hN g4.fresh rl4 (by omega) (i := i) (by omega)) fun h5 s5 g5 c5 => ?_
          rw [← hks, hfr]
          unfold X11_14
          try simp (disch := first | assumption | omega | (simp only [Int.ofNat_eq_natCast, neg_one]; done) | (simp only [Int.ofNat_eq_natCast, neg_one]; omega)) only [tysW, w_bindJ, w_logJ, w_ct, w_cf, w_gtt, w_gft, w_gtf, w_gff, w_pt, w_pf, w_lret, w_e0, w_e1, w_e2, w_nil, w_fun, w_nt, w_nf, w_add, w_sub, w_eqt, w_eqf, w_net, w_nef, w_ltt, w_ltf, w_let, w_lef, w_gtt', w_gtf', w_get, w_gef, toNat_of, of_add, cast_add, nth_0, nth_s, Nat.zero_add, Nat.reduceAdd, Nat.reduceMul, Nat.add_zero, List.length_cons, List.length_nil, List.drop_zero, List.drop_succ_cons, List.take_succ_cons, List.take_zero, List.take_nil, true_and, and_true, Int.toNat_natCast, List.append_nil, List.nil_append, List.cons_append, neb_4, w_gu]
          exact next h5 s5 g5 c5
      · obtain rfl : i = ln := by omega
        try simp (disch := first | assumption | omega | (simp only [Int.ofNat_eq_natCast, neg_one]; done) | (simp only [Int.ofNat_eq_natCast, neg_one]; omega)) only [tysW, w_bindJ, w_logJ, w_ct, w_cf, w_gtt, w_gft, w_gtf, w_gff, w_pt, w_pf, w_lret, w_e0, w_e1, w_e2, w_nil, w_fun, w_nt, w_nf, w_add, w_sub, w_eqt, w_eqf, w_net, w_nef, w_ltt, w_ltf, w_let, w_lef, w_gtt', w_gtf', w_get, w_gef, toNat_of, of_add, cast_add, nth_0, nth_s, Nat.zero_add, Nat.reduceAdd, Nat.reduceMul, Nat.add_zero, List.length_cons, List.length_nil, List.drop_zero, List.drop_succ_cons, List.take_succ_cons, List.take_zero, List.take_nil, true_and, and_true, Int.toNat_natCast, List.append_nil, List.nil_append, List.cons_append]
        exact hJ _ _ _ bs L g2 r2 hv (fun x hx => by
          obtain ⟨j, hj⟩ := List.getElem?_of_mem hx
          exact hx20 j x (by have := (List.getElem?_eq_some_iff.1 hj).1; omega) hj) hd2
  refine loop _ (fun u h2 s2 bs L g2 r2 hv hx20 hd2 => ?_) _ (fun _ _ _ _ _ => rfl) N 0 _ h1 s1 [] [] (by omega) (by omega) g1 r1 (.zero es) (fun j x hj => by omega) (fun e he => by simp at he)
  unfold X11_13
  refine PureS.go g2 hp (s41 (d := d + 9) hN g2.fresh r2 (by decide)) fun v h3 s3 g3 c3 hv3 => ?_
  obtain ⟨p3, rfl, o3⟩ := hv3
  have hlen := r2.len
  have hle := r2.le
  have r3 := r2.from g2.fresh c3
  refine ValS.go g3 hp (s21 (d := d + 6) hN g3.fresh o3.sl.row (by omega) o3.sl.emp) fun h4 s4 g4 c4 => ?_
  rw [hv.rise]
  have r4 := r3.from g3.fresh c4
  try simp (disch := first | assumption | omega | (simp only [Int.ofNat_eq_natCast, neg_one]; done) | (simp only [Int.ofNat_eq_natCast, neg_one]; omega)) only [tysW, w_bindJ, w_logJ, w_ct, w_cf, w_gtt, w_gft, w_gtf, w_gff, w_pt, w_pf, w_lret, w_e0, w_e1, w_e2, w_nil, w_fun, w_nt, w_nf, w_add, w_sub, w_eqt, w_eqf, w_net, w_nef, w_ltt, w_ltf, w_let, w_lef, w_gtt', w_gtf', w_get, w_gef, toNat_of, of_add, cast_add, nth_0, nth_s, Nat.zero_add, Nat.reduceAdd, Nat.reduceMul, Nat.add_zero, List.length_cons, List.length_nil, List.drop_zero, List.drop_succ_cons, List.take_succ_cons, List.take_zero, List.take_nil, true_and, and_true, Int.toNat_natCast, List.append_nil, List.nil_append, List.cons_append]
  refine ValS.go g4 hp (s31 (d := d + 9) g4.fresh r4) fun h5 s5 g5 c5 => ?_
  have r5 := r4.from g4.fresh c5
  try simp (disch := first | assumption | omega | (simp only [Int.ofNat_eq_natCast, neg_one]; done) | (simp only [Int.ofNat_eq_natCast, neg_one]; omega)) only [tysW, w_bindJ, w_logJ, w_ct, w_cf, w_gtt, w_gft, w_gtf, w_gff, w_pt, w_pf, w_lret, w_e0, w_e1, w_e2, w_nil, w_fun, w_nt, w_nf, w_add, w_sub, w_eqt, w_eqf, w_net, w_nef, w_ltt, w_ltf, w_let, w_lef, w_gtt', w_gtf', w_get, w_gef, toNat_of, of_add, cast_add, nth_0, nth_s, Nat.zero_add, Nat.reduceAdd, Nat.reduceMul, Nat.add_zero, List.length_cons, List.length_nil, List.drop_zero, List.drop_succ_cons, List.take_succ_cons, List.take_zero, List.take_nil, true_and, and_true, Int.toNat_natCast, List.append_nil, List.nil_append, List.cons_append]
  refine dropW hN hf rl (by omega) hks hes (fun x hx => by have := hx20 x hx; omega) (rb := rb) (q := q) hrb hq hp (fun h6 s6 g6 => done_ _ _ g6) _ (fun _ _ _ _ => rfl) N L.length u h5 s5 0 bs L (by omega) rfl g5 r5 hv.rise (fun e he => ?_) (fun e he => by have := hd2 e he; omega)
  · obtain ⟨j, _, x1, x2⟩ := hv.mem e he
    exact ⟨j, x1, x2⟩
end
end Go.Ev.R

/- The law ReplayPlain, part 2: what the functions answer, by their terms. No condition. -/
import Derived.Test.YtnffkmnjpnlleaaReplayPlainP1
set_option linter.unusedVariables false
set_option linter.unusedSimpArgs false
set_option maxRecDepth 100000
namespace Go.Ev.R
open Go Go.RowKit
def flatR (l : List Run) : List Int := l.flatMap Prod.fst
def sumR (l : List Run) : Int := (l.map Prod.snd).foldr (· + ·) 0
theorem flatR_append (a b : List Run) : flatR (a ++ b) = flatR a ++ flatR b := by unfold flatR; rw [List.flatMap_append]
theorem sumR_append : ∀ (a b : List Run), sumR (a ++ b) = sumR a + sumR b
  | [], b => by simp [sumR]
  | x :: a, b => by
    have := sumR_append a b
    simp only [sumR, List.cons_append, List.map_cons, List.foldr_cons] at this ⊢
    omega
theorem flatR_one (x : Run) : flatR [x] = x.1 := by simp [flatR]
theorem sumR_one (x : Run) : sumR [x] = x.2 := by simp [sumR]
theorem flatR_cons (x : Run) (l : List Run) : flatR (x :: l) = x.1 ++ flatR l := by simp [flatR]
theorem sumR_cons (x : Run) (l : List Run) : sumR (x :: l) = x.2 + sumR l := by simp [sumR]
theorem there_flat : ∀ {l : List Run}, (∀ x ∈ l, 0 ≤ x.2) → flatR (l.filter isThere) = flatR l ∧ sumR (l.filter isThere) = sumR l
  | [], _ => ⟨rfl, rfl⟩
  | x :: l, h => by
    obtain ⟨h1, h2⟩ := there_flat (l := l) fun y hy => h y (List.mem_cons_of_mem _ hy)
    have hx := h x (List.mem_cons_self ..)
    cases ht : isThere x with
    | true => rw [List.filter_cons_of_pos ht, flatR_cons, flatR_cons, sumR_cons, sumR_cons, h1, h2]; exact ⟨rfl, rfl⟩
    | false =>
      have : ¬ (x.1 ≠ [] ∨ 0 < x.2) := of_decide_eq_false ht
      rw [List.filter_cons_of_neg (by simp [ht]), flatR_cons, sumR_cons, h1, h2]
      have h3 : x.1 = [] := Decidable.byContradiction fun e => this (.inl e)
      have h4 : x.2 = 0 := by have : ¬ 0 < x.2 := fun e => this (.inr e); omega
      rw [h3, h4]
      exact ⟨rfl, by omega⟩
structure GoodJ (st : List Run × Run) : Prop where
  t : ∀ r ∈ st.1, 0 < r.2
  b : ∀ (i : Nat) (r : Run), 0 < i → st.1[i]? = some r → r.1 ≠ []
  l : 0 ≤ st.2.2
  n : st.1 ≠ [] → st.2.1 ≠ []
theorem GoodJ.step {st : List Run × Run} (g : GoodJ st) {x : Run} (hx : 0 ≤ x.2) : GoodJ (stepJ st x) ∧ flatR (stepJ st x).1 ++ (stepJ st x).2.1 = flatR st.1 ++ st.2.1 ++ x.1 ∧ sumR (stepJ st x).1 + (stepJ st x).2.2 = sumR st.1 + st.2.2 + x.2 ∧ (stepJ st x).1.length ≤ st.1.length + 1 := by
  unfold stepJ
  by_cases h : x.1 ≠ [] ∧ 0 < st.2.2
  · rw [if_pos h]
    refine ⟨⟨fun r hr => ?_, fun i r hi hr => ?_, hx, fun _ => h.1⟩, ?_, ?_, by simp⟩
    · rcases List.mem_append.1 hr with hr | hr
      · exact g.t r hr
      · rw [List.mem_singleton.1 hr]; exact h.2
    · rcases Nat.lt_or_ge i st.1.length with hlt | hge
      · rw [List.getElem?_append_left hlt] at hr; exact g.b i r hi hr
      · rw [List.getElem?_append_right hge] at hr
        have h0 : i - st.1.length = 0 := by
          have := (List.getElem?_eq_some_iff.1 hr).1
          simp at this; omega
        rw [h0] at hr
        simp at hr
        subst hr
        exact g.n fun e => by rw [e] at hge h0; simp at h0; omega
    · show flatR (st.1 ++ [st.2]) ++ x.1 = _
      rw [flatR_append, flatR_one]
    · show sumR (st.1 ++ [st.2]) + x.2 = _
      rw [sumR_append, sumR_one]
  · rw [if_neg h]
    refine ⟨⟨g.t, g.b, ?_, fun e => ?_⟩, ?_, ?_, by simp⟩
    · show 0 ≤ st.2.2 + x.2
      have := g.l; omega
    · show st.2.1 ++ x.1 ≠ []
      have := g.n e
      intro h2
      exact this (List.append_eq_nil_iff.1 h2).1
    · show flatR st.1 ++ (st.2.1 ++ x.1) = _
      rw [List.append_assoc]
    · show sumR st.1 + (st.2.2 + x.2) = _
      omega
theorem GoodJ.fold : ∀ {l : List Run} {st : List Run × Run}, GoodJ st → (∀ x ∈ l, 0 ≤ x.2) → GoodJ (l.foldl stepJ st) ∧ flatR (l.foldl stepJ st).1 ++ (l.foldl stepJ st).2.1 = flatR st.1 ++ st.2.1 ++ flatR l ∧ sumR (l.foldl stepJ st).1 + (l.foldl stepJ st).2.2 = sumR st.1 + st.2.2 + sumR l ∧ (l.foldl stepJ st).1.length ≤ st.1.length + l.length
  | [], st, g, _ => ⟨g, by simp [flatR], by simp [sumR], Nat.le_refl _⟩
  | x :: l, st, g, h => by
    obtain ⟨g1, f1, s1, n1⟩ := g.step (h x (List.mem_cons_self ..))
    obtain ⟨g2, f2, s2, n2⟩ := GoodJ.fold (l := l) g1 fun y hy => h y (List.mem_cons_of_mem _ hy)
    refine ⟨g2, ?_, ?_, ?_⟩
    · rw [List.foldl_cons, f2, f1, flatR_cons, List.append_assoc]
    · rw [List.foldl_cons, s2, s1, sumR_cons]; omega
    · rw [List.foldl_cons, List.length_cons]; omega
structure PlainR (p : List Run) : Prop where
  t0 : ∀ r ∈ p, 0 ≤ r.2
  t1 : ∀ (i : Nat) (r : Run), i + 1 < p.length → p[i]? = some r → r.2 ≠ 0
  b : ∀ (i : Nat) (r : Run), 0 < i → p[i]? = some r → r.1 ≠ []
  n : ∀ r ∈ p, r.2 = 0 → r.1 ≠ []
theorem plain_of {l : List Run} (h : ∀ x ∈ l, 0 ≤ x.2) : PlainR (plainL l) ∧ flatR (plainL l) = flatR l ∧ sumR (plainL l) = sumR l := by
  have h' : ∀ x ∈ l.filter isThere, 0 ≤ x.2 := fun x hx => h x (List.mem_filter.1 hx).1
  obtain ⟨g, f, s, n⟩ := GoodJ.fold (l := l.filter isThere) (st := ([], ([], 0))) ⟨fun r hr => (by cases hr), fun i r hi hr => (by simp at hr), Int.le_refl _, fun e => absurd rfl e⟩ h'
  obtain ⟨h1, h2⟩ := there_flat h
  rw [h1] at f
  rw [h2] at s
  unfold plainL
  generalize (l.filter isThere).foldl stepJ ([], ([], 0)) = st at g f s n
  have f : flatR st.1 ++ st.2.1 = flatR l := by simpa [flatR] using f
  have s : sumR st.1 + st.2.2 = sumR l := by simpa [sumR] using s
  unfold endJ
  cases ht : isThere st.2 with
  | true =>
    have ht : st.2.1 ≠ [] ∨ 0 < st.2.2 := of_decide_eq_true ht
    rw [if_pos rfl]
    refine ⟨⟨fun r hr => ?_, fun i r hi hr => ?_, fun i r hi hr => ?_, fun r hr h0 => ?_⟩, ?_, ?_⟩
    · rcases List.mem_append.1 hr with hr | hr
      · have := g.t r hr; omega
      · rw [List.mem_singleton.1 hr]; exact g.l
    · rw [List.length_append, List.length_singleton] at hi
      rw [List.getElem?_append_left (by omega)] at hr
      have := g.t r (List.mem_of_getElem? hr); omega
    · rcases Nat.lt_or_ge i st.1.length with hlt | hge
      · rw [List.getElem?_append_left hlt] at hr; exact g.b i r hi hr
      · rw [List.getElem?_append_right hge] at hr
        have h0 : i - st.1.length = 0 := by
          have := (List.getElem?_eq_some_iff.1 hr).1
          simp at this; omega
        rw [h0] at hr
        simp at hr
        subst hr
        exact g.n fun e => by rw [e] at hge h0; simp at h0; omega
    · rcases List.mem_append.1 hr with hr | hr
      · have := g.t r hr; omega
      · rw [List.mem_singleton.1 hr] at h0 ⊢
        rcases ht with ht | ht
        · exact ht
        · omega
    · rw [flatR_append, flatR_one, f]
    · rw [sumR_append, sumR_one, s]
  | false =>
    have ht : ¬ (st.2.1 ≠ [] ∨ 0 < st.2.2) := of_decide_eq_false ht
    have e1 : st.2.1 = [] := Decidable.byContradiction fun e => ht (.inl e)
    have e2 : st.2.2 = 0 := by have : ¬ 0 < st.2.2 := fun e => ht (.inr e); have := g.l; omega
    rw [if_neg (by simp)]
    rw [e1, List.append_nil] at f
    rw [e2] at s
    have hnil : st.1 = [] := Decidable.byContradiction fun e => g.n e e1
    refine ⟨⟨fun r hr => ?_, fun i r hi hr => ?_, fun i r hi hr => ?_, fun r hr h0 => ?_⟩, f, by omega⟩
    all_goals rw [hnil] at hr; simp at hr
/-- It is no longer. -/
theorem plain_le {l : List Run} : (plainL l).length ≤ l.length := by
  have key : ∀ (m : List Run) (st : List Run × Run), (m.foldl stepJ st).1.length ≤ st.1.length + m.length ∧ (st.2.2 = 0 → m ≠ [] → (m.foldl stepJ st).1.length + 1 ≤ st.1.length + m.length) := by
    intro m
    induction m with
    | nil => intro st; exact ⟨Nat.le_refl _, fun _ h => absurd rfl h⟩
    | cons x m ih =>
      intro st
      rw [List.foldl_cons, List.length_cons]
      have h2 : (stepJ st x).1.length ≤ st.1.length + 1 := by unfold stepJ; split <;> simp
      have h3 := (ih (stepJ st x)).1
      refine ⟨by omega, fun h0 _ => ?_⟩
      have h4 : (stepJ st x).1.length = st.1.length := by unfold stepJ; rw [if_neg (fun e => by have := e.2; omega)]
      omega
  have h3 : (l.filter isThere).length ≤ l.length := List.length_filter_le _ _
  unfold plainL endJ
  by_cases he : l.filter isThere = []
  · rw [he]
    simp [isThere]
  · have h2 := (key (l.filter isThere) ([], ([], 0))).2 rfl he
    simp only [List.length_nil] at h2
    split
    · rw [List.length_append, List.length_singleton]; omega
    · omega
theorem fold_plain : ∀ (l : List Run) (A : List Run) (r : Run), (l ≠ [] → 0 < r.2) → (∀ x ∈ l, x.1 ≠ []) → (∀ (i : Nat) (x : Run), i + 1 < l.length → l[i]? = some x → 0 < x.2) → ∃ B x, l.foldl stepJ (A, r) = (B, x) ∧ B ++ [x] = A ++ r :: l
  | [], A, r, _, _, _ => ⟨A, r, rfl, rfl⟩
  | x :: l, A, r, h1, h2, h3 => by
    have hs : stepJ (A, r) x = (A ++ [r], x) := by unfold stepJ; rw [if_pos ⟨h2 x (List.mem_cons_self ..), h1 (by simp)⟩]
    obtain ⟨B, y, e1, e2⟩ := fold_plain l (A ++ [r]) x (fun hl => by
      cases l with
      | nil => exact absurd rfl hl
      | cons z l => exact h3 0 x (by simp) rfl) (fun z hz => h2 z (List.mem_cons_of_mem _ hz)) fun i z hi hz => h3 (i + 1) z (by simp; omega) (by simpa using hz)
    refine ⟨B, y, by rw [List.foldl_cons, hs, e1], by rw [e2]; simp⟩
/-- A plain story is its own plain one. -/
theorem plain_idem {p : List Run} (h : PlainR p) : plainL p = p := by
  have hth : ∀ r ∈ p, isThere r = true := fun r hr => by
    unfold isThere
    refine decide_eq_true ?_
    by_cases h0 : r.2 = 0
    · exact .inl (h.n r hr h0)
    · have := h.t0 r hr; exact .inr (by omega)
  have hf : p.filter isThere = p := List.filter_eq_self.2 hth
  unfold plainL
  rw [hf]
  cases p with
  | nil => rfl
  | cons r l =>
    have hs : stepJ ([], ([], 0)) r = ([], r) := by
      unfold stepJ; rw [if_neg (fun e => by have := e.2; simp at this)]
      simp
    rw [List.foldl_cons, hs]
    obtain ⟨B, x, e1, e2⟩ := fold_plain l [] r (fun hl => by
      have h1 := h.t1 0 r (by cases l with | nil => exact absurd rfl hl | cons => simp) rfl
      have h2 := h.t0 r (List.mem_cons_self ..); omega) (fun x hx => by
      obtain ⟨i, hi⟩ := List.getElem?_of_mem hx
      exact h.b (i + 1) x (by omega) (by simpa using hi)) fun i x hi hx => by
      have h1 := h.t1 (i + 1) x (by simp; omega) (by simpa using hx)
      have h2 := h.t0 x (List.mem_cons_of_mem _ (List.mem_of_getElem? hx)); omega
    rw [e1]
    have hx : isThere x = true := hth x (by have e3 : B ++ [x] = r :: l := by simpa using e2
                                            rw [← e3]; simp)
    unfold endJ
    rw [if_pos hx]
    simpa using e2
end Go.Ev.R
namespace Go.Ev.R
open Go Go.RowKit
theorem D_16 (N d : Nat) (K : KV) (s : Nat) : D N (d + 1) 16 [] K s = K (.bool true) s := by kernel_rfl
def totN (l : List RU) : Nat := (l.map RU.n).foldr (· + ·) 0
theorem totN_append : ∀ (a b : List RU), totN (a ++ b) = totN a + totN b
  | [], b => by simp [totN]
  | x :: a, b => by
    have := totN_append a b
    simp only [totN, List.cons_append, List.map_cons, List.foldr_cons] at this ⊢
    omega
theorem totN_one (x : RU) : totN [x] = x.n := by simp [totN]
theorem totN_le {l : List RU} {x : RU} (hx : x ∈ l) : x.n ≤ totN l := by
  obtain ⟨a, b, rfl⟩ := List.append_of_mem hx
  rw [totN_append, show x :: b = [x] ++ b from rfl, totN_append, totN_one]; omega
theorem totN_max {B : Nat} : ∀ {l : List RU}, (∀ x ∈ l, x.n ≤ B) → totN l ≤ l.length * B
  | [], _ => by simp [totN]
  | x :: l, h => by
    have h1 := totN_max (l := l) fun y hy => h y (List.mem_cons_of_mem _ hy)
    have h2 := h x (List.mem_cons_self ..)
    rw [show x :: l = [x] ++ l from rfl, totN_append, totN_one, List.length_append, List.length_singleton, Nat.add_mul]
    omega
theorem flatR_len {l : List RU} (h : ∀ x ∈ l, x.b.length = x.n) : (flatR (l.map ruC)).length = totN l := by
  induction l with
  | nil => rfl
  | cons x l ih =>
    rw [List.map_cons, flatR_cons, List.length_append, ih fun y hy => h y (List.mem_cons_of_mem _ hy), show x :: l = [x] ++ l from rfl, totN_append, totN_one, ← h x (List.mem_cons_self ..)]; rfl
theorem sumR_le {l : List Run} (h : ∀ x ∈ l, 0 ≤ x.2) {x : Run} (hx : x ∈ l) : x.2 ≤ sumR l := by
  have nn : ∀ m : List Run, (∀ x ∈ m, 0 ≤ x.2) → 0 ≤ sumR m := by
    intro m
    induction m with
    | nil => intro _; exact Int.le_refl _
    | cons y m ih =>
      intro hm
      rw [sumR_cons]
      have := ih fun z hz => hm z (List.mem_cons_of_mem _ hz)
      have := hm y (List.mem_cons_self ..); omega
  obtain ⟨a, b, rfl⟩ := List.append_of_mem hx
  rw [sumR_append, sumR_cons]
  have := nn a fun y hy => h y (by simp [hy])
  have := nn b fun y hy => h y (by simp [hy])
  omega
theorem sumR_max {B : Int} : ∀ {l : List RU}, (∀ x ∈ l, x.t ≤ B) → sumR (l.map ruC) ≤ (l.length : Int) * B
  | [], _ => by simp [sumR]
  | x :: l, h => by
    have h1 := sumR_max (l := l) fun y hy => h y (List.mem_cons_of_mem _ hy)
    have h2 := h x (List.mem_cons_self ..)
    rw [List.map_cons, sumR_cons, List.length_cons]
    have : ((l.length + 1 : Nat) : Int) * B = (l.length : Int) * B + B := by rw [Int.natCast_add, Int.add_mul]; simp
    rw [this]
    show x.t + _ ≤ _
    omega
section
variable {N d : Nat} {h : T} {s : Nat} (hf : ∀ n, s ≤ n → h.get n = none)
include hf
theorem s17 (hN : 100000 ≤ N) {p : Option Addr} {len cap : Nat} {l : List RU} (x : InU h p len l) (hb : ∀ y ∈ l, y.n ≤ 140737488355328) : PureS (D N (d + 1)) 17 [.slice p len cap] h s (fun v _ _ => ∃ b, v = .bool b ∧ (b = false → len ≤ 120 ∧ totN l ≤ 6000)) := by
  refine PureS.of hf fun K pw Z g hp hk => ?_
  rw [D_17]; unfold F17; rw [app1_eq]
  have yes : (K (.bool true) s).wp pw Z h := hk _ _ _ g ⟨true, rfl, fun e => by cases e⟩
  try simp (disch := first | assumption | omega | (simp only [Int.ofNat_eq_natCast, neg_one]; done) | (simp only [Int.ofNat_eq_natCast, neg_one]; omega)) only [tysW, wB, mB, Nat.reduceAdd, Nat.reduceMul, List.length_cons, List.length_nil]
  have loop : ∀ (J : Value → Nat → AM) (hJ : ∀ i, (i = len ∧ i ≤ 121 ∨ i = 121 ∧ i ≤ len) → (J (vi (totN (l.take i) : Nat)) s).wp pw Z h) (B : (Value → Value → Value → Nat → AM) → Value → Value → Value → Nat → AM) (hB : ∀ H u t i s', B H u t i s' = X17_2 N (D N d) K (.slice p len cap) J H u t i s') (q i : Nat) (u : Value), 122 - i < q → i ≤ len → i ≤ 121 →
      (loopJ q 3 (fun _ _ _ _ => AM.fail) B u (vi (totN (l.take i) : Nat)) (vi i) s).wp pw Z h := by
    intro J hJ B hB q
    induction q with
    | zero => intro i u hm; omega
    | succ q ih =>
      intro i u hm hi h121
      rw [loopJ_succ, hB]
      unfold X17_2
      by_cases hlt : i < len
      · by_cases h1 : i < 121
        · obtain ⟨y, hy⟩ := get_some (l := l) (i := i) (by rw [x.r.1]; omega)
          have ym := List.mem_of_getElem? hy
          have hbt : totN (l.take i) ≤ 121 * 140737488355328 := Nat.le_trans (totN_max fun z hz => hb z (List.mem_of_mem_take hz)) (Nat.mul_le_mul (by rw [List.length_take]; omega) (Nat.le_refl _))
          have hyb := hb y ym
          try simp (disch := first | assumption | omega | (simp only [Int.ofNat_eq_natCast, neg_one]; done) | (simp only [Int.ofNat_eq_natCast, neg_one]; omega)) only [tysW, wB, mB, Nat.reduceAdd, Nat.reduceMul, List.length_cons, List.length_nil]
          unfold X17_1
          by_cases ht : 1099511627776 < y.t
          · try simp (disch := first | assumption | omega | (simp only [Int.ofNat_eq_natCast, neg_one]; done) | (simp only [Int.ofNat_eq_natCast, neg_one]; omega)) only [tysW, wB, mB, Nat.reduceAdd, Nat.reduceMul, List.length_cons, List.length_nil, xaU x.r (j := (i : Int)) (by omega) (by omega), ruT x.r hy]
            exact yes
          · try simp (disch := first | assumption | omega | (simp only [Int.ofNat_eq_natCast, neg_one]; done) | (simp only [Int.ofNat_eq_natCast, neg_one]; omega)) only [tysW, wB, mB, Nat.reduceAdd, Nat.reduceMul, List.length_cons, List.length_nil, xaU x.r (j := (i : Int)) (by omega) (by omega), ruT x.r hy, ruB x.r hy]
            rw [show ((totN (l.take i) : Nat) : Int) + (y.n : Int) = ((totN (l.take (i + 1)) : Nat) : Int) by rw [take_snocU hy, totN_append, totN_one]; omega]
            exact ih (i + 1) u (by omega) (by omega) (by omega)
        · try simp (disch := first | assumption | omega | (simp only [Int.ofNat_eq_natCast, neg_one]; done) | (simp only [Int.ofNat_eq_natCast, neg_one]; omega)) only [tysW, wB, mB, Nat.reduceAdd, Nat.reduceMul, List.length_cons, List.length_nil]
          unfold X17_1
          try simp (disch := first | assumption | omega | (simp only [Int.ofNat_eq_natCast, neg_one]; done) | (simp only [Int.ofNat_eq_natCast, neg_one]; omega)) only [tysW, wB, mB, Nat.reduceAdd, Nat.reduceMul, List.length_cons, List.length_nil]
          exact hJ i (.inr ⟨by omega, hi⟩)
      · try simp (disch := first | assumption | omega | (simp only [Int.ofNat_eq_natCast, neg_one]; done) | (simp only [Int.ofNat_eq_natCast, neg_one]; omega)) only [tysW, wB, mB, Nat.reduceAdd, Nat.reduceMul, List.length_cons, List.length_nil]
        unfold X17_1
        try simp (disch := first | assumption | omega | (simp only [Int.ofNat_eq_natCast, neg_one]; done) | (simp only [Int.ofNat_eq_natCast, neg_one]; omega)) only [tysW, wB, mB, Nat.reduceAdd, Nat.reduceMul, List.length_cons, List.length_nil]
        exact hJ i (.inl ⟨by omega, h121⟩)
  refine loop _ (fun i hi => ?_) _ (fun _ _ _ _ _ => rfl) N 0 _ (by omega) (by omega) (by omega)
  by_cases h120 : (120 : Int) < (len : Int)
  · try simp (disch := first | assumption | omega | (simp only [Int.ofNat_eq_natCast, neg_one]; done) | (simp only [Int.ofNat_eq_natCast, neg_one]; omega)) only [tysW, wB, mB, Nat.reduceAdd, Nat.reduceMul, List.length_cons, List.length_nil]
    exact yes
  · have hil : i = len := by omega
    subst hil
    rw [List.take_of_length_le (by rw [x.r.1]; exact Nat.le_refl _)]
    by_cases h6 : (6000 : Int) < ((totN l : Nat) : Int)
    · try simp (disch := first | assumption | omega | (simp only [Int.ofNat_eq_natCast, neg_one]; done) | (simp only [Int.ofNat_eq_natCast, neg_one]; omega)) only [tysW, wB, mB, Nat.reduceAdd, Nat.reduceMul, List.length_cons, List.length_nil]
      exact yes
    · try simp (disch := first | assumption | omega | (simp only [Int.ofNat_eq_natCast, neg_one]; done) | (simp only [Int.ofNat_eq_natCast, neg_one]; omega)) only [tysW, wB, mB, Nat.reduceAdd, Nat.reduceMul, List.length_cons, List.length_nil]
      exact hk _ _ _ g ⟨false, rfl, fun _ => ⟨by omega, by omega⟩⟩
theorem s20 (hN : 100000 ≤ N) {p q : Option Addr} {n c m c' : Nat} {l l' : List RU} (x : InU h p n l) (y : InU h q m l') (he : l.map ruC = l'.map ruC) (hb : ∀ r ∈ l, allBytes r.b) (hl : n ≤ 1000) : ValS (D N (d + 2)) 20 [.slice p n c, .slice q m c'] h s (.bool true) := by
  refine ValS.of hf fun K pw Z g hp hk => ?_
  rw [D_20]; unfold F20; rw [app2_eq]
  have hlen := congrArg List.length he
  rw [List.length_map, List.length_map, x.r.1, y.r.1] at hlen
  subst hlen
  try simp (disch := first | assumption | omega | (simp only [Int.ofNat_eq_natCast, neg_one]; done) | (simp only [Int.ofNat_eq_natCast, neg_one]; omega)) only [tysW, wB, mB, Nat.reduceAdd, Nat.reduceMul, List.length_cons, List.length_nil]
  have loop : ∀ (B : (Value → Value → Nat → AM) → Value → Value → Nat → AM) (hB : ∀ H u i s', B H u i s' = X20_5 N (D N (d + 1)) K (.slice p n c) (.slice q n c') (fun v6 s => K v6 s) H u i s') (k i : Nat) (h1 : T) (s1 : Nat), n - i < k → i ≤ n → From s h h1 s1 →
      (loopJ k 2 (fun _ _ _ => AM.fail) B (.bool true) (vi i) s1).wp pw Z h1 := by
    intro B hB k
    induction k with
    | zero => intro i h1 s1 hm; omega
    | succ k ih =>
      intro i h1 s1 hm hi g1
      have x1 := x.from hf g1
      have y1 := y.from hf g1
      rw [loopJ_succ, hB]
      unfold X20_5
      by_cases hlt : i < n
      · obtain ⟨a, ha⟩ := get_some (l := l) (i := i) (by rw [x.r.1]; omega)
        obtain ⟨b, hbb⟩ := get_some (l := l') (i := i) (by rw [y.r.1]; omega)
        have e : ruC a = ruC b := by
          have := congrArg (fun z => z[i]?) he
          simp only [List.getElem?_map, ha, hbb, Option.map_some, Option.some.injEq] at this
          exact this
        have e1 : a.b = b.b := congrArg Prod.fst e
        have e2 : a.t = b.t := congrArg Prod.snd e
        have am := List.mem_of_getElem? ha
        have bm := List.mem_of_getElem? hbb
        try simp (disch := first | assumption | omega | (simp only [Int.ofNat_eq_natCast, neg_one]; done) | (simp only [Int.ofNat_eq_natCast, neg_one]; omega)) only [tysW, wB, mB, Nat.reduceAdd, Nat.reduceMul, List.length_cons, List.length_nil, xaU x1.r (j := (i : Int)) (by omega) (by omega), ruBL x1.r ha]
        unfold X20_4
        try simp (disch := first | assumption | omega | (simp only [Int.ofNat_eq_natCast, neg_one]; done) | (simp only [Int.ofNat_eq_natCast, neg_one]; omega)) only [tysW, wB, mB, Nat.reduceAdd, Nat.reduceMul, List.length_cons, List.length_nil, xaU y1.r (j := (i : Int)) (by omega) (by omega), ruBL y1.r hbb]
        refine ValS.goL g1 hp (s19 (d := d) g1.fresh (x1.bs a am) (y1.bs b bm) (hb a am) (by rw [← e1]; exact hb a am)) fun h2 s2 ts2 ws2 g2 c2 hw2 ht2 => ?_
        have x2 := x.from hf g2
        have y2 := y.from hf g2
        rw [decide_eq_true e1]
        try simp (disch := first | assumption | omega | (simp only [Int.ofNat_eq_natCast, neg_one]; done) | (simp only [Int.ofNat_eq_natCast, neg_one]; omega)) only [tysW, wB, mB, Nat.reduceAdd, Nat.reduceMul, List.length_cons, List.length_nil]
        unfold X20_3
        try simp (disch := first | assumption | omega | (simp only [Int.ofNat_eq_natCast, neg_one]; done) | (simp only [Int.ofNat_eq_natCast, neg_one]; omega)) only [tysW, wB, mB, Nat.reduceAdd, Nat.reduceMul, List.length_cons, List.length_nil, xaU x2.r (j := (i : Int)) (by omega) (by omega), ruTL x2.r ha]
        unfold X20_2
        try simp (disch := first | assumption | omega | (simp only [Int.ofNat_eq_natCast, neg_one]; done) | (simp only [Int.ofNat_eq_natCast, neg_one]; omega)) only [tysW, wB, mB, Nat.reduceAdd, Nat.reduceMul, List.length_cons, List.length_nil, xaU y2.r (j := (i : Int)) (by omega) (by omega)]
        unfold X20_1
        try simp (disch := first | assumption | omega | (simp only [Int.ofNat_eq_natCast, neg_one]; done) | (simp only [Int.ofNat_eq_natCast, neg_one]; omega)) only [tysW, wB, mB, Nat.reduceAdd, Nat.reduceMul, List.length_cons, List.length_nil, ruTL y2.r hbb]
        exact ih (i + 1) h2 s2 (by omega) (by omega) g2
      · obtain rfl : i = n := by omega
        try simp (disch := first | assumption | omega | (simp only [Int.ofNat_eq_natCast, neg_one]; done) | (simp only [Int.ofNat_eq_natCast, neg_one]; omega)) only [tysW, wB, mB, Nat.reduceAdd, Nat.reduceMul, List.length_cons, List.length_nil]
        exact hk _ _ g1
  exact loop _ (fun _ _ _ _ => rfl) N 0 h s (by omega) (by omega) g
end
end Go.Ev.R
namespace Go.Ev.R
open Go Go.RowKit
theorem flat_mem {l : List Run} {x : Run} (hx : x ∈ l) {b : Int} (hb : b ∈ x.1) : b ∈ flatR l := List.mem_flatMap.2 ⟨x, hx, hb⟩
theorem flat_le {l : List Run} {x : Run} (hx : x ∈ l) : x.1.length ≤ (flatR l).length := by
  obtain ⟨a, b, rfl⟩ := List.append_of_mem hx
  rw [flatR_append, flatR_cons, List.length_append, List.length_append]; omega
section
variable {N d : Nat} {h : T} {s : Nat} (hf : ∀ n, s ≤ n → h.get n = none)
include hf
set_option maxHeartbeats 2000000 in
theorem s3 (hN : N = 100000) {p : Option Addr} {len cap : Nat} {l : List RU} (x : InU h p len l) (hb : ∀ y ∈ l, y.n ≤ 140737488355328) (hby : ∀ y ∈ l, allBytes y.b) : ValS (D N (d + 10)) 3 [.slice p len cap] h s (.bool true) := by
  refine ValS.of hf fun K pw Z g hp hk => ?_
  rw [D_3]; unfold F3; rw [app1_eq, D_16]
  refine PureS.go g hp (s17 (d := d + 8) g.fresh (by omega) x hb) fun v h1 s1 g1 c1 hv => ?_
  obtain ⟨bb, rfl, hbig⟩ := hv
  cases bb with
  | true => try simp (disch := first | assumption | omega | (simp only [Int.ofNat_eq_natCast, neg_one]; done) | (simp only [Int.ofNat_eq_natCast, neg_one]; omega)) only [tysW, wB, mB, Nat.reduceAdd, Nat.reduceMul, List.length_cons, List.length_nil]; exact hk _ _ g1
  | false =>
  obtain ⟨h120, htot⟩ := hbig rfl
  have hyn : ∀ y ∈ l, y.n ≤ 6000 := fun y hy => Nat.le_trans (totN_le hy) htot
  have x1 := x.from hf g1
  have hbl : ∀ y ∈ l, y.b.length = y.n := fun y hy => (x.bs y hy).1
  try simp (disch := first | assumption | omega | (simp only [Int.ofNat_eq_natCast, neg_one]; done) | (simp only [Int.ofNat_eq_natCast, neg_one]; omega)) only [tysW, wB, mB, Nat.reduceAdd, Nat.reduceMul, List.length_cons, List.length_nil]
  -- the first loop
  have loop : ∀ (J : Value → Value → Value → Nat → AM) (hJ : ∀ u pw_ h2 s2, From s h h2 s2 → From s1 h1 h2 s2 → OwnG EB 5 h2 s1 pw_ (flatR (l.map ruC)).length (flatR (l.map ruC)) → (∀ y ∈ l, 0 ≤ y.t ∧ y.t ≤ 1000) → (J u (.slice pw_ (flatR (l.map ruC)).length (flatR (l.map ruC)).length) (vi (sumR (l.map ruC))) s2).wp pw Z h2) (B : (Value → Value → Value → Value → Nat → AM) → Value → Value → Value → Value → Nat → AM) (hB : ∀ H u w t i s', B H u w t i s' = X3_9 N (D N (d + 9)) K (.slice p len cap) (.bool true) J H u w t i s') (q i : Nat) (u : Value) (pw_ : Option Addr) (h2 : T) (s2 : Nat), len - i < q → i ≤ len → From s h h2 s2 → From s1 h1 h2 s2 → OwnG EB 5 h2 s1 pw_ (flatR ((l.take i).map ruC)).length (flatR ((l.take i).map ruC)) → (∀ y ∈ l.take i, 0 ≤ y.t ∧ y.t ≤ 1000) →
      (loopJ q 4 (fun _ _ _ _ _ => AM.fail) B u (.slice pw_ (flatR ((l.take i).map ruC)).length (flatR ((l.take i).map ruC)).length) (vi (sumR ((l.take i).map ruC))) (vi i) s2).wp pw Z h2 := by
    intro J hJ B hB q
    induction q with
    | zero => intro i u pw_ h2 s2 hm; omega
    | succ q ih =>
      intro i u pw_ h2 s2 hm hi g2 c2 o2 ht2
      have x2 := x.from hf g2
      rw [loopJ_succ, hB]
      unfold X3_9
      by_cases hlt : i < len
      · obtain ⟨y, hy⟩ := get_some (l := l) (i := i) (by rw [x.r.1]; omega)
        have ym := List.mem_of_getElem? hy
        by_cases t1 : y.t < 0
        · try simp (disch := first | assumption | omega | (simp only [Int.ofNat_eq_natCast, neg_one]; done) | (simp only [Int.ofNat_eq_natCast, neg_one]; omega)) only [tysW, wB, mB, Nat.reduceAdd, Nat.reduceMul, List.length_cons, List.length_nil, xaU x2.r (j := (i : Int)) (by omega) (by omega), ruT x2.r hy]
          unfold X3_8; try simp (disch := first | assumption | omega | (simp only [Int.ofNat_eq_natCast, neg_one]; done) | (simp only [Int.ofNat_eq_natCast, neg_one]; omega)) only [tysW, wB, mB, Nat.reduceAdd, Nat.reduceMul, List.length_cons, List.length_nil]
          exact hk _ _ g2
        by_cases t2 : 1000 < y.t
        · try simp (disch := first | assumption | omega | (simp only [Int.ofNat_eq_natCast, neg_one]; done) | (simp only [Int.ofNat_eq_natCast, neg_one]; omega)) only [tysW, wB, mB, Nat.reduceAdd, Nat.reduceMul, List.length_cons, List.length_nil, xaU x2.r (j := (i : Int)) (by omega) (by omega), ruT x2.r hy]
          unfold X3_8; try simp (disch := first | assumption | omega | (simp only [Int.ofNat_eq_natCast, neg_one]; done) | (simp only [Int.ofNat_eq_natCast, neg_one]; omega)) only [tysW, wB, mB, Nat.reduceAdd, Nat.reduceMul, List.length_cons, List.length_nil]
          exact hk _ _ g2
        have hfl : (flatR ((l.take i).map ruC)).length = totN (l.take i) := flatR_len fun z hz => hbl z (List.mem_of_mem_take hz)
        have hfb : totN (l.take i) ≤ 120 * 6000 := Nat.le_trans (totN_max fun z hz => hyn z (List.mem_of_mem_take hz)) (Nat.mul_le_mul (by rw [List.length_take]; omega) (Nat.le_refl _))
        have hy6 := hyn y ym
        have hsb : sumR ((l.take i).map ruC) ≤ ((l.take i).length : Int) * 1000 := sumR_max fun z hz => (ht2 z hz).2
        have hs0 : 0 ≤ sumR ((l.take i).map ruC) := by
          have : ∀ m : List RU, (∀ z ∈ m, 0 ≤ z.t) → 0 ≤ sumR (m.map ruC) := by
            intro m
            induction m with
            | nil => intro _; exact Int.le_refl _
            | cons z m ihm =>
              intro hm
              rw [List.map_cons, sumR_cons]
              have := ihm fun w hw => hm w (List.mem_cons_of_mem _ hw)
              have h9 := hm z (List.mem_cons_self ..)
              show 0 ≤ z.t + _
              omega
          exact this _ fun z hz => (ht2 z hz).1
        have htl : (l.take i).length ≤ 120 := by rw [List.length_take]; omega
        have et : flatR ((l.take (i + 1)).map ruC) = flatR ((l.take i).map ruC) ++ y.b := by rw [take_snocU hy, List.map_append, flatR_append]; simp [flatR, ruC]
        have es : sumR ((l.take (i + 1)).map ruC) = sumR ((l.take i).map ruC) + y.t := by rw [take_snocU hy, List.map_append, sumR_append]; simp [sumR, ruC]
        try simp (disch := first | assumption | omega | (simp only [Int.ofNat_eq_natCast, neg_one]; done) | (simp only [Int.ofNat_eq_natCast, neg_one]; omega)) only [tysW, wB, mB, Nat.reduceAdd, Nat.reduceMul, List.length_cons, List.length_nil, xaU x2.r (j := (i : Int)) (by omega) (by omega), ruT x2.r hy]
        unfold X3_8
        try simp (disch := first | assumption | omega | (simp only [Int.ofNat_eq_natCast, neg_one]; done) | (simp only [Int.ofNat_eq_natCast, neg_one]; omega)) only [tysW, wB, mB, Nat.reduceAdd, Nat.reduceMul, List.length_cons, List.length_nil, xaU x2.r (j := (i : Int)) (by omega) (by omega), ruB x2.r hy]
        have l1 := g1.le
        have l2 := c2.le
        refine apG (E := EB) (el := 5) (t := s1) g2 hp o2 (by omega) (by omega) (x2.bs y ym) (fun _ => rfl) (by omega) fun p3 h3 s3 g3 l3 o3 e3 => ?_
        have c3 : From s1 h1 h3 s3 := ⟨by omega, fun n hn => by rw [e3 n (by omega) fun hp => by have := (o2.lt g2.fresh hp).1; omega]; exact c2.keep n hn, g3.fresh⟩
        have x3 := x.from hf g3
        try simp (disch := first | assumption | omega | (simp only [Int.ofNat_eq_natCast, neg_one]; done) | (simp only [Int.ofNat_eq_natCast, neg_one]; omega)) only [tysW, wB, mB, Nat.reduceAdd, Nat.reduceMul, List.length_cons, List.length_nil, xaU x3.r (j := (i : Int)) (by omega) (by omega), ruT x3.r hy]
        have el : (flatR ((l.take i).map ruC)).length + y.n = (flatR ((l.take (i + 1)).map ruC)).length := by rw [et, List.length_append, hbl y ym]
        rw [el, ← es]
        rw [el, ← et] at o3
        refine ih (i + 1) _ p3 h3 s3 (by omega) (by omega) g3 c3 o3 fun z hz => ?_
        rw [take_snocU hy] at hz
        rcases List.mem_append.1 hz with hz | hz
        · exact ht2 z hz
        · rw [List.mem_singleton.1 hz]; omega
      · obtain rfl : i = len := by omega
        have e9 : l.take i = l := List.take_of_length_le (by rw [x.r.1]; exact Nat.le_refl _)
        rw [e9] at o2 ht2 ⊢
        try simp (disch := first | assumption | omega | (simp only [Int.ofNat_eq_natCast, neg_one]; done) | (simp only [Int.ofNat_eq_natCast, neg_one]; omega)) only [tysW, wB, mB, Nat.reduceAdd, Nat.reduceMul, List.length_cons, List.length_nil]
        exact hJ u pw_ h2 s2 g2 c2 o2 ht2
  refine loop _ (fun u pw_ h2 s2 g2 c2 ow ht => ?_) _ (fun _ _ _ _ _ _ => rfl) N 0 _ none h1 s1 (by omega) (by omega) g1 (.refl g1.fresh) OwnG.nil fun y hy => by simp at hy
  have x2 := x.from hf g2
  have l1 := g1.le
  have l2 := c2.le
  unfold X3_7
  refine PureS.go g2 hp (s18 (d := d + 1) hN g2.fresh x2 h120 fun y hy => ⟨hyn y hy, (ht y hy).1, by have := (ht y hy).2; omega⟩) fun v h3 s3 g3 c3 hv => ?_
  obtain ⟨pp, out, rfl, op, he⟩ := hv
  have ow3 := ow.from g2.fresh c3
  have l3 := c3.le
  have hpos : ∀ r ∈ l.map ruC, 0 ≤ r.2 := fun r hr => by
    obtain ⟨y, hy, rfl⟩ := List.mem_map.1 hr
    exact (ht y hy).1
  obtain ⟨pl, pf, ps⟩ := plain_of hpos
  have ple : out.length ≤ l.length := by
    have := plain_le (l := l.map ruC)
    rw [← he, List.length_map, List.length_map] at this; exact this
  have hlen := x.r.1
  rw [← he] at pl pf ps
  have hob : ∀ y ∈ out, y.b.length = y.n := fun y hy => (op.bs y hy).1
  have hfl : (flatR (l.map ruC)).length = totN l := flatR_len hbl
  have hon : ∀ y ∈ out, y.n ≤ 6000 := fun y hy => by
    have := flat_le (List.mem_map_of_mem (f := ruC) hy)
    rw [pf, hfl] at this
    have e : (ruC y).1.length = y.n := hob y hy
    omega
  have hsl : sumR (l.map ruC) ≤ (l.length : Int) * 1000 := sumR_max fun y hy => (ht y hy).2
  have hot : ∀ y ∈ out, 0 ≤ y.t ∧ y.t ≤ 120000 := fun y hy => by
    have h1 := pl.t0 _ (List.mem_map_of_mem (f := ruC) hy)
    have h2 := sumR_le pl.t0 (List.mem_map_of_mem (f := ruC) hy)
    rw [ps] at h2
    have h1 : 0 ≤ y.t := h1
    have h2 : y.t ≤ _ := h2
    omega
  have hoby : ∀ y ∈ out, allBytes y.b := fun y hy z hz => by
    have := flat_mem (List.mem_map_of_mem (f := ruC) hy) (b := z) hz
    rw [pf] at this
    obtain ⟨r, hr, hzr⟩ := List.mem_flatMap.1 this
    obtain ⟨w, hw, rfl⟩ := List.mem_map.1 hr
    exact hby w hw z hzr
  try simp (disch := first | assumption | omega | (simp only [Int.ofNat_eq_natCast, neg_one]; done) | (simp only [Int.ofNat_eq_natCast, neg_one]; omega)) only [tysW, wB, mB, Nat.reduceAdd, Nat.reduceMul, List.length_cons, List.length_nil]
  -- the second loop
  have loop2 : ∀ (J : Value → Value → Nat → AM) (hJ : ∀ pb h4 s4, From s h h4 s4 → From s3 h3 h4 s4 → OwnG EB 5 h4 s3 pb (flatR (out.map ruC)).length (flatR (out.map ruC)) → (J (vi 0) (.slice pb (flatR (out.map ruC)).length (flatR (out.map ruC)).length) s4).wp pw Z h4) (B : (Value → Value → Value → Value → Nat → AM) → Value → Value → Value → Value → Nat → AM) (hB : ∀ H u t w i s', B H u t w i s' = X3_6 N (D N (d + 9)) K (.slice pp out.length out.length) J H u t w i s') (q i : Nat) (u : Value) (pb : Option Addr) (h4 : T) (s4 : Nat), out.length - i < q → i ≤ out.length → From s h h4 s4 → From s3 h3 h4 s4 → OwnG EB 5 h4 s3 pb (flatR ((out.take i).map ruC)).length (flatR ((out.take i).map ruC)) →
      (loopJ q 4 (fun _ _ _ _ _ => AM.fail) B u (vi (sumR (l.map ruC) - sumR ((out.take i).map ruC))) (.slice pb (flatR ((out.take i).map ruC)).length (flatR ((out.take i).map ruC)).length) (vi i) s4).wp pw Z h4 := by
    intro J hJ B hB q
    induction q with
    | zero => intro i u pb h4 s4 hm; omega
    | succ q ih =>
      intro i u pb h4 s4 hm hi g4 c4 o4
      have op4 := op.from g3.fresh c4
      rw [loopJ_succ, hB]
      unfold X3_6
      by_cases hlt : i < out.length
      · obtain ⟨y, hy⟩ := get_some (l := out) (i := i) hlt
        have ym := List.mem_of_getElem? hy
        have hyr : (out.map ruC)[i]? = some (ruC y) := by rw [List.getElem?_map, hy]; rfl
        have r4 := op4.inU.r
        obtain ⟨yt0, yt1⟩ := hot y ym
        have yn := hon y ym
        have ybl := hob y ym
        have q1 : i + 1 < out.length → ¬ y.t = 0 := fun hh => pl.t1 i _ (by rw [List.length_map]; exact hh) hyr
        have q2 : 0 < i → ¬ y.n = 0 := fun hh e0 => pl.b i _ hh hyr (List.eq_nil_of_length_eq_zero (by show y.b.length = 0; omega))
        have q3 : y.t = 0 → ¬ y.n = 0 := fun hh e0 => pl.n _ (List.mem_of_getElem? hyr) hh (List.eq_nil_of_length_eq_zero (by show y.b.length = 0; omega))
        have et : flatR ((out.take (i + 1)).map ruC) = flatR ((out.take i).map ruC) ++ y.b := by rw [take_snocU hy, List.map_append, flatR_append]; simp [flatR, ruC]
        have es : sumR ((out.take (i + 1)).map ruC) = sumR ((out.take i).map ruC) + y.t := by rw [take_snocU hy, List.map_append, sumR_append]; simp [sumR, ruC]
        have ho1 : (flatR ((out.take i).map ruC)).length = totN (out.take i) := flatR_len fun z hz => hob z (List.mem_of_mem_take hz)
        have ho2 : totN (out.take i) ≤ 120 * 6000 := Nat.le_trans (totN_max fun z hz => hon z (List.mem_of_mem_take hz)) (Nat.mul_le_mul (by rw [List.length_take]; omega) (Nat.le_refl _))
        have nn : ∀ m : List RU, (∀ z ∈ m, 0 ≤ z.t) → 0 ≤ sumR (m.map ruC) := by
          intro m
          induction m with
          | nil => intro _; exact Int.le_refl _
          | cons z m ihm =>
            intro hm
            rw [List.map_cons, sumR_cons]
            have := ihm fun w hw => hm w (List.mem_cons_of_mem _ hw)
            have h9 := hm z (List.mem_cons_self ..)
            show 0 ≤ z.t + _
            omega
        have hs1 := nn (out.take i) fun z hz => (hot z (List.mem_of_mem_take hz)).1
        have hs2 : sumR ((out.take i).map ruC) ≤ ((out.take i).length : Int) * 120000 := sumR_max fun z hz => (hot z (List.mem_of_mem_take hz)).2
        have hs3 : ((out.take i).length : Int) ≤ 120 := by rw [List.length_take]; omega
        have hs4 := nn l fun z hz => (ht z hz).1
        have tail : ∀ (u1 u2 : Value), u1 = .bool false → u2 = .bool false → (X3_2 N (D N (d + 9)) K u1 (.slice pp out.length out.length) (vi i) (.slice pb (flatR ((out.take i).map ruC)).length (flatR ((out.take i).map ruC)).length) (vi (sumR (l.map ruC) - sumR ((out.take i).map ruC))) (fun a b c e => loopJ q 4 (fun _ _ _ _ _ => AM.fail) B a b c e) u u2 s4).wp pw Z h4 := by
          intro u1 u2 e1 e2
          subst e1 e2
          unfold X3_2
          try simp (disch := first | assumption | omega | (simp only [Int.ofNat_eq_natCast, neg_one]; done) | (simp only [Int.ofNat_eq_natCast, neg_one]; omega)) only [tysW, wB, mB, Nat.reduceAdd, Nat.reduceMul, List.length_cons, List.length_nil, xaU r4 (j := (i : Int)) (by omega) (by omega), ruB r4 hy]
          have l4 := c4.le
          refine apG (E := EB) (el := 5) (t := s3) g4 hp o4 (by omega) (by omega) (op4.inU.bs y ym) (fun _ => rfl) (by omega) fun p5 h5 s5 g5 l5 o5 e5 => ?_
          have c5 : From s3 h3 h5 s5 := ⟨by omega, fun n hn => by rw [e5 n (by omega) fun hp => by have := (o4.lt g4.fresh hp).1; omega]; exact c4.keep n hn, g5.fresh⟩
          have r5 := (op.from g3.fresh c5).inU.r
          try simp (disch := first | assumption | omega | (simp only [Int.ofNat_eq_natCast, neg_one]; done) | (simp only [Int.ofNat_eq_natCast, neg_one]; omega)) only [tysW, wB, mB, Nat.reduceAdd, Nat.reduceMul, List.length_cons, List.length_nil, xaU r5 (j := (i : Int)) (by omega) (by omega), ruT r5 hy]
          have el : (flatR ((out.take i).map ruC)).length + y.n = (flatR ((out.take (i + 1)).map ruC)).length := by rw [et, List.length_append, ybl]
          rw [el, show sumR (l.map ruC) - sumR ((out.take i).map ruC) - y.t = sumR (l.map ruC) - sumR ((out.take (i + 1)).map ruC) by omega]
          rw [el, ← et] at o5
          exact ih (i + 1) u p5 h5 s5 (by omega) (by omega) g5 c5 o5
        have t3 : ∀ u3 : Value, (y.t = 0 → u3 = .bool true) → (¬ y.t = 0 → u3 = .bool false) → (X3_3 N (D N (d + 9)) K (.bool false) (.slice pp out.length out.length) (vi i) (.slice pb (flatR ((out.take i).map ruC)).length (flatR ((out.take i).map ruC)).length) (vi (sumR (l.map ruC) - sumR ((out.take i).map ruC))) (fun a b c e => loopJ q 4 (fun _ _ _ _ _ => AM.fail) B a b c e) u u3 s4).wp pw Z h4 := by
          intro u3 e1 e2
          by_cases h0 : y.t = 0
          · obtain rfl := e1 h0
            have hn := q3 h0
            unfold X3_3
            try simp (disch := first | assumption | omega | (simp only [Int.ofNat_eq_natCast, neg_one]; done) | (simp only [Int.ofNat_eq_natCast, neg_one]; omega)) only [tysW, wB, mB, Nat.reduceAdd, Nat.reduceMul, List.length_cons, List.length_nil, xaU r4 (j := (i : Int)) (by omega) (by omega), ruB r4 hy]
            exact tail _ _ rfl rfl
          · obtain rfl := e2 h0
            unfold X3_3
            try simp (disch := first | assumption | omega | (simp only [Int.ofNat_eq_natCast, neg_one]; done) | (simp only [Int.ofNat_eq_natCast, neg_one]; omega)) only [tysW, wB, mB, Nat.reduceAdd, Nat.reduceMul, List.length_cons, List.length_nil]
            exact tail _ _ rfl rfl
        have t4 : ∀ u4 u5 : Value, u4 = .bool false → (0 < i → u5 = .bool true) → (¬ 0 < i → u5 = .bool false) → (X3_5 N (D N (d + 9)) K (.bool false) (.slice pp out.length out.length) (vi i) (.slice pb (flatR ((out.take i).map ruC)).length (flatR ((out.take i).map ruC)).length) (vi (sumR (l.map ruC) - sumR ((out.take i).map ruC))) (fun a b c e => loopJ q 4 (fun _ _ _ _ _ => AM.fail) B a b c e) u u4 s4).wp pw Z h4 := by
          intro u4 u5 e1 _ _
          subst e1
          unfold X3_5
          by_cases hi0 : 0 < i
          · have hn := q2 hi0
            try simp (disch := first | assumption | omega | (simp only [Int.ofNat_eq_natCast, neg_one]; done) | (simp only [Int.ofNat_eq_natCast, neg_one]; omega)) only [tysW, wB, mB, Nat.reduceAdd, Nat.reduceMul, List.length_cons, List.length_nil, xaU r4 (j := (i : Int)) (by omega) (by omega), ruB r4 hy]
            unfold X3_4
            by_cases h0 : y.t = 0
            · try simp (disch := first | assumption | omega | (simp only [Int.ofNat_eq_natCast, neg_one]; done) | (simp only [Int.ofNat_eq_natCast, neg_one]; omega)) only [tysW, wB, mB, Nat.reduceAdd, Nat.reduceMul, List.length_cons, List.length_nil, xaU r4 (j := (i : Int)) (by omega) (by omega), ruT r4 hy]
              exact t3 _ (fun _ => rfl) (fun hh => absurd h0 hh)
            · try simp (disch := first | assumption | omega | (simp only [Int.ofNat_eq_natCast, neg_one]; done) | (simp only [Int.ofNat_eq_natCast, neg_one]; omega)) only [tysW, wB, mB, Nat.reduceAdd, Nat.reduceMul, List.length_cons, List.length_nil, xaU r4 (j := (i : Int)) (by omega) (by omega), ruT r4 hy]
              exact t3 _ (fun hh => absurd hh h0) (fun _ => rfl)
          · try simp (disch := first | assumption | omega | (simp only [Int.ofNat_eq_natCast, neg_one]; done) | (simp only [Int.ofNat_eq_natCast, neg_one]; omega)) only [tysW, wB, mB, Nat.reduceAdd, Nat.reduceMul, List.length_cons, List.length_nil]
            unfold X3_4
            by_cases h0 : y.t = 0
            · try simp (disch := first | assumption | omega | (simp only [Int.ofNat_eq_natCast, neg_one]; done) | (simp only [Int.ofNat_eq_natCast, neg_one]; omega)) only [tysW, wB, mB, Nat.reduceAdd, Nat.reduceMul, List.length_cons, List.length_nil, xaU r4 (j := (i : Int)) (by omega) (by omega), ruT r4 hy]
              exact t3 _ (fun _ => rfl) (fun hh => absurd h0 hh)
            · try simp (disch := first | assumption | omega | (simp only [Int.ofNat_eq_natCast, neg_one]; done) | (simp only [Int.ofNat_eq_natCast, neg_one]; omega)) only [tysW, wB, mB, Nat.reduceAdd, Nat.reduceMul, List.length_cons, List.length_nil, xaU r4 (j := (i : Int)) (by omega) (by omega), ruT r4 hy]
              exact t3 _ (fun hh => absurd hh h0) (fun _ => rfl)
        by_cases hi1 : i + 1 < out.length
        · have ht0 := q1 hi1
          try simp (disch := first | assumption | omega | (simp only [Int.ofNat_eq_natCast, neg_one]; done) | (simp only [Int.ofNat_eq_natCast, neg_one]; omega)) only [tysW, wB, mB, Nat.reduceAdd, Nat.reduceMul, List.length_cons, List.length_nil, xaU r4 (j := (i : Int)) (by omega) (by omega), ruT r4 hy]
          exact t4 _ (.bool (decide (0 < i))) rfl (fun hh => by rw [decide_eq_true hh]) (fun hh => by rw [decide_eq_false hh])
        · try simp (disch := first | assumption | omega | (simp only [Int.ofNat_eq_natCast, neg_one]; done) | (simp only [Int.ofNat_eq_natCast, neg_one]; omega)) only [tysW, wB, mB, Nat.reduceAdd, Nat.reduceMul, List.length_cons, List.length_nil, xaU r4 (j := (i : Int)) (by omega) (by omega), ruT r4 hy]
          exact t4 _ (.bool (decide (0 < i))) rfl (fun hh => by rw [decide_eq_true hh]) (fun hh => by rw [decide_eq_false hh])
      · obtain rfl : i = out.length := by omega
        have e9 : out.take out.length = out := List.take_of_length_le (Nat.le_refl _)
        rw [e9] at o4 ⊢
        rw [ps, show sumR (l.map ruC) - sumR (l.map ruC) = 0 by omega]
        try simp (disch := first | assumption | omega | (simp only [Int.ofNat_eq_natCast, neg_one]; done) | (simp only [Int.ofNat_eq_natCast, neg_one]; omega)) only [tysW, wB, mB, Nat.reduceAdd, Nat.reduceMul, List.length_cons, List.length_nil]
        exact hJ pb h4 s4 g4 c4 o4
  have e0 : vi (sumR (l.map ruC)) = vi (sumR (l.map ruC) - sumR ((out.take 0).map ruC)) := by simp [sumR]
  rw [e0]
  refine loop2 _ (fun pb h4 s4 g4 c4 ob => ?_) _ (fun _ _ _ _ _ _ => rfl) N 0 u none h3 s3 (by omega) (by omega) g3 (.refl g3.fresh) OwnG.nil
  have op4 := op.from g3.fresh c4
  have ow4 := ow3.from g3.fresh c4
  have hab : allBytes (flatR (l.map ruC)) := fun z hz => by
    obtain ⟨r, hr, hzr⟩ := List.mem_flatMap.1 hz
    obtain ⟨w, hw, rfl⟩ := List.mem_map.1 hr
    exact hby w hw z hzr
  rw [pf] at ob ⊢
  try simp (disch := first | assumption | omega | (simp only [Int.ofNat_eq_natCast, neg_one]; done) | (simp only [Int.ofNat_eq_natCast, neg_one]; omega)) only [tysW, wB, mB, Nat.reduceAdd, Nat.reduceMul, List.length_cons, List.length_nil]
  refine ValS.go g4 hp (s19 (d := d + 8) g4.fresh ob.sl.row ow4.sl.row hab hab) fun h5 s5 g5 c5 => ?_
  rw [decide_eq_true rfl]
  have op5 := op4.from g4.fresh c5
  have hlo : (out.length : Int) ≤ (len : Int) := by omega
  try simp (disch := first | assumption | omega | (simp only [Int.ofNat_eq_natCast, neg_one]; done) | (simp only [Int.ofNat_eq_natCast, neg_one]; omega)) only [tysW, wB, mB, Nat.reduceAdd, Nat.reduceMul, List.length_cons, List.length_nil]
  unfold X3_1
  try simp (disch := first | assumption | omega | (simp only [Int.ofNat_eq_natCast, neg_one]; done) | (simp only [Int.ofNat_eq_natCast, neg_one]; omega)) only [tysW, wB, mB, Nat.reduceAdd, Nat.reduceMul, List.length_cons, List.length_nil]
  refine PureS.go g5 hp (s18 (d := d + 1) hN g5.fresh op5.inU (by omega) fun y hy => ⟨hon y hy, (hot y hy).1, by have := (hot y hy).2; omega⟩) fun v h6 s6 g6 c6 hv => ?_
  obtain ⟨p6, out6, rfl, op6, he6⟩ := hv
  rw [plain_idem pl] at he6
  have op56 := op5.from g5.fresh c6
  try simp (disch := first | assumption | omega | (simp only [Int.ofNat_eq_natCast, neg_one]; done) | (simp only [Int.ofNat_eq_natCast, neg_one]; omega)) only [tysW, wB, mB, Nat.reduceAdd, Nat.reduceMul, List.length_cons, List.length_nil]
  refine ValS.go g6 hp (s20 (d := d + 7) g6.fresh (by omega) op6.inU op56.inU he6 (fun r hr => ?_) (by have := congrArg List.length he6; rw [List.length_map, List.length_map] at this; omega)) fun h7 s7 g7 c7 => ?_
  · have hm : ruC r ∈ out.map ruC := by rw [← he6]; exact List.mem_map_of_mem (f := ruC) hr
    obtain ⟨w, hw, e⟩ := List.mem_map.1 hm
    have e : w.b = r.b := congrArg Prod.fst e
    rw [← e]; exact hoby w hw
  · try simp (disch := first | assumption | omega | (simp only [Int.ofNat_eq_natCast, neg_one]; done) | (simp only [Int.ofNat_eq_natCast, neg_one]; omega)) only [tysW, wB, mB, Nat.reduceAdd, Nat.reduceMul, List.length_cons, List.length_nil]
    exact hk _ _ g7
end
end Go.Ev.R

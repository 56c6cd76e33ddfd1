/- The law EntryTells, part 3: what the functions answer, by their terms. No condition. -/
import Derived.Test.YtgadiajhhjfmbaaEntryTellsP2
set_option linter.unusedVariables false
set_option linter.unusedSimpArgs false
set_option maxRecDepth 100000
namespace Go.Ev.R
open Go Go.RowKit
/-- Where the first entry of a sensor's number stands. -/
def IsTw (L : List EN) (b c r : Int) : Prop := (r = -1 ∧ ∀ (j : Nat) (e : EN), L[j]? = some e → ¬ (e.k.b = b ∧ e.k.c = c)) ∨ ∃ i : Nat, r = i ∧ (∃ e : EN, L[i]? = some e ∧ e.k.b = b ∧ e.k.c = c) ∧ ∀ (j : Nat) (e : EN), j < i → L[j]? = some e → ¬ (e.k.b = b ∧ e.k.c = c)
section
variable {N d : Nat} (hN : 100000 ≤ N) {h : T} {s : Nat} (hf : ∀ n, s ≤ n → h.get n = none)
include hf
include hN
end
end Go.Ev.R
namespace Go.Ev.R
open Go Go.RowKit
theorem IsTw.one {L : List EN} {b c x y : Int} (h1 : IsTw L b c x) (h2 : IsTw L b c y) : x = y := by
  rcases h1 with ⟨rfl, n1⟩ | ⟨i, rfl, ⟨e, he, hb, hc⟩, n1⟩
  · rcases h2 with ⟨rfl, _⟩ | ⟨j, rfl, ⟨e', he', hb', hc'⟩, n2⟩
    · rfl
    · exact absurd ⟨hb', hc'⟩ (n1 j e' he')
  · rcases h2 with ⟨rfl, n2⟩ | ⟨j, rfl, ⟨e', he', hb', hc'⟩, n2⟩
    · exact absurd ⟨hb, hc⟩ (n2 i e he)
    · rcases Nat.lt_trichotomy i j with h | h | h
      · exact absurd ⟨hb, hc⟩ (n2 i e h he)
      · rw [h]
      · exact absurd ⟨hb', hc'⟩ (n1 j e' h he')
/-- An entry as it comes in. -/
structure EV where
  k : K3
  inp : Bool
  p : Option Addr
  n : Nat
  c : Nat
def xv (x : EV) : List Value := [vi x.k.a, vi x.k.b, vi x.k.c, .bool x.inp, .slice x.p x.n x.c]
def EE : Enc EV := ⟨5, xv, by decide, fun _ => rfl⟩
theorem Row.fld {α : Type} {E : Enc α} {l : List α} {i j : Nat} {x : α} {v : Value} (hx : l[i]? = some x) (hj : (E.f x)[j]? = some v) : (l.flatMap E.f)[i * E.z + j]? = some v := by
  have h1 := E.flat_at l i x hx
  have hlt : j < E.z := by rw [← E.len x]; exact (List.getElem?_eq_some_iff.1 hj).1
  rw [← h1, List.getElem?_take, if_pos hlt, List.getElem?_drop] at hj
  exact hj
section
variable {h : T} {p : Option Addr} {len : Nat} {l : List EV} (r : Row EE h p len l) {i : Nat} {x : EV} (hx : l[i]? = some x) {pw : Nat → Prop} {Z : Value → T → Prop}
include r hx
end
end Go.Ev.R
namespace Go.Ev.R
open Go Go.RowKit
theorem xaI {h : T} {p : Option Addr} {len : Nat} {l : List Int} (r : Row EI h p len l) {j : Int} (hj0 : 0 ≤ j) (hj : j < (len : Int)) (cap : Nat) (kd : IntKind) (k : Value → Nat → AM) (s : Nat) :
    M.opt (aindexAt P 41 (.slice p len cap) (.int kd j)) k s = k (.pointer (some ⟨blk p, off p + j.toNat, none⟩)) s := by
  have := r.2.xa (z := 1) xa0_41 (by decide) hj0 hj cap kd k s
  rwa [Nat.mul_one] at this
theorem intL {h : T} {p : Option Addr} {len : Nat} {l : List Int} (r : Row EI h p len l) {i : Nat} {x : Int} (hx : l[i]? = some x) {pw : Nat → Prop} {Z : Value → T → Prop} (j : LogT) (s : Nat) :
    (AM.log (aload (blk p) (off p + i) (fun v s => .ret (pk v s)) s) (logU j)).wp pw Z h = (j (vi x) [blk p] [] s).wp pw Z h := by
  have := r.2.oneL (Row.fld (E := EI) (j := 0) hx rfl) j s (pw := pw) (Z := Z)
  rw [show i * EI.z + 0 = i from Nat.mul_one i] at this; exact this
section
variable {h : T} {p : Option Addr} {len : Nat} {l : List EV} (r : Row EE h p len l) {i : Nat} {x : EV} (hx : l[i]? = some x) {pw : Nat → Prop} {Z : Value → T → Prop}
include r hx
end
/-- Keys in a list that was made. -/
def OwnP (h : T) (s : Nat) (p : Option Addr) (len : Nat) (l : List K3) : Prop := l.length = len ∧ (p = none ∧ len = 0 ∨ ∃ n, p = some ⟨n, 0, none⟩ ∧ s ≤ n ∧ h.get n = some (.cells ⟨l.flatMap kv⟩ 23 (4, 0)))
theorem OwnP.sl {h : T} {s : Nat} {p : Option Addr} {len : Nat} {l : List K3} (o : OwnP h s p len l) : Sl EK h p len len l := by
  obtain ⟨hl, ⟨rfl, rfl⟩ | ⟨n, rfl, _, hg⟩⟩ := o
  · obtain rfl := List.eq_nil_of_length_eq_zero hl
    exact .nil _
  · exact .own hg (.inr rfl) hl
theorem OwnP.from {h h' : T} {s s0 s' : Nat} {p : Option Addr} {len : Nat} {l : List K3} (o : OwnP h s p len l) (hf : ∀ n, s0 ≤ n → h.get n = none) (g : From s0 h h' s') : OwnP h' s p len l := by
  obtain ⟨hl, ho | ⟨n, rfl, h1, hg⟩⟩ := o
  · exact ⟨hl, .inl ho⟩
  · exact ⟨hl, .inr ⟨n, rfl, h1, by rw [g.keep n (lt_of_some hf ⟨_, hg⟩)]; exact hg⟩⟩
/-- Whether no earlier key is the same. -/
def fr (ks : List K3) (i : Nat) : Bool := match ks[i]? with
  | some x => !(ks.take i).any fun y => sameK y x
  | none => true
section
variable {N d : Nat} (hN : 100000 ≤ N) {h : T} {s : Nat} (hf : ∀ n, s ≤ n → h.get n = none)
include hN hf
theorem s63 {p q : Option Addr} {n n' c c' : Nat} {l l' : List Int} (r : Row EI h p n l) (r' : Row EI h q n' l') (hl : n ≤ 1000) : ValS (D N (d + 1)) 63 [.slice p n c, .slice q n' c'] h s (.bool (decide (l = l'))) := by
  refine ValS.of hf fun K pw Z g hp hk => ?_
  rw [D_63]; unfold F63; rw [app2_eq]
  have hk := hk _ _ g
  by_cases hnn : (n : Int) = (n' : Int)
  · obtain rfl : n = n' := by omega
    try simp (disch := first | assumption | omega | (simp only [Int.ofNat_eq_natCast, neg_one]; done) | (simp only [Int.ofNat_eq_natCast, neg_one]; omega)) only [tysW, wB, mB, Nat.reduceAdd, Nat.reduceMul, List.length_cons, List.length_nil]
    have loop : ∀ (B : (Value → Value → Nat → AM) → Value → Value → Nat → AM) (hB : ∀ H u i s', B H u i s' = X63_1 N (D N d) K (.slice p n c) (.slice q n c') (fun s => K (.bool true) s) H u i s') (m i : Nat) (u : Value), n - i < m → i ≤ n → (∀ j, j < i → l[j]? = l'[j]?) →
        (loopJ m 2 (fun _ _ _ => AM.fail) B u (vi i) s).wp pw Z h := by
      intro B hB m
      induction m with
      | zero => intro i u hm; omega
      | succ m ih =>
        intro i u hm hil he
        rw [loopJ_succ, hB]
        unfold X63_1
        by_cases hlt : i < n
        · obtain ⟨x, hx⟩ := get_some (l := l) (i := i) (by rw [r.1]; omega)
          obtain ⟨y, hy⟩ := get_some (l := l') (i := i) (by rw [r'.1]; omega)
          try simp (disch := first | assumption | omega | (simp only [Int.ofNat_eq_natCast, neg_one]; done) | (simp only [Int.ofNat_eq_natCast, neg_one]; omega)) only [tysW, wB, mB, Nat.reduceAdd, Nat.reduceMul, List.length_cons, List.length_nil, xaI r (j := (i : Int)) (by omega) (by omega), intL r hx, xaI r' (j := (i : Int)) (by omega) (by omega), intL r' hy]
          by_cases hxy : x = y
          · try simp (disch := first | assumption | omega | (simp only [Int.ofNat_eq_natCast, neg_one]; done) | (simp only [Int.ofNat_eq_natCast, neg_one]; omega)) only [tysW, wB, mB, Nat.reduceAdd, Nat.reduceMul, List.length_cons, List.length_nil]
            exact ih (i + 1) u (by omega) (by omega) fun j hj => by
              rcases Nat.lt_or_ge j i with h6 | h6
              · exact he j h6
              · rw [show j = i by omega, hx, hy, hxy]
          · try simp (disch := first | assumption | omega | (simp only [Int.ofNat_eq_natCast, neg_one]; done) | (simp only [Int.ofNat_eq_natCast, neg_one]; omega)) only [tysW, wB, mB, Nat.reduceAdd, Nat.reduceMul, List.length_cons, List.length_nil]
            rw [decide_eq_false fun e => hxy (by rw [e, hy] at hx; exact (Option.some.inj hx).symm)] at hk
            exact hk
        · obtain rfl : i = n := by omega
          try simp (disch := first | assumption | omega | (simp only [Int.ofNat_eq_natCast, neg_one]; done) | (simp only [Int.ofNat_eq_natCast, neg_one]; omega)) only [tysW, wB, mB, Nat.reduceAdd, Nat.reduceMul, List.length_cons, List.length_nil]
          rw [decide_eq_true (List.ext_getElem? fun j => by
            rcases Nat.lt_or_ge j i with h6 | h6
            · exact he j h6
            · rw [List.getElem?_eq_none (by rw [r.1]; exact h6), List.getElem?_eq_none (by rw [r'.1]; exact h6)])] at hk
          exact hk
    exact loop _ (fun _ _ _ _ => rfl) N 0 _ (by omega) (by omega) fun j hj => by omega
  · try simp (disch := first | assumption | omega | (simp only [Int.ofNat_eq_natCast, neg_one]; done) | (simp only [Int.ofNat_eq_natCast, neg_one]; omega)) only [tysW, wB, mB, Nat.reduceAdd, Nat.reduceMul, List.length_cons, List.length_nil]
    rw [decide_eq_false fun e => hnn (by rw [← r.1, ← r'.1, e])] at hk
    exact hk
theorem s35 (e e' : EN) {p p' : Option Addr} {c c' : Nat} (r : Row EI h p e.data.length e.data) (r' : Row EI h p' e'.data.length e'.data) (hl : e.data.length ≤ 1000) : PureS (D N (d + 2)) 35 [eval e p c, eval e' p' c'] h s (fun v _ _ => ∃ b, v = .bool b ∧ (b = true ↔ e = e')) := by
  refine PureS.of hf fun K pw Z g hp hk => ?_
  rw [D_35]; unfold F35; rw [app2_eq]
  unfold X35_2
  refine wp_boxA g hp fun h1 g1 c1 b1 => ?_
  try simp (disch := first | assumption | omega | (simp only [Int.ofNat_eq_natCast, neg_one]; done) | (simp only [Int.ofNat_eq_natCast, neg_one]; omega)) only [tysW, wB, mB, Nat.reduceAdd, Nat.reduceMul, List.length_cons, List.length_nil]
  refine wp_boxA g1 hp fun h2 g2 c2 b2 => ?_
  replace b1 := c2.box b1 (by omega)
  simp only [ev] at b1 b2
  have nok : e ≠ e' → (K (.bool false) (s + 1 + 1)).wp pw Z h2 := fun hne => hk _ _ _ g2 ⟨false, rfl, by simp [hne]⟩
  by_cases ha : e.k.a = e'.k.a
  · by_cases hb : e.k.b = e'.k.b
    · by_cases hc : e.k.c = e'.k.c
      · try simp (disch := first | assumption | omega | (simp only [Int.ofNat_eq_natCast, neg_one]; done) | (simp only [Int.ofNat_eq_natCast, neg_one]; omega)) only [tysW, wB, mB, Nat.reduceAdd, Nat.reduceMul, List.length_cons, List.length_nil, ldB b1, clB b1, ldBL b1, clBL b1, ldB b2, clB b2, ldBL b2, clBL b2]
        unfold X35_1
        try simp (disch := first | assumption | omega | (simp only [Int.ofNat_eq_natCast, neg_one]; done) | (simp only [Int.ofNat_eq_natCast, neg_one]; omega)) only [tysW, wB, mB, Nat.reduceAdd, Nat.reduceMul, List.length_cons, List.length_nil, ldB b1, clB b1, ldBL b1, clBL b1, ldB b2, clB b2, ldBL b2, clBL b2, eqb_4]
        cases hi : (e.inp == e'.inp) with
        | false =>
          try simp (disch := first | assumption | omega | (simp only [Int.ofNat_eq_natCast, neg_one]; done) | (simp only [Int.ofNat_eq_natCast, neg_one]; omega)) only [tysW, wB, mB, Nat.reduceAdd, Nat.reduceMul, List.length_cons, List.length_nil]
          exact nok fun h => by rw [h] at hi; simp at hi
        | true =>
          try simp (disch := first | assumption | omega | (simp only [Int.ofNat_eq_natCast, neg_one]; done) | (simp only [Int.ofNat_eq_natCast, neg_one]; omega)) only [tysW, wB, mB, Nat.reduceAdd, Nat.reduceMul, List.length_cons, List.length_nil, ldB b1, clB b1, ldBL b1, clBL b1, ldB b2, clB b2, ldBL b2, clBL b2]
          refine ValS.go g2 hp (s63 (d := d) hN g2.fresh (g2.row hf r) (g2.row hf r') hl) fun h3 s3 g3 c3 => ?_
          try simp (disch := first | assumption | omega | (simp only [Int.ofNat_eq_natCast, neg_one]; done) | (simp only [Int.ofNat_eq_natCast, neg_one]; omega)) only [tysW, wB, mB, Nat.reduceAdd, Nat.reduceMul, List.length_cons, List.length_nil]
          refine hk _ _ _ g3 ⟨_, rfl, ?_⟩
          rw [decide_eq_true_iff]
          obtain ⟨⟨a, b, c⟩, i, dt⟩ := e
          obtain ⟨⟨a', b', c'⟩, i', dt'⟩ := e'
          simp only at ha hb hc hi ⊢
          simp [ha, hb, hc, eq_of_beq hi]
      · try simp (disch := first | assumption | omega | (simp only [Int.ofNat_eq_natCast, neg_one]; done) | (simp only [Int.ofNat_eq_natCast, neg_one]; omega)) only [tysW, wB, mB, Nat.reduceAdd, Nat.reduceMul, List.length_cons, List.length_nil, ldB b1, clB b1, ldBL b1, clBL b1, ldB b2, clB b2, ldBL b2, clBL b2]
        unfold X35_1
        try simp (disch := first | assumption | omega | (simp only [Int.ofNat_eq_natCast, neg_one]; done) | (simp only [Int.ofNat_eq_natCast, neg_one]; omega)) only [tysW, wB, mB, Nat.reduceAdd, Nat.reduceMul, List.length_cons, List.length_nil]
        exact nok fun h => hc (by rw [h])
    · try simp (disch := first | assumption | omega | (simp only [Int.ofNat_eq_natCast, neg_one]; done) | (simp only [Int.ofNat_eq_natCast, neg_one]; omega)) only [tysW, wB, mB, Nat.reduceAdd, Nat.reduceMul, List.length_cons, List.length_nil, ldB b1, clB b1, ldBL b1, clBL b1, ldB b2, clB b2, ldBL b2, clBL b2]
      unfold X35_1
      try simp (disch := first | assumption | omega | (simp only [Int.ofNat_eq_natCast, neg_one]; done) | (simp only [Int.ofNat_eq_natCast, neg_one]; omega)) only [tysW, wB, mB, Nat.reduceAdd, Nat.reduceMul, List.length_cons, List.length_nil]
      exact nok fun h => hb (by rw [h])
  · try simp (disch := first | assumption | omega | (simp only [Int.ofNat_eq_natCast, neg_one]; done) | (simp only [Int.ofNat_eq_natCast, neg_one]; omega)) only [tysW, wB, mB, Nat.reduceAdd, Nat.reduceMul, List.length_cons, List.length_nil, ldB b1, clB b1, ldBL b1, clBL b1, ldB b2, clB b2, ldBL b2, clBL b2]
    unfold X35_1
    try simp (disch := first | assumption | omega | (simp only [Int.ofNat_eq_natCast, neg_one]; done) | (simp only [Int.ofNat_eq_natCast, neg_one]; omega)) only [tysW, wB, mB, Nat.reduceAdd, Nat.reduceMul, List.length_cons, List.length_nil]
    exact nok fun h => ha (by rw [h])
end
end Go.Ev.R
namespace Go.Ev.R
open Go Go.RowKit
section
variable {N d : Nat}
end
end Go.Ev.R
namespace Go.Ev.R
open Go Go.RowKit
/-- How many keys that are told first are such. -/
def cntF (q : K3 → Bool) (ks : List K3) : Nat → Nat
  | 0 => 0
  | i + 1 => cntF q ks i + (match ks[i]? with | some x => if fr ks i && q x then 1 else 0 | none => 0)
theorem at_mem {x : K3} {m : List K3} (h : atK x m = true) : x ∈ m := List.mem_of_getElem? (at_is h)
theorem fr_iff {ks : List K3} {i : Nat} {x : K3} (hx : ks[i]? = some x) : fr ks i = true ↔ ∀ j, j < i → ks[j]? ≠ some x := by
  unfold fr
  rw [hx]
  dsimp only
  rw [Bool.not_eq_true', List.any_eq_false]
  constructor
  · intro h j hj he
    exact h x (List.mem_of_getElem? (i := j) (by rw [List.getElem?_take, if_pos hj, he])) (same_iff.2 rfl)
  · intro h y hy hs
    obtain rfl := same_iff.1 hs
    obtain ⟨j, hj⟩ := List.getElem?_of_mem hy
    rw [List.getElem?_take] at hj
    split at hj
    · exact h j (by assumption) hj
    · cases hj
structure Inv (es : List EN) (i : Nat) (L : List EN) : Prop where
  rise : risingK (ksE L) = true
  cnt : ∀ q, cntF q (ksE es) i = L.countP (fun e => q e.k)
  mem : ∀ e ∈ L, ∃ j, j < i ∧ es[j]? = some e ∧ fr (ksE es) j = true
  has : ∀ j, j < i → ∀ e, es[j]? = some e → e.k ∈ ksE L
theorem Inv.zero (es : List EN) : Inv es 0 [] := ⟨rfl, fun _ => rfl, fun e he => by simp at he, fun j hj => by omega⟩
theorem Inv.many {es : List EN} {i : Nat} {L : List EN} (v : Inv es i L) : cntF (fun _ => true) (ksE es) i = L.length := by
  rw [v.cnt, List.countP_true]
theorem Inv.at {es : List EN} {i : Nat} {L : List EN} (v : Inv es i L) {e : EN} (he : es[i]? = some e) : atK e.k (ksE L) = !fr (ksE es) i := by
  have hk : (ksE es)[i]? = some e.k := by rw [ks_get, he]; rfl
  cases hf : fr (ksE es) i with
  | true =>
    rw [fr_iff hk] at hf
    cases ha : atK e.k (ksE L) with
    | false => rfl
    | true =>
      exfalso
      obtain ⟨y, hy, hyk⟩ := List.mem_map.1 (at_mem ha)
      obtain ⟨j, hj, h1, _⟩ := v.mem y hy
      exact hf j hj (by rw [ks_get, h1, ← hyk]; rfl)
  | false =>
    have hn : ¬ ∀ j, j < i → (ksE es)[j]? ≠ some e.k := fun h => by rw [(fr_iff hk).2 h] at hf; cases hf
    obtain ⟨j, hj⟩ := Classical.not_forall.1 hn
    obtain ⟨hj, h2⟩ := Classical.not_imp.1 hj
    have h2 := Classical.not_not.1 h2
    rw [ks_get] at h2
    cases h3 : es[j]? with
    | none => rw [h3] at h2; cases h2
    | some y =>
      rw [h3] at h2
      have hm := v.has j hj y h3
      rw [show y.k = e.k from Option.some.inj h2] at hm
      rw [found v.rise hm]; rfl
/-- What comes in, as entries. -/
def Rel (h : T) (x : EV) (e : EN) : Prop := x.k = e.k ∧ x.inp = e.inp ∧ x.n = e.data.length ∧ Sl EI h x.p x.n x.c e.data
end Go.Ev.R
namespace Go.Ev.R
open Go Go.RowKit
section
variable {N d : Nat} (hN : 100000 ≤ N) {h : T} {s : Nat} (hf : ∀ n, s ≤ n → h.get n = none)
include hN hf
end
end Go.Ev.R
namespace Go.Ev.R
open Go Go.RowKit
theorem w_gu (b : Bool) (x y : AM) {pw : Nat → Prop} {Z : Value → T → Prop} {h : T} : (guardX (gd undef b) x y).wp pw Z h = y.wp pw Z h := by cases b <;> rfl
section
variable {N d : Nat} (hN : 100000 ≤ N) {h : T} {s : Nat} (hf : ∀ n, s ≤ n → h.get n = none)
include hN hf
end
end Go.Ev.R
namespace Go.Ev.R
open Go Go.RowKit
section
variable {N d : Nat} (hN : 100000 ≤ N) {h : T} {s : Nat} (hf : ∀ n, s ≤ n → h.get n = none)
include hN hf
end
end Go.Ev.R
namespace Go.Ev.R
open Go Go.RowKit
section
variable {N d : Nat} (hN : 100000 ≤ N) {h : T} {s : Nat} (hf : ∀ n, s ≤ n → h.get n = none)
include hN hf
end
end Go.Ev.R
namespace Go.Ev.R
open Go Go.RowKit
/-- A list of numbers that was made. -/
def OwnI (h : T) (s : Nat) (p : Option Addr) (len : Nat) (l : List Int) : Prop :=
  l.length = len ∧ (p = none ∧ len = 0 ∨ ∃ n f, p = some ⟨n, 0, none⟩ ∧ s ≤ n ∧ h.get n = some (.cells ⟨l.flatMap EI.f⟩ 3 (f, 0)) ∧ (f = 0 ∨ f = 2))
theorem OwnI.sl {h : T} {s : Nat} {p : Option Addr} {len : Nat} {l : List Int} (o : OwnI h s p len l) : Sl EI h p len len l := by
  obtain ⟨hl, ⟨rfl, rfl⟩ | ⟨n, f, rfl, _, hg, hf⟩⟩ := o
  · obtain rfl := List.eq_nil_of_length_eq_zero hl
    exact .nil _
  · exact .own hg hf hl
theorem OwnI.but {h h' : T} {s : Nat} {p : Option Addr} {len : Nat} {l : List Int} (o : OwnI h s p len l) (e : p ≠ none → h'.get (blk p) = h.get (blk p)) : OwnI h' s p len l := by
  obtain ⟨hl, ho | ⟨n, f, rfl, h1, hg, hff⟩⟩ := o
  · exact ⟨hl, .inl ho⟩
  · exact ⟨hl, .inr ⟨n, f, rfl, h1, by rw [show h'.get n = h.get n from e (by simp)]; exact hg, hff⟩⟩
theorem OwnI.lt {h : T} {s s' : Nat} {p : Option Addr} {len : Nat} {l : List Int} (o : OwnI h s p len l) (hf : ∀ n, s' ≤ n → h.get n = none) (hp : p ≠ none) : s ≤ blk p ∧ blk p < s' := by
  obtain ⟨hl, ⟨rfl, _⟩ | ⟨n, f, rfl, h1, hg, hff⟩⟩ := o
  · exact absurd rfl hp
  · exact ⟨h1, lt_of_some hf ⟨_, hg⟩⟩
theorem OwnI.from {h h' : T} {s s0 s' : Nat} {p : Option Addr} {len : Nat} {l : List Int} (o : OwnI h s p len l) (hf : ∀ n, s0 ≤ n → h.get n = none) (g : From s0 h h' s') : OwnI h' s p len l :=
  o.but fun hp => g.keep _ (o.lt hf hp).2
theorem OwnI.less {h : T} {s s' : Nat} {p : Option Addr} {len : Nat} {l : List Int} (o : OwnI h s p len l) (hs : s' ≤ s) : OwnI h s' p len l := by
  obtain ⟨hl, ho | ⟨n, f, rfl, h1, hg, hff⟩⟩ := o
  · exact ⟨hl, .inl ho⟩
  · exact ⟨hl, .inr ⟨n, f, rfl, by omega, hg, hff⟩⟩
/-- Numbers put into a list that was just made. -/
theorem cpI {h0 h : T} {s0 s b len c : Nat} {p : Option Addr} {l : List Int} {pw : Nat → Prop} {Z : Value → T → Prop} {k : Value → Nat → AM} (g : From s0 h0 h s) (hp : ∀ n, s0 ≤ n → pw n) (hb : h.get b = some (.cells ⟨[]⟩ 3 (0, 0))) (hs : s0 ≤ b) (r : Row EI h p len l) (hl : len ≤ 100000)
    (hk : ∀ p' h' s', From s0 h0 h' s' → s ≤ s' → (∀ n, n < s → n ≠ b → h'.get n = h.get n) → OwnI h' b p' len l → (k (.slice p' len len) s').wp pw Z h') : (apS 3 1 (some ⟨b, 0, none⟩) 0 0 p len c k s).wp pw Z h := by
  have hbs := lt_of_some g.fresh ⟨_, hb⟩
  by_cases h0 : len = 0
  · subst h0
    obtain rfl := List.eq_nil_of_length_eq_zero r.1
    exact wp_ap_none (by omega) (by omega) (hk _ _ _ g (Nat.le_refl _) (fun _ _ _ => rfl) ⟨rfl, .inr ⟨b, 0, rfl, Nat.le_refl _, hb, .inl rfl⟩⟩)
  · refine Sl.addK (E := EI) (l := []) (Sl.own (len := 0) hb (.inl rfl) rfl) r (fun _ => rfl) h0 (by omega) (by omega) (g.fresh _ (Nat.le_refl _)) (hp _ (by omega)) (fun m o sp e => ?_) fun h2 b2 e2 => ?_
    · cases e
      exact ⟨hp _ hs, by omega, _, _, _, _, hb, .inl rfl⟩
    · rw [Nat.zero_add]
      exact hk _ _ _ ⟨by omega, fun n hn => by rw [e2 n (fun _ => by show n ≠ b; omega) (by omega)]; exact g.keep n hn, fun n hn => by rw [e2 n (fun _ => by show n ≠ b; omega) (by omega)]; exact g.fresh n (by omega)⟩ (by omega) (fun n h1 h2 => e2 n (fun _ => h2) (by omega)) ⟨r.1, .inr ⟨s, 2, rfl, by omega, b2, .inr rfl⟩⟩
section
variable {N d : Nat} {h : T} {s : Nat} (hf : ∀ n, s ≤ n → h.get n = none)
include hf
theorem s81o {p : Option Addr} {len cap : Nat} {l : List Int} (r : Sl EI h p len cap l) (hl : len ≤ 100000) : PureS (D N (d + 1)) 81 [.slice p len cap] h s (fun v h' s' => ∃ p', v = .slice p' len len ∧ OwnI h' s p' len l) := by
  refine PureS.of hf fun K pw Z g hp hk => ?_
  rw [D_81]; unfold F81; rw [app1_eq]
  cases p with
  | none =>
    obtain ⟨rfl, rfl⟩ := r.emp rfl
    try simp (disch := first | assumption | omega | (simp only [Int.ofNat_eq_natCast, neg_one]; done) | (simp only [Int.ofNat_eq_natCast, neg_one]; omega)) only [tysW, wB, mB, Nat.reduceAdd, Nat.reduceMul, List.length_cons, List.length_nil]
    exact hk _ _ _ g ⟨_, rfl, r.row.1, .inl ⟨rfl, rfl⟩⟩
  | some a =>
    try simp (disch := first | assumption | omega | (simp only [Int.ofNat_eq_natCast, neg_one]; done) | (simp only [Int.ofNat_eq_natCast, neg_one]; omega)) only [tysW, wB, mB, Nat.reduceAdd, Nat.reduceMul, List.length_cons, List.length_nil]
    refine wp_newF g hp fun h1 g1 c1 b1 => ?_
    try simp (disch := first | assumption | omega | (simp only [Int.ofNat_eq_natCast, neg_one]; done) | (simp only [Int.ofNat_eq_natCast, neg_one]; omega)) only [tysW, wB, mB, Nat.reduceAdd, Nat.reduceMul, List.length_cons, List.length_nil]
    exact cpI g1 hp b1 (Nat.le_refl _) (r.from hf g1).row hl fun p' h2 s2 g2 _ _ o2 => hk _ _ _ g2 ⟨p', rfl, o2⟩
theorem s70 {p : Option Addr} {len cap : Nat} {l : List Int} (r : Sl EI h p len cap l) (hl : len ≤ 100000) : PureS (D N (d + 1)) 70 [.slice p len cap] h s (fun v h' s' => ∃ p', v = .slice p' len len ∧ OwnI h' s p' len l) := by
  refine PureS.of hf fun K pw Z g hp hk => ?_
  rw [D_70]; unfold F70; rw [app1_eq]
  try simp (disch := first | assumption | omega | (simp only [Int.ofNat_eq_natCast, neg_one]; done) | (simp only [Int.ofNat_eq_natCast, neg_one]; omega)) only [tysW, wB, mB, Nat.reduceAdd, Nat.reduceMul, List.length_cons, List.length_nil]
  refine wp_newF g hp fun h1 g1 c1 b1 => ?_
  try simp (disch := first | assumption | omega | (simp only [Int.ofNat_eq_natCast, neg_one]; done) | (simp only [Int.ofNat_eq_natCast, neg_one]; omega)) only [tysW, wB, mB, Nat.reduceAdd, Nat.reduceMul, List.length_cons, List.length_nil]
  exact cpI g1 hp b1 (Nat.le_refl _) (r.from hf g1).row hl fun p' h2 s2 g2 _ _ o2 => hk _ _ _ g2 ⟨p', rfl, o2⟩
theorem s47 (e : EN) {p : Option Addr} {c : Nat} (r : Sl EI h p e.data.length c e.data) (hl : e.data.length ≤ 100000) : PureS (D N (d + 2)) 47 [eval e p c] h s (fun v h' s' => ∃ p', v = eval e p' e.data.length ∧ OwnI h' s p' e.data.length e.data) := by
  refine PureS.of hf fun K pw Z g hp hk => ?_
  rw [D_47]; unfold F47; rw [app1_eq]
  refine wp_boxA g hp fun h1 g1 c1 b1 => ?_
  try simp (disch := first | assumption | omega | (simp only [Int.ofNat_eq_natCast, neg_one]; done) | (simp only [Int.ofNat_eq_natCast, neg_one]; omega)) only [tysW, wB, mB, Nat.reduceAdd, Nat.reduceMul, List.length_cons, List.length_nil]
  refine wp_boxA g1 hp fun h2 g2 c2 b2 => ?_
  replace b1 := c2.box b1 (by omega)
  simp only [ev] at b1
  try simp (disch := first | assumption | omega | (simp only [Int.ofNat_eq_natCast, neg_one]; done) | (simp only [Int.ofNat_eq_natCast, neg_one]; omega)) only [tysW, wB, mB, Nat.reduceAdd, Nat.reduceMul, List.length_cons, List.length_nil, ldB b1, clB b1, ldBL b1, clBL b1]
  refine PureS.go g2 hp (s70 (d := d) g2.fresh (r.from hf g2) hl) fun v h3 s3 g3 c3 hv => ?_
  obtain ⟨p', rfl, o3⟩ := hv
  have l3 := c3.le
  replace b1 := c3.box b1 (by omega)
  replace b2 := c3.box b2 (by omega)
  try simp (disch := first | assumption | omega | (simp only [Int.ofNat_eq_natCast, neg_one]; done) | (simp only [Int.ofNat_eq_natCast, neg_one]; omega)) only [tysW, wB, mB, Nat.reduceAdd, Nat.reduceMul, List.length_cons, List.length_nil, ldB b1, clB b1, ldBL b1, clBL b1]
  refine wp_putF g3 hp b1 (by omega) (by simp) rfl fun h4 g4 b4 e4 => ?_
  simp only [overL] at b4
  try simp (disch := first | assumption | omega | (simp only [Int.ofNat_eq_natCast, neg_one]; done) | (simp only [Int.ofNat_eq_natCast, neg_one]; omega)) only [tysW, wB, mB, Nat.reduceAdd, Nat.reduceMul, List.length_cons, List.length_nil, ldB b4, clB b4, ldBL b4, clBL b4]
  replace b2 := (e4 (s + 1) (by omega)).trans b2
  refine wp_putF g4 hp b2 (by omega) (by simp) rfl fun h5 g5 b5 e5 => ?_
  simp only [overL] at b5
  try simp (disch := first | assumption | omega | (simp only [Int.ofNat_eq_natCast, neg_one]; done) | (simp only [Int.ofNat_eq_natCast, neg_one]; omega)) only [tysW, wB, mB, Nat.reduceAdd, Nat.reduceMul, List.length_cons, List.length_nil, ldB b5, clB b5, ldBL b5, clBL b5]
  exact hk _ _ _ g5 ⟨p', rfl, (o3.but fun hc => by have := o3.lt g3.fresh hc; rw [e5 _ (by omega), e4 _ (by omega)]).less (by omega)⟩
end
end Go.Ev.R
namespace Go.Ev.R
open Go Go.RowKit
/-- A ring as the document has it, in a heap: its box, its list, what its entries are. -/
structure RefAt (h : T) (wb : Nat) (keep : Int) (L : List EN) (p : Option Addr) (cap : Nat) (l : List EV) : Prop where
  box : h.get wb = some (.cells ⟨[vi keep, .slice p L.length cap]⟩ 67 (0, 0))
  sl : Sl EE h p L.length cap l
  ne : cap ≠ 0 → blk p ≠ wb
  rel : ∀ (i : Nat) (x : EV), l[i]? = some x → ∃ e, L[i]? = some e ∧ Rel h x e
  neD : ∀ x ∈ l, x.c ≠ 0 → blk x.p ≠ wb
theorem Rel.but {h h' : T} {x : EV} {e : EN} (r : Rel h x e) (k : x.c ≠ 0 → h'.get (blk x.p) = h.get (blk x.p)) : Rel h' x e := ⟨r.1, r.2.1, r.2.2.1, r.2.2.2.but k⟩
theorem Rel.from {h h' : T} {s0 s : Nat} {x : EV} {e : EN} (r : Rel h x e) (hf : ∀ n, s0 ≤ n → h.get n = none) (g : From s0 h h' s) : Rel h' x e := r.but fun hc => g.keep _ (r.2.2.2.lt hf hc)
theorem RefAt.len {h : T} {wb : Nat} {keep : Int} {L : List EN} {p : Option Addr} {cap : Nat} {l : List EV} (r : RefAt h wb keep L p cap l) : l.length = L.length := r.sl.row.1
theorem RefAt.at {h : T} {wb : Nat} {keep : Int} {L : List EN} {p : Option Addr} {cap : Nat} {l : List EV} (r : RefAt h wb keep L p cap l) {i : Nat} {e : EN} (he : L[i]? = some e) : ∃ x, l[i]? = some x ∧ Rel h x e := by
  obtain ⟨x, hx⟩ := get_some (l := l) (i := i) (by rw [r.len]; exact (List.getElem?_eq_some_iff.1 he).1)
  obtain ⟨e', h1, h2⟩ := r.rel i x hx
  rw [he] at h1; cases h1
  exact ⟨x, hx, h2⟩
theorem RefAt.from {h h' : T} {s0 s : Nat} {wb : Nat} {keep : Int} {L : List EN} {p : Option Addr} {cap : Nat} {l : List EV} (r : RefAt h wb keep L p cap l) (hf : ∀ n, s0 ≤ n → h.get n = none) (g : From s0 h h' s) : RefAt h' wb keep L p cap l :=
  ⟨g.box r.box (lt_of_some hf ⟨_, r.box⟩), r.sl.from hf g, r.ne, fun i x hx => by
    obtain ⟨e, h1, h2⟩ := r.rel i x hx
    exact ⟨e, h1, h2.from hf g⟩, r.neD⟩
/-- Where other blocks than its own are written. -/
theorem RefAt.but {h h' : T} {wb : Nat} {keep : Int} {L : List EN} {p : Option Addr} {cap : Nat} {l : List EV} (r : RefAt h wb keep L p cap l) {A : Nat → Prop} (hwb : ¬ A wb) (hp : cap ≠ 0 → ¬ A (blk p)) (hD : ∀ x ∈ l, x.c ≠ 0 → ¬ A (blk x.p)) (e : ∀ n, ¬ A n → h'.get n = h.get n) : RefAt h' wb keep L p cap l :=
  ⟨by rw [e wb hwb]; exact r.box, r.sl.but fun hc => e _ (hp hc), r.ne, fun i x hx => by
    obtain ⟨y, h1, h2⟩ := r.rel i x hx
    exact ⟨y, h1, h2.but fun hc => e _ (hD x (List.mem_of_getElem? hx) hc)⟩, r.neD⟩
section
variable {h : T} {p : Option Addr} {len : Nat} {l : List EV} (r : Row EE h p len l) {i : Nat} {x : EV} (hx : l[i]? = some x) {pw : Nat → Prop} {Z : Value → T → Prop}
include r hx
end
section
variable {N d : Nat} (hN : 100000 ≤ N) {h : T} {s : Nat} (hf : ∀ n, s ≤ n → h.get n = none)
include hf
theorem s50 (a b c : Int) (e : Bool) (v : Value) : ValS (D N (d + 1)) 50 [.agg ⟨[.int .i64 a, .int .i64 b, .int .i64 c, .bool e, v]⟩] h s (kval ⟨a, b, c⟩) := by
  refine ValS.of hf fun K pw Z g hp hk => ?_
  rw [D_50]; unfold F50; rw [app1_eq]
  refine wp_boxA g hp fun h1 g1 c1 b1 => ?_
  try simp (disch := first | assumption | omega | (simp only [Int.ofNat_eq_natCast, neg_one]; done) | (simp only [Int.ofNat_eq_natCast, neg_one]; omega)) only [tysW, wB, mB, Nat.reduceAdd, Nat.reduceMul, List.length_cons, List.length_nil]
  refine wp_boxA g1 hp fun h2 g2 c2 b2 => ?_
  replace b1 := c2.box b1 (by omega)
  try simp (disch := first | assumption | omega | (simp only [Int.ofNat_eq_natCast, neg_one]; done) | (simp only [Int.ofNat_eq_natCast, neg_one]; omega)) only [tysW, wB, mB, Nat.reduceAdd, Nat.reduceMul, List.length_cons, List.length_nil, ldB b1, clB b1, ldBL b1, clBL b1]
  refine wp_putF g2 hp b2 (by omega) (by exact Nat.le_refl 3) rfl fun h3 g3 b3 e3 => ?_
  simp only [overL] at b3
  try simp (disch := first | assumption | omega | (simp only [Int.ofNat_eq_natCast, neg_one]; done) | (simp only [Int.ofNat_eq_natCast, neg_one]; omega)) only [tysW, wB, mB, Nat.reduceAdd, Nat.reduceMul, List.length_cons, List.length_nil, ldB b3, clB b3, ldBL b3, clBL b3]
  exact hk _ _ g3
include hN
end
end Go.Ev.R

/- The law EntryTells, part 4: what the functions answer, by their terms. No condition. -/
import Derived.Test.YtgadiajhhjfmbaaEntryTellsP3
set_option linter.unusedVariables false
set_option linter.unusedSimpArgs false
set_option maxRecDepth 100000
namespace Go.Ev.R
open Go Go.RowKit
section
variable {α : Type} {E : Enc α} {el : TypeId}
/-- A list that was made. -/
def OwnG (E : Enc α) (el : TypeId) (h : T) (s : Nat) (p : Option Addr) (len : Nat) (l : List α) : Prop :=
  l.length = len ∧ (p = none ∧ len = 0 ∨ ∃ n f, p = some ⟨n, 0, none⟩ ∧ s ≤ n ∧ h.get n = some (.cells ⟨l.flatMap E.f⟩ el (f, 0)) ∧ (f = 0 ∨ f = E.z + 1))
variable {h h' : T} {s s' : Nat} {p : Option Addr} {len : Nat} {l : List α}
theorem OwnG.sl (o : OwnG E el h s p len l) : Sl E h p len len l := by
  obtain ⟨hl, ⟨rfl, rfl⟩ | ⟨n, f, rfl, _, hg, hf⟩⟩ := o
  · obtain rfl := List.eq_nil_of_length_eq_zero hl
    exact .nil _
  · exact .own hg hf hl
theorem OwnG.but (o : OwnG E el h s p len l) (e : p ≠ none → h'.get (blk p) = h.get (blk p)) : OwnG E el h' s p len l := by
  obtain ⟨hl, ho | ⟨n, f, rfl, h1, hg, hff⟩⟩ := o
  · exact ⟨hl, .inl ho⟩
  · exact ⟨hl, .inr ⟨n, f, rfl, h1, by rw [show h'.get n = h.get n from e (by simp)]; exact hg, hff⟩⟩
theorem OwnG.lt (o : OwnG E el h s p len l) (hf : ∀ n, s' ≤ n → h.get n = none) (hp : p ≠ none) : s ≤ blk p ∧ blk p < s' := by
  obtain ⟨hl, ⟨rfl, _⟩ | ⟨n, f, rfl, h1, hg, hff⟩⟩ := o
  · exact absurd rfl hp
  · exact ⟨h1, lt_of_some hf ⟨_, hg⟩⟩
theorem OwnG.from {s0 : Nat} (o : OwnG E el h s p len l) (hf : ∀ n, s0 ≤ n → h.get n = none) (g : From s0 h h' s') : OwnG E el h' s p len l :=
  o.but fun hp => g.keep _ (o.lt hf hp).2
theorem OwnG.less (o : OwnG E el h s p len l) (hs : s' ≤ s) : OwnG E el h s' p len l := by
  obtain ⟨hl, ho | ⟨n, f, rfl, h1, hg, hff⟩⟩ := o
  · exact ⟨hl, .inl ho⟩
  · exact ⟨hl, .inr ⟨n, f, rfl, by omega, hg, hff⟩⟩
theorem OwnG.nil : OwnG E el h s none 0 [] := ⟨rfl, .inl ⟨rfl, rfl⟩⟩
/-- One's own list, added to. -/
theorem apG {h0 : T} {s0 t n c : Nat} {q : Option Addr} {l2 : List α} {pw : Nat → Prop} {Z : Value → T → Prop} {k : Value → Nat → AM} (g : From s0 h0 h s) (hp : ∀ n, s0 ≤ n → pw n) (o : OwnG E el h t p len l) (ht : s0 ≤ t) (hts : t ≤ s) (r2 : Row E h q n l2) (h1 : ∀ x, (E.f x).all Value.oneCell' = true) (hsm : len + n ≤ 1000000)
    (hk : ∀ p' h' s', From s0 h0 h' s' → s ≤ s' → OwnG E el h' t p' (len + n) (l ++ l2) → (∀ i, i < s → (p ≠ none → i ≠ blk p) → h'.get i = h.get i) → (k (.slice p' (len + n) (len + n)) s').wp pw Z h') :
    (apS el E.z p len len q n c k s).wp pw Z h := by
  by_cases h0 : n = 0
  · subst h0
    have e2 := List.eq_nil_of_length_eq_zero r2.1
    subst e2
    exact wp_ap_none (by omega) (Nat.le_refl _) (hk p h s g (Nat.le_refl _) (by rw [List.append_nil]; exact o) fun _ _ _ => rfl)
  · refine Sl.addK (E := E) o.sl r2 h1 h0 hsm (by omega) (g.fresh _ (Nat.le_refl _)) (hp _ (by have := g.le; omega)) (fun m o' sp e => ?_) fun h2 b2 e2 => ?_
    · subst e
      obtain ⟨hl, ⟨h4, _⟩ | ⟨n', f, h4, h5, hg, hf⟩⟩ := o
      · cases h4
      · cases h4
        exact ⟨hp _ (by omega), by have := lt_of_some g.fresh ⟨_, hg⟩; omega, _, _, _, _, hg, hf⟩
    · have hb : ∀ i, i < s → (p ≠ none → i ≠ blk p) → h2.get i = h.get i := fun i hi hne => e2 i hne (by omega)
      refine hk _ h2 (s + 1) ⟨by have := g.le; omega, fun i hi => ?_, fun i hi => ?_⟩ (by omega) ⟨by rw [List.length_append, o.1, r2.1], .inr ⟨s, E.z + 1, rfl, hts, b2, .inr rfl⟩⟩ hb
      · rw [hb i (by have := g.le; omega) fun hp => by have := o.lt g.fresh hp; omega]
        exact g.keep i hi
      · rw [e2 i (fun hp => by have := o.lt g.fresh hp; omega) (by omega)]
        exact g.fresh i (by omega)
end
theorem D_Y (N d : Nat) (args : List Value) (K : KV) (s : Nat) : D N (d + 1) 1000000 args K s = yY P N (D N d) args K s := by kernel_rfl
section
variable {h h' : T} {x : Nat} {q : Loop} (hb : h.get x = some (.loop q)) (e : ∀ i, i ≠ x → h'.get i = h.get i)
include hb e
theorem Row.keepL {α : Type} {E : Enc α} {p : Option Addr} {n : Nat} {l : List α} (r : Row E h p n l) : Row E h' p n l :=
  ⟨r.1, r.2.of_eq fun hm => e _ fun he => by
    obtain ⟨c, t, f, h1, -⟩ := r.2.at_ hm
    rw [he, hb] at h1; cases h1⟩
theorem OwnG.keepL {α : Type} {E : Enc α} {el : TypeId} {s : Nat} {p : Option Addr} {len : Nat} {l : List α} (o : OwnG E el h s p len l) : OwnG E el h' s p len l := by
  refine o.but fun hp => e _ fun he => ?_
  obtain ⟨hl, ⟨rfl, _⟩ | ⟨n, f, rfl, h1, hg, hff⟩⟩ := o
  · exact hp rfl
  · have he : n = x := he
    rw [he, hb] at hg; cases hg
end
section
variable {h : T} {pw : Nat → Prop} {Z : Value → T → Prop} {s0 s : Nat} {h0 : T}
/-- A store of any object. -/
theorem wp_putO {n : Nat} {o o' : Obj} {k : AM} (g : From s0 h0 h s) (hp : ∀ n, s0 ≤ n → pw n) (hb : h.get n = some o) (hn : s0 ≤ n)
    (hk : ∀ h', From s0 h0 h' s → h'.get n = some o' → (∀ i, i ≠ n → h'.get i = h.get i) → k.wp pw Z h') : (AM.put n o' k).wp pw Z h := by
  have hns := lt_of_some g.fresh ⟨_, hb⟩
  rw [wp_put, hb]
  exact ⟨hp n hn, hk _ ⟨g.le, fun i hi => by rw [get_ne (by omega)]; exact g.keep i hi, fun i hi => by rw [get_ne (by omega)]; exact g.fresh i hi⟩ get_eq fun i hi => get_ne (Ne.symm hi)⟩
end
section
variable {h : T} {pw : Nat → Prop} {Z : Value → T → Prop} {s0 s : Nat} {h0 : T}
theorem wp_newO {o : Obj} {k : AM} (g : From s0 h0 h s) (hp : ∀ n, s0 ≤ n → pw n)
    (hk : ∀ h', From s0 h0 h' (s + 1) → From s h h' (s + 1) → h'.get s = some o → k.wp pw Z h') : (AM.new s o k).wp pw Z h := by
  rw [wp_new, g.fresh s (Nat.le_refl _)]
  have b : From s h (h.set s o) (s + 1) := ⟨by omega, fun n hn => get_ne (by omega), fun n hn => by rw [get_ne (by omega)]; exact g.fresh n (by omega)⟩
  exact ⟨hp s g.le, hk _ (g.trans b) b get_eq⟩
theorem yret1 {q : Nat} {k : Nat → AM} (g : From s0 h0 h s) (hp : ∀ n, s0 ≤ n → pw n) (hb : h.get q = some (.deferred (some []))) (hq : s0 ≤ q)
    (hk : ∀ h', From s0 h0 h' s → (∀ i, i ≠ q → h'.get i = h.get i) → (k s).wp pw Z h') : (yret [q] k s).wp pw Z h := by
  show (AM.get q fun o => match o with | .deferred (some []) => .put q (.deferred none) (k s) | _ => .fail).wp pw Z h
  rw [wp_get, hb]
  dsimp only
  exact wp_putO g hp hb hq fun h' g' b' e' => hk h' g' e'
end
theorem iy2 (C : CallT) (l : Nat) (x y : Value) (k : KV) (s : Nat) : invV P C (.func (.yield l) ⟨[]⟩ ⟨[]⟩) [x, y] k s = C 1000000 [.int .i64 (.ofNat l), x, y] k s := rfl
end Go.Ev.R
namespace Go.Ev.R
open Go Go.RowKit
/-- A row as it lies. -/
structure RW where
  s : Int
  p : Option Addr
  n : Nat
  c : Nat
  r : Int
  H : List Int
def rwv (x : RW) : List Value := [vi x.s, .slice x.p x.n x.c, vi x.r]
def ER : Enc RW := ⟨3, rwv, by decide, fun _ => rfl⟩
/-- A model as it lies. -/
structure MO where
  n : Int
  pA : Option Addr
  nA : Nat
  cA : Nat
  A : List Int
  pQ : Option Addr
  nQ : Nat
  cQ : Nat
  Q : List Int
  tick : Int
  gate : Int
  rmin : Int
  pR : Option Addr
  nR : Nat
  cR : Nat
  R : List RW
def mov (m : MO) : List Value := [vi m.n, .slice m.pA m.nA m.cA, .slice m.pQ m.nQ m.cQ, vi m.tick, vi m.gate, vi m.rmin, .slice m.pR m.nR m.cR]
structure MoAt (h : T) (m : MO) : Prop where
  a : Sl EI h m.pA m.nA m.cA m.A
  q : Sl EI h m.pQ m.nQ m.cQ m.Q
  r : Row ER h m.pR m.nR m.R
  hs : ∀ x ∈ m.R, Sl EI h x.p x.n x.c x.H
theorem MoAt.from {s0 s : Nat} {h0 h : T} {m : MO} (x : MoAt h0 m) (hf : ∀ n, s0 ≤ n → h0.get n = none) (g : From s0 h0 h s) : MoAt h m :=
  ⟨x.a.from hf g, x.q.from hf g, g.row hf x.r, fun y hy => (x.hs y hy).from hf g⟩
structure MoSm (m : MO) : Prop where
  a : m.nA ≤ 40
  q : m.nQ ≤ 12
  r : m.nR ≤ 30
  hs : ∀ x ∈ m.R, x.n ≤ 12
def farP (a : Int) : Prop := a < -68719476736 ∨ 68719476736 < a
def rowOK (n rmin last : Int) : List RW → Prop
  | [] => True
  | x :: l => (last ≤ x.s ∧ x.s ≤ 16) ∧ (x.n : Int) = n ∧ (∀ z ∈ x.H, ¬ farP z) ∧ rmin ≤ x.r ∧ rowOK n rmin x.s l
def aOK (m : MO) : Prop := (∀ (i : Nat) (a : Int), m.A[i]? = some a → a = 0 ∨ ((i : Int) / m.n < (i : Int) % m.n ∧ ¬ farP a)) ∧ (m.nA : Int) = m.n * m.n
def qOK (m : MO) : Prop := (m.nQ : Int) = m.n ∧ ∀ q ∈ m.Q, 0 ≤ q ∧ q ≤ 68719476736
def modOK (m : MO) : Prop := (1 ≤ m.n ∧ m.n ≤ 6) ∧ aOK m ∧ qOK m ∧ ((1 ≤ m.tick ∧ m.tick ≤ 4294967296) ∧ 1 ≤ m.gate ∧ 1 ≤ m.rmin) ∧ rowOK m.n m.rmin 1 m.R ∧ m.nR ≤ 24
/-- A Bool that tells whether. -/
def Tells (p : Prop) (v : Value) : Prop := ∃ b, v = .bool b ∧ (b = true ↔ p)
theorem Tells.yes {p : Prop} (h : p) : Tells p (.bool true) := ⟨true, rfl, fun _ => h, fun _ => rfl⟩
theorem Tells.no {p : Prop} (h : ¬ p) : Tells p (.bool false) := ⟨false, rfl, fun e => (by cases e), fun e => absurd e h⟩
theorem xaR {h : T} {p : Option Addr} {len : Nat} {l : List RW} (r : Row ER h p len l) {j : Int} (hj0 : 0 ≤ j) (hj : j < (len : Int)) (cap : Nat) (kd : IntKind) (k : Value → Nat → AM) (s : Nat) :
    M.opt (aindexAt P 78 (.slice p len cap) (.int kd j)) k s = k (.pointer (some ⟨blk p, off p + j.toNat * 3, none⟩)) s := r.2.xa (z := 3) xa0_78 (by decide) hj0 hj cap kd k s
theorem intI {h : T} {p : Option Addr} {len : Nat} {l : List Int} (r : Row EI h p len l) {i : Nat} {x : Int} (hx : l[i]? = some x) {pw : Nat → Prop} {Z : Value → T → Prop} (k : Value → Nat → AM) (s : Nat) :
    (aload (blk p) (off p + i) k s).wp pw Z h = (k (vi x) s).wp pw Z h := by
  have := r.2.one (Row.fld (E := EI) (j := 0) hx rfl) k s (pw := pw) (Z := Z)
  rw [show i * EI.z + 0 = i from Nat.mul_one i] at this; exact this
section
variable {h : T} {p : Option Addr} {len : Nat} {l : List RW} (r : Row ER h p len l) {i : Nat} {x : RW} (hx : l[i]? = some x) {pw : Nat → Prop} {Z : Value → T → Prop}
include r hx
theorem rwS (k : Value → Nat → AM) (s : Nat) : (aload (blk p) (off p + i * 3) k s).wp pw Z h = (k (vi x.s) s).wp pw Z h := by
  have := r.2.one (Row.fld (E := ER) (j := 0) hx rfl) k s (pw := pw) (Z := Z)
  exact this
theorem rwH (k : Value → Nat → AM) (s : Nat) : (aload (blk p) (off p + i * 3 + 1) k s).wp pw Z h = (k (.slice x.p x.n x.c) s).wp pw Z h := by
  have := r.2.one (Row.fld (E := ER) (j := 1) hx rfl) k s (pw := pw) (Z := Z)
  rw [← Nat.add_assoc] at this; exact this
theorem rwA (k : List Value → Nat → AM) (s : Nat) : (acells (blk p) (off p + i * 3) 3 k s).wp pw Z h = (k (rwv x) s).wp pw Z h := r.ld hx k s
theorem rwAL (q : List Value → Value) (j : LogT) (s : Nat) : (AM.log (acells (blk p) (off p + i * 3) 3 (fun l s => .ret (pk (q l) s)) s) (logU j)).wp pw Z h = (j (q (rwv x)) [blk p] [] s).wp pw Z h := r.ldL hx q j s
end
section
variable {N d : Nat} (hN : 100000 ≤ N) {h : T} {s : Nat} (hf : ∀ n, s ≤ n → h.get n = none)
include hN hf
omit hN in
theorem s99 (a : Int) : PureS (D N (d + 1)) 99 [vi a] h s (fun v _ _ => Tells (farP a) v) := by
  refine PureS.of hf fun K pw Z g hp hk => ?_
  rw [D_99]; unfold F99; rw [app1_eq]
  by_cases h1 : a < -68719476736
  · try simp (disch := first | assumption | omega | (simp only [Int.ofNat_eq_natCast, neg_one]; done) | (simp only [Int.ofNat_eq_natCast, neg_one]; omega)) only [tysW, wB, mB, Nat.reduceAdd, Nat.reduceMul, List.length_cons, List.length_nil]
    exact hk _ _ _ g (.yes (.inl h1))
  · by_cases h2 : 68719476736 < a
    · try simp (disch := first | assumption | omega | (simp only [Int.ofNat_eq_natCast, neg_one]; done) | (simp only [Int.ofNat_eq_natCast, neg_one]; omega)) only [tysW, wB, mB, Nat.reduceAdd, Nat.reduceMul, List.length_cons, List.length_nil]
      exact hk _ _ _ g (.yes (.inr h2))
    · try simp (disch := first | assumption | omega | (simp only [Int.ofNat_eq_natCast, neg_one]; done) | (simp only [Int.ofNat_eq_natCast, neg_one]; omega)) only [tysW, wB, mB, Nat.reduceAdd, Nat.reduceMul, List.length_cons, List.length_nil]
      exact hk _ _ _ g (.no (by unfold farP; omega))
omit hN in
theorem s100 (a : Int) : PureS (D N (d + 1)) 100 [vi a] h s (fun v _ _ => Tells (farP a) v) := by
  refine PureS.of hf fun K pw Z g hp hk => ?_
  rw [D_100]; unfold F100; rw [app1_eq]
  by_cases h1 : a < -68719476736
  · try simp (disch := first | assumption | omega | (simp only [Int.ofNat_eq_natCast, neg_one]; done) | (simp only [Int.ofNat_eq_natCast, neg_one]; omega)) only [tysW, wB, mB, Nat.reduceAdd, Nat.reduceMul, List.length_cons, List.length_nil]
    exact hk _ _ _ g (.yes (.inl h1))
  · by_cases h2 : 68719476736 < a
    · try simp (disch := first | assumption | omega | (simp only [Int.ofNat_eq_natCast, neg_one]; done) | (simp only [Int.ofNat_eq_natCast, neg_one]; omega)) only [tysW, wB, mB, Nat.reduceAdd, Nat.reduceMul, List.length_cons, List.length_nil]
      exact hk _ _ _ g (.yes (.inr h2))
    · try simp (disch := first | assumption | omega | (simp only [Int.ofNat_eq_natCast, neg_one]; done) | (simp only [Int.ofNat_eq_natCast, neg_one]; omega)) only [tysW, wB, mB, Nat.reduceAdd, Nat.reduceMul, List.length_cons, List.length_nil]
      exact hk _ _ _ g (.no (by unfold farP; omega))
def farD (a : Int) : Prop := a < -140737488355328 ∨ 140737488355328 < a
omit hN in
theorem s72 (a : Int) : PureS (D N (d + 1)) 72 [vi a] h s (fun v _ _ => Tells (farD a) v) := by
  refine PureS.of hf fun K pw Z g hp hk => ?_
  rw [D_72]; unfold F72; rw [app1_eq]
  by_cases h1 : a < -140737488355328
  · try simp (disch := first | assumption | omega | (simp only [Int.ofNat_eq_natCast, neg_one]; done) | (simp only [Int.ofNat_eq_natCast, neg_one]; omega)) only [tysW, wB, mB, Nat.reduceAdd, Nat.reduceMul, List.length_cons, List.length_nil]
    exact hk _ _ _ g (.yes (.inl h1))
  · by_cases h2 : 140737488355328 < a
    · try simp (disch := first | assumption | omega | (simp only [Int.ofNat_eq_natCast, neg_one]; done) | (simp only [Int.ofNat_eq_natCast, neg_one]; omega)) only [tysW, wB, mB, Nat.reduceAdd, Nat.reduceMul, List.length_cons, List.length_nil]
      exact hk _ _ _ g (.yes (.inr h2))
    · try simp (disch := first | assumption | omega | (simp only [Int.ofNat_eq_natCast, neg_one]; done) | (simp only [Int.ofNat_eq_natCast, neg_one]; omega)) only [tysW, wB, mB, Nat.reduceAdd, Nat.reduceMul, List.length_cons, List.length_nil]
      exact hk _ _ _ g (.no (by unfold farD; omega))
omit hN in
theorem s85 (a lo hi : Int) : PureS (D N (d + 1)) 85 [vi a, vi lo, vi hi] h s (fun v _ _ => Tells (lo ≤ a ∧ a ≤ hi) v) := by
  refine PureS.of hf fun K pw Z g hp hk => ?_
  rw [D_85]; unfold F85; rw [app3_eq]
  by_cases h1 : lo ≤ a
  · by_cases h2 : a ≤ hi
    · try simp (disch := first | assumption | omega | (simp only [Int.ofNat_eq_natCast, neg_one]; done) | (simp only [Int.ofNat_eq_natCast, neg_one]; omega)) only [tysW, wB, mB, Nat.reduceAdd, Nat.reduceMul, List.length_cons, List.length_nil]
      exact hk _ _ _ g (.yes ⟨h1, h2⟩)
    · try simp (disch := first | assumption | omega | (simp only [Int.ofNat_eq_natCast, neg_one]; done) | (simp only [Int.ofNat_eq_natCast, neg_one]; omega)) only [tysW, wB, mB, Nat.reduceAdd, Nat.reduceMul, List.length_cons, List.length_nil]
      exact hk _ _ _ g (.no fun e => h2 e.2)
  · try simp (disch := first | assumption | omega | (simp only [Int.ofNat_eq_natCast, neg_one]; done) | (simp only [Int.ofNat_eq_natCast, neg_one]; omega)) only [tysW, wB, mB, Nat.reduceAdd, Nat.reduceMul, List.length_cons, List.length_nil]
    exact hk _ _ _ g (.no fun e => h1 e.1)
omit hN in
theorem s89 (a : Int) : PureS (D N (d + 2)) 89 [vi a] h s (fun v _ _ => Tells (¬ (0 ≤ a ∧ a ≤ 68719476736)) v) := by
  refine PureS.of hf fun K pw Z g hp hk => ?_
  rw [D_89]; unfold F89; rw [app1_eq]
  refine PureS.go g hp (s85 (d := d) g.fresh a 0 68719476736) fun v h1 s1 g1 c1 hv => ?_
  obtain ⟨b, rfl, hb⟩ := hv
  cases b with
  | true => try simp (disch := first | assumption | omega | (simp only [Int.ofNat_eq_natCast, neg_one]; done) | (simp only [Int.ofNat_eq_natCast, neg_one]; omega)) only [tysW, wB, mB, Nat.reduceAdd, Nat.reduceMul, List.length_cons, List.length_nil]; exact hk _ _ _ g1 (.no fun e => e (hb.1 rfl))
  | false => try simp (disch := first | assumption | omega | (simp only [Int.ofNat_eq_natCast, neg_one]; done) | (simp only [Int.ofNat_eq_natCast, neg_one]; omega)) only [tysW, wB, mB, Nat.reduceAdd, Nat.reduceMul, List.length_cons, List.length_nil]; exact hk _ _ _ g1 (.yes fun e => by have := hb.2 e; cases this)
/-- The first number that is so. -/
theorem s93 {p : Option Addr} {len cap : Nat} {l : List Int} (r : Row EI h p len l) (hl : len ≤ 1000) {fv : Value} {gf : Nat} {Q : Int → Prop} (iv : ∀ (x : Value) (k : KV) (s : Nat), invV P (D N d) fv [x] k s = D N d gf [x] k s)
    (hc : ∀ (a : Int) (h : T) (s : Nat), (∀ n, s ≤ n → h.get n = none) → PureS (D N d) gf [vi a] h s (fun v _ _ => Tells (Q a) v)) : PureS (D N (d + 1)) 93 [.slice p len cap, fv] h s (fun v _ _ => ∃ k : Int, v = vi k ∧ (0 ≤ k ↔ ∃ a ∈ l, Q a)) := by
  refine PureS.of hf fun K pw Z g hp hk => ?_
  rw [D_93]; unfold F93; rw [app2_eq]
  try simp (disch := first | assumption | omega | (simp only [Int.ofNat_eq_natCast, neg_one]; done) | (simp only [Int.ofNat_eq_natCast, neg_one]; omega)) only [tysW, wB, mB, Nat.reduceAdd, Nat.reduceMul, List.length_cons, List.length_nil]
  have loop : ∀ (B : (Value → Value → Nat → AM) → Value → Value → Nat → AM) (hB : ∀ H u i s', B H u i s' = X93_1 N (D N d) K (vi len) (.slice p len cap) fv (fun s => K (vi (-1)) s) H u i s') (m i : Nat) (u : Value) (h1 : T) (s1 : Nat), len - i < m → i ≤ len → From s h h1 s1 → (∀ j a, j < i → l[j]? = some a → ¬ Q a) →
      (loopJ m 2 (fun _ _ _ => AM.fail) B u (vi i) s1).wp pw Z h1 := by
    intro B hB m
    induction m with
    | zero => intro i u h1 s1 hm; omega
    | succ m ih =>
      intro i u h1 s1 hm hil g1 he
      have r1 := g1.row hf r
      rw [loopJ_succ, hB]
      unfold X93_1
      by_cases hlt : i < len
      · obtain ⟨x, hx⟩ := get_some (l := l) (i := i) (by rw [r.1]; omega)
        try simp (disch := first | assumption | omega | (simp only [Int.ofNat_eq_natCast, neg_one]; done) | (simp only [Int.ofNat_eq_natCast, neg_one]; omega)) only [tysW, wB, mB, Nat.reduceAdd, Nat.reduceMul, List.length_cons, List.length_nil, xaI r1 (j := (i : Int)) (by omega) (by omega), intI r1 hx]
        rw [iv]
        refine PureS.go g1 hp (hc x h1 s1 g1.fresh) fun v h2 s2 g2 c2 hv => ?_
        obtain ⟨b, rfl, hb⟩ := hv
        cases b with
        | true => try simp (disch := first | assumption | omega | (simp only [Int.ofNat_eq_natCast, neg_one]; done) | (simp only [Int.ofNat_eq_natCast, neg_one]; omega)) only [tysW, wB, mB, Nat.reduceAdd, Nat.reduceMul, List.length_cons, List.length_nil]; exact hk _ _ _ g2 ⟨_, rfl, fun _ => ⟨x, List.mem_of_getElem? hx, hb.1 rfl⟩, fun _ => by omega⟩
        | false =>
          try simp (disch := first | assumption | omega | (simp only [Int.ofNat_eq_natCast, neg_one]; done) | (simp only [Int.ofNat_eq_natCast, neg_one]; omega)) only [tysW, wB, mB, Nat.reduceAdd, Nat.reduceMul, List.length_cons, List.length_nil]
          exact ih (i + 1) u h2 s2 (by omega) (by omega) g2 fun j a hj ha => by
            rcases Nat.lt_or_ge j i with h6 | h6
            · exact he j a h6 ha
            · rw [show j = i by omega, hx] at ha
              cases ha
              exact fun e => by have := hb.2 e; cases this
      · obtain rfl : i = len := by omega
        try simp (disch := first | assumption | omega | (simp only [Int.ofNat_eq_natCast, neg_one]; done) | (simp only [Int.ofNat_eq_natCast, neg_one]; omega)) only [tysW, wB, mB, Nat.reduceAdd, Nat.reduceMul, List.length_cons, List.length_nil]
        refine hk _ _ _ g1 ⟨-1, rfl, fun e => by omega, fun ⟨a, ha, hq⟩ => ?_⟩
        obtain ⟨j, hj⟩ := List.getElem?_of_mem ha
        exact absurd hq (he j a (by have := (List.getElem?_eq_some_iff.1 hj).1; rw [r.1] at this; exact this) hj)
  exact loop _ (fun _ _ _ _ => rfl) N 0 _ h s (by omega) (by omega) g fun j a hj => by omega
theorem s74 {p : Option Addr} {len cap : Nat} {l : List Int} (r : Row EI h p len l) (hl : len ≤ 1000) {fv : Value} {gf : Nat} {Q : Int → Prop} (iv : ∀ (x : Value) (k : KV) (s : Nat), invV P (D N d) fv [x] k s = D N d gf [x] k s)
    (hc : ∀ (a : Int) (h : T) (s : Nat), (∀ n, s ≤ n → h.get n = none) → PureS (D N d) gf [vi a] h s (fun v _ _ => Tells (Q a) v)) : PureS (D N (d + 2)) 74 [.slice p len cap, fv] h s (fun v _ _ => Tells (∃ a ∈ l, Q a) v) := by
  refine PureS.of hf fun K pw Z g hp hk => ?_
  rw [D_74]; unfold F74; rw [app2_eq]
  refine PureS.go g hp (s93 (d := d) hN g.fresh r hl iv hc) fun v h1 s1 g1 c1 hv => ?_
  obtain ⟨k, rfl, hq⟩ := hv
  by_cases h0 : 0 ≤ k
  · try simp (disch := first | assumption | omega | (simp only [Int.ofNat_eq_natCast, neg_one]; done) | (simp only [Int.ofNat_eq_natCast, neg_one]; omega)) only [tysW, wB, mB, Nat.reduceAdd, Nat.reduceMul, List.length_cons, List.length_nil]
    exact hk _ _ _ g1 (.yes (hq.1 h0))
  · try simp (disch := first | assumption | omega | (simp only [Int.ofNat_eq_natCast, neg_one]; done) | (simp only [Int.ofNat_eq_natCast, neg_one]; omega)) only [tysW, wB, mB, Nat.reduceAdd, Nat.reduceMul, List.length_cons, List.length_nil]
    exact hk _ _ _ g1 (.no fun e => h0 (hq.2 e))
/-- No long model. -/
theorem s46 {m : MO} (x : MoAt h m) : PureS (D N (d + 1)) 46 [.agg ⟨mov m⟩] h s (fun v _ _ => ∃ b, v = .bool b ∧ (b = false → MoSm m)) := by
  refine PureS.of hf fun K pw Z g hp hk => ?_
  rw [D_46]; unfold F46; rw [app1_eq]
  refine wp_boxA g hp fun h1 g1 c1 b1 => ?_
  have x1 := x.from hf g1
  simp only [mov] at b1
  try simp (disch := first | assumption | omega | (simp only [Int.ofNat_eq_natCast, neg_one]; done) | (simp only [Int.ofNat_eq_natCast, neg_one]; omega)) only [tysW, wB, mB, Nat.reduceAdd, Nat.reduceMul, List.length_cons, List.length_nil]
  have loop : ∀ (J : Nat → AM) (hJ : (∀ i x, i < 31 → m.R[i]? = some x → x.n ≤ 12) → (J (s + 1)).wp pw Z h1) (B : (Value → Value → Nat → AM) → Value → Value → Nat → AM) (hB : ∀ H u i s', B H u i s' = X46_2 N (D N d) K (ptr s) J H u i s') (q i : Nat) (u : Value), 32 - i < q → i ≤ 31 → (∀ j x, j < i → m.R[j]? = some x → x.n ≤ 12) →
      (loopJ q 2 (fun _ _ _ => AM.fail) B u (vi i) (s + 1)).wp pw Z h1 := by
    intro J hJ B hB q
    induction q with
    | zero => intro i u hm; omega
    | succ q ih =>
      intro i u hm hil he
      rw [loopJ_succ, hB]
      unfold X46_2
      by_cases hlt : i < m.nR
      · by_cases h31 : i < 31
        · obtain ⟨y, hy⟩ := get_some (l := m.R) (i := i) (by rw [x.r.1]; omega)
          try simp (disch := first | assumption | omega | (simp only [Int.ofNat_eq_natCast, neg_one]; done) | (simp only [Int.ofNat_eq_natCast, neg_one]; omega)) only [tysW, wB, mB, Nat.reduceAdd, Nat.reduceMul, List.length_cons, List.length_nil, ldB b1, clB b1, ldBL b1, clBL b1, xaR x1.r (j := (i : Int)) (by omega) (by omega), rwH x1.r hy]
          by_cases h12 : (12 : Int) < (y.n : Int)
          · try simp (disch := first | assumption | omega | (simp only [Int.ofNat_eq_natCast, neg_one]; done) | (simp only [Int.ofNat_eq_natCast, neg_one]; omega)) only [tysW, wB, mB, Nat.reduceAdd, Nat.reduceMul, List.length_cons, List.length_nil]
            exact hk _ _ _ g1 ⟨true, rfl, fun e => by cases e⟩
          · try simp (disch := first | assumption | omega | (simp only [Int.ofNat_eq_natCast, neg_one]; done) | (simp only [Int.ofNat_eq_natCast, neg_one]; omega)) only [tysW, wB, mB, Nat.reduceAdd, Nat.reduceMul, List.length_cons, List.length_nil]
            exact ih (i + 1) u (by omega) (by omega) fun j z hj hz => by
              rcases Nat.lt_or_ge j i with h6 | h6
              · exact he j z h6 hz
              · rw [show j = i by omega, hy] at hz; cases hz; omega
        · try simp (disch := first | assumption | omega | (simp only [Int.ofNat_eq_natCast, neg_one]; done) | (simp only [Int.ofNat_eq_natCast, neg_one]; omega)) only [tysW, wB, mB, Nat.reduceAdd, Nat.reduceMul, List.length_cons, List.length_nil, ldB b1, clB b1, ldBL b1, clBL b1]
          exact hJ fun j z hj hz => he j z (by omega) hz
      · try simp (disch := first | assumption | omega | (simp only [Int.ofNat_eq_natCast, neg_one]; done) | (simp only [Int.ofNat_eq_natCast, neg_one]; omega)) only [tysW, wB, mB, Nat.reduceAdd, Nat.reduceMul, List.length_cons, List.length_nil, ldB b1, clB b1, ldBL b1, clBL b1]
        exact hJ fun j z hj hz => he j z (by have := (List.getElem?_eq_some_iff.1 hz).1; rw [x.r.1] at this; omega) hz
  refine loop _ (fun hH => ?_) _ (fun _ _ _ _ => rfl) N 0 _ (by omega) (by omega) fun j x hj => by omega
  unfold X46_1
  by_cases hA : (40 : Int) < (m.nA : Int)
  · try simp (disch := first | assumption | omega | (simp only [Int.ofNat_eq_natCast, neg_one]; done) | (simp only [Int.ofNat_eq_natCast, neg_one]; omega)) only [tysW, wB, mB, Nat.reduceAdd, Nat.reduceMul, List.length_cons, List.length_nil, ldB b1, clB b1, ldBL b1, clBL b1]
    exact hk _ _ _ g1 ⟨true, rfl, fun e => by cases e⟩
  · by_cases hQ : (12 : Int) < (m.nQ : Int)
    · try simp (disch := first | assumption | omega | (simp only [Int.ofNat_eq_natCast, neg_one]; done) | (simp only [Int.ofNat_eq_natCast, neg_one]; omega)) only [tysW, wB, mB, Nat.reduceAdd, Nat.reduceMul, List.length_cons, List.length_nil, ldB b1, clB b1, ldBL b1, clBL b1]
      exact hk _ _ _ g1 ⟨true, rfl, fun e => by cases e⟩
    · by_cases hR : (30 : Int) < (m.nR : Int)
      · try simp (disch := first | assumption | omega | (simp only [Int.ofNat_eq_natCast, neg_one]; done) | (simp only [Int.ofNat_eq_natCast, neg_one]; omega)) only [tysW, wB, mB, Nat.reduceAdd, Nat.reduceMul, List.length_cons, List.length_nil, ldB b1, clB b1, ldBL b1, clBL b1]
        exact hk _ _ _ g1 ⟨true, rfl, fun e => by cases e⟩
      · try simp (disch := first | assumption | omega | (simp only [Int.ofNat_eq_natCast, neg_one]; done) | (simp only [Int.ofNat_eq_natCast, neg_one]; omega)) only [tysW, wB, mB, Nat.reduceAdd, Nat.reduceMul, List.length_cons, List.length_nil, ldB b1, clB b1, ldBL b1, clBL b1]
        refine hk _ _ _ g1 ⟨false, rfl, fun _ => ⟨by omega, by omega, by omega, fun z hz => ?_⟩⟩
        obtain ⟨j, hj⟩ := List.getElem?_of_mem hz
        exact hH j z (by have := (List.getElem?_eq_some_iff.1 hj).1; rw [x.r.1] at this; omega) hj
end
end Go.Ev.R
namespace Go.Ev.R
open Go Go.RowKit
theorem drop_at {α : Type} {l : List α} {i : Nat} {x : α} (hx : l[i]? = some x) : l.drop i = x :: l.drop (i + 1) := by
  obtain ⟨h1, rfl⟩ := List.getElem?_eq_some_iff.1 hx
  exact List.drop_eq_getElem_cons h1
section
variable (pw : Nat → Prop) (Z : Value → T → Prop) (h : T) (t yt : TypeId) (cx cy : Bool) (k : Value → Nat → AM) (s : Nat)
theorem w_remN (i : Nat) (n : Int) (hn : 1 ≤ n) : (remX P t yt cx cy (vi i) (vi n) k s).wp pw Z h = (k (vi ((i : Int) % n)) s).wp pw Z h := by
  rw [w_rem (h1 := by omega), Int.tmod_eq_emod_of_nonneg (by omega)]
theorem w_quoN (i : Nat) (n : Int) (hn : 1 ≤ n) (hi : i ≤ 1000000) : (quoX P t yt cx cy (vi i) (vi n) k s).wp pw Z h = (k (vi ((i : Int) / n)) s).wp pw Z h := by
  have e : (i : Int).tdiv n = (i : Int) / n := Int.tdiv_eq_ediv_of_nonneg (by omega)
  have h1 : 0 ≤ (i : Int) / n := Int.ediv_nonneg (by omega) (by omega)
  have h2 : (i : Int) / n ≤ i := Int.ediv_le_self n (by omega)
  rw [w_quo (h1 := by omega) (h2 := by rw [e]; omega), e]
theorem w_mulN (a b : Int) (h1 : 0 ≤ a ∧ a ≤ 1000000 ∧ 0 ≤ b ∧ b ≤ 1000000) : (mulX P t yt cx cy (vi a) (vi b) k s).wp pw Z h = (k (vi (a * b)) s).wp pw Z h := by
  have h2 : 0 ≤ a * b := Int.mul_nonneg h1.1 h1.2.2.1
  have h3 : a * b ≤ 1000000 * 1000000 := Int.mul_le_mul h1.2.1 h1.2.2.2 h1.2.2.1 (by omega)
  rw [mul_eq, wrap_id (by omega) (by omega)]
end
section
variable {N d : Nat} (hN : 100000 ≤ N) {h : T} {s : Nat} (hf : ∀ n, s ≤ n → h.get n = none)
include hN hf
theorem s87 {m : MO} (x : MoAt h m) (sm : MoSm m) (hn : 1 ≤ m.n ∧ m.n ≤ 6) : PureS (D N (d + 2)) 87 [.agg ⟨mov m⟩] h s (fun v _ _ => Tells (aOK m) v) := by
  refine PureS.of hf fun K pw Z g hp hk => ?_
  rw [D_87]; unfold F87; rw [app1_eq]
  refine wp_boxA g hp fun h1 g1 c1 b1 => ?_
  have sa := sm.a
  simp only [mov] at b1
  try simp (disch := first | assumption | omega | (simp only [Int.ofNat_eq_natCast, neg_one]; done) | (simp only [Int.ofNat_eq_natCast, neg_one]; omega)) only [tysW, wB, mB, Nat.reduceAdd, Nat.reduceMul, List.length_cons, List.length_nil, ldB b1, clB b1, ldBL b1, clBL b1]
  have loop : ∀ (J : Nat → AM) (hJ : ∀ h2 s2, From s h h2 s2 → h2.get s = h1.get s → (∀ (j : Nat) (a : Int), m.A[j]? = some a → a = 0 ∨ ((j : Int) / m.n < (j : Int) % m.n ∧ ¬ farP a)) → (J s2).wp pw Z h2) (B : (Value → Value → Nat → AM) → Value → Value → Nat → AM) (hB : ∀ H u i s', B H u i s' = X87_5 N (D N (d + 1)) K (vi m.nA) (.slice m.pA m.nA m.cA) (ptr s) J H u i s') (q i : Nat) (u : Value) (h2 : T) (s2 : Nat), m.nA - i < q → i ≤ m.nA → From s h h2 s2 → From (s + 1) h1 h2 s2 → (∀ (j : Nat) (a : Int), j < i → m.A[j]? = some a → a = 0 ∨ ((j : Int) / m.n < (j : Int) % m.n ∧ ¬ farP a)) →
      (loopJ q 2 (fun _ _ _ => AM.fail) B u (vi i) s2).wp pw Z h2 := by
    intro J hJ B hB q
    induction q with
    | zero => intro i u h2 s2 hm; omega
    | succ q ih =>
      intro i u h2 s2 hm hil g2 c2 he
      have b2 := c2.box b1 (by omega)
      have x2 := x.from hf g2
      rw [loopJ_succ, hB]
      unfold X87_5
      by_cases hlt : i < m.nA
      · obtain ⟨a, ha⟩ := get_some (l := m.A) (i := i) (by rw [x.a.row.1]; omega)
        have next : (a = 0 ∨ ((i : Int) / m.n < (i : Int) % m.n ∧ ¬ farP a)) → ∀ (j : Nat) (b : Int), j < i + 1 → m.A[j]? = some b → b = 0 ∨ ((j : Int) / m.n < (j : Int) % m.n ∧ ¬ farP b) := fun hq j b hj hb => by
          rcases Nat.lt_or_ge j i with h6 | h6
          · exact he j b h6 hb
          · obtain rfl : j = i := by omega
            rw [ha] at hb; cases hb; exact hq
        try simp (disch := first | assumption | omega | (simp only [Int.ofNat_eq_natCast, neg_one]; done) | (simp only [Int.ofNat_eq_natCast, neg_one]; omega)) only [tysW, wB, mB, Nat.reduceAdd, Nat.reduceMul, List.length_cons, List.length_nil, xaI x2.a.row (j := (i : Int)) (by omega) (by omega), intI x2.a.row ha]
        by_cases h0 : a = 0
        · try simp (disch := first | assumption | omega | (simp only [Int.ofNat_eq_natCast, neg_one]; done) | (simp only [Int.ofNat_eq_natCast, neg_one]; omega)) only [tysW, wB, mB, Nat.reduceAdd, Nat.reduceMul, List.length_cons, List.length_nil]
          unfold X87_4; try simp (disch := first | assumption | omega | (simp only [Int.ofNat_eq_natCast, neg_one]; done) | (simp only [Int.ofNat_eq_natCast, neg_one]; omega)) only [tysW, wB, mB, Nat.reduceAdd, Nat.reduceMul, List.length_cons, List.length_nil]
          unfold X87_3; try simp (disch := first | assumption | omega | (simp only [Int.ofNat_eq_natCast, neg_one]; done) | (simp only [Int.ofNat_eq_natCast, neg_one]; omega)) only [tysW, wB, mB, Nat.reduceAdd, Nat.reduceMul, List.length_cons, List.length_nil]
          unfold X87_2; try simp (disch := first | assumption | omega | (simp only [Int.ofNat_eq_natCast, neg_one]; done) | (simp only [Int.ofNat_eq_natCast, neg_one]; omega)) only [tysW, wB, mB, Nat.reduceAdd, Nat.reduceMul, List.length_cons, List.length_nil, w_gu]
          unfold X87_1; try simp (disch := first | assumption | omega | (simp only [Int.ofNat_eq_natCast, neg_one]; done) | (simp only [Int.ofNat_eq_natCast, neg_one]; omega)) only [tysW, wB, mB, Nat.reduceAdd, Nat.reduceMul, List.length_cons, List.length_nil, w_gu]
          exact ih (i + 1) u h2 s2 (by omega) (by omega) g2 c2 (next (.inl h0))
        · try simp (disch := first | assumption | omega | (simp only [Int.ofNat_eq_natCast, neg_one]; done) | (simp only [Int.ofNat_eq_natCast, neg_one]; omega)) only [tysW, wB, mB, Nat.reduceAdd, Nat.reduceMul, List.length_cons, List.length_nil]
          unfold X87_4; try simp (disch := first | assumption | omega | (simp only [Int.ofNat_eq_natCast, neg_one]; done) | (simp only [Int.ofNat_eq_natCast, neg_one]; omega)) only [tysW, wB, mB, Nat.reduceAdd, Nat.reduceMul, List.length_cons, List.length_nil, ldB b2, clB b2, ldBL b2, clBL b2, w_remN]
          unfold X87_3; try simp (disch := first | assumption | omega | (simp only [Int.ofNat_eq_natCast, neg_one]; done) | (simp only [Int.ofNat_eq_natCast, neg_one]; omega)) only [tysW, wB, mB, Nat.reduceAdd, Nat.reduceMul, List.length_cons, List.length_nil, ldB b2, clB b2, ldBL b2, clBL b2, w_remN]
          unfold X87_2; try simp (disch := first | assumption | omega | (simp only [Int.ofNat_eq_natCast, neg_one]; done) | (simp only [Int.ofNat_eq_natCast, neg_one]; omega)) only [tysW, wB, mB, Nat.reduceAdd, Nat.reduceMul, List.length_cons, List.length_nil, ldB b2, clB b2, ldBL b2, clBL b2, w_quoN]
          by_cases hle : (i : Int) % m.n ≤ (i : Int) / m.n
          · try simp (disch := first | assumption | omega | (simp only [Int.ofNat_eq_natCast, neg_one]; done) | (simp only [Int.ofNat_eq_natCast, neg_one]; omega)) only [tysW, wB, mB, Nat.reduceAdd, Nat.reduceMul, List.length_cons, List.length_nil]
            unfold X87_1; try simp (disch := first | assumption | omega | (simp only [Int.ofNat_eq_natCast, neg_one]; done) | (simp only [Int.ofNat_eq_natCast, neg_one]; omega)) only [tysW, wB, mB, Nat.reduceAdd, Nat.reduceMul, List.length_cons, List.length_nil, w_gu]
            exact hk _ _ _ g2 (.no fun e => by rcases e.1 i a ha with h7 | h7; exact h0 h7; omega)
          · try simp (disch := first | assumption | omega | (simp only [Int.ofNat_eq_natCast, neg_one]; done) | (simp only [Int.ofNat_eq_natCast, neg_one]; omega)) only [tysW, wB, mB, Nat.reduceAdd, Nat.reduceMul, List.length_cons, List.length_nil]
            unfold X87_1; try simp (disch := first | assumption | omega | (simp only [Int.ofNat_eq_natCast, neg_one]; done) | (simp only [Int.ofNat_eq_natCast, neg_one]; omega)) only [tysW, wB, mB, Nat.reduceAdd, Nat.reduceMul, List.length_cons, List.length_nil, w_gu]
            refine PureS.goL g2 hp (s99 (d := d) g2.fresh a) fun v h3 s3 ts ws g3 c3 hv hw ht => ?_
            obtain ⟨b, rfl, hb⟩ := hv
            cases b with
            | true =>
              try simp (disch := first | assumption | omega | (simp only [Int.ofNat_eq_natCast, neg_one]; done) | (simp only [Int.ofNat_eq_natCast, neg_one]; omega)) only [tysW, wB, mB, Nat.reduceAdd, Nat.reduceMul, List.length_cons, List.length_nil]
              exact hk _ _ _ g3 (.no fun e => by rcases e.1 i a ha with h7 | h7; exact h0 h7; exact h7.2 (hb.1 rfl))
            | false =>
              try simp (disch := first | assumption | omega | (simp only [Int.ofNat_eq_natCast, neg_one]; done) | (simp only [Int.ofNat_eq_natCast, neg_one]; omega)) only [tysW, wB, mB, Nat.reduceAdd, Nat.reduceMul, List.length_cons, List.length_nil]
              have l2 := c2.le
              exact ih (i + 1) u h3 s3 (by omega) (by omega) g3 (c2.trans c3) (next (.inr ⟨by omega, fun e => by have := hb.2 e; cases this⟩))
      · obtain rfl : i = m.nA := by omega
        try simp (disch := first | assumption | omega | (simp only [Int.ofNat_eq_natCast, neg_one]; done) | (simp only [Int.ofNat_eq_natCast, neg_one]; omega)) only [tysW, wB, mB, Nat.reduceAdd, Nat.reduceMul, List.length_cons, List.length_nil]
        exact hJ h2 s2 g2 (c2.keep s (by omega)) fun j a ha => he j a (by have := (List.getElem?_eq_some_iff.1 ha).1; rw [x.a.row.1] at this; exact this) ha
  refine loop _ (fun h2 s2 g2 e2 hA => ?_) _ (fun _ _ _ _ => rfl) N 0 _ h1 (s + 1) (by omega) (by omega) g1 (.refl g1.fresh) fun j a hj => by omega
  have b2 := e2.trans b1
  try simp (disch := first | assumption | omega | (simp only [Int.ofNat_eq_natCast, neg_one]; done) | (simp only [Int.ofNat_eq_natCast, neg_one]; omega)) only [tysW, wB, mB, Nat.reduceAdd, Nat.reduceMul, List.length_cons, List.length_nil, ldB b2, clB b2, ldBL b2, clBL b2, w_mulN]
  by_cases hl : (m.nA : Int) = m.n * m.n
  · try simp (disch := first | assumption | omega | (simp only [Int.ofNat_eq_natCast, neg_one]; done) | (simp only [Int.ofNat_eq_natCast, neg_one]; omega)) only [tysW, wB, mB, Nat.reduceAdd, Nat.reduceMul, List.length_cons, List.length_nil]
    exact hk _ _ _ g2 (.yes ⟨hA, hl⟩)
  · try simp (disch := first | assumption | omega | (simp only [Int.ofNat_eq_natCast, neg_one]; done) | (simp only [Int.ofNat_eq_natCast, neg_one]; omega)) only [tysW, wB, mB, Nat.reduceAdd, Nat.reduceMul, List.length_cons, List.length_nil]
    exact hk _ _ _ g2 (.no fun e => hl e.2)
section
variable {m : MO} {b : Nat} (hb : h.get b = some (.cells ⟨mov m⟩ 80 (0, 0)))
include hb
omit hN in
theorem s84 : PureS (D N (d + 2)) 84 [ptr b] h s (fun v _ _ => Tells (1 ≤ m.n ∧ m.n ≤ 6) v) := by
  refine PureS.of hf fun K pw Z g hp hk => ?_
  rw [D_84]; unfold F84; rw [app1_eq]
  simp only [mov] at hb
  try simp (disch := first | assumption | omega | (simp only [Int.ofNat_eq_natCast, neg_one]; done) | (simp only [Int.ofNat_eq_natCast, neg_one]; omega)) only [tysW, wB, mB, Nat.reduceAdd, Nat.reduceMul, List.length_cons, List.length_nil, ldB hb, clB hb, ldBL hb, clBL hb]
  refine PureS.go g hp (s85 (d := d) g.fresh m.n 1 6) fun v h1 s1 g1 c1 hv => ?_
  exact hk _ _ _ g1 hv
theorem s86 (x : MoAt h m) (sm : MoSm m) (hn : 1 ≤ m.n ∧ m.n ≤ 6) : PureS (D N (d + 3)) 86 [ptr b] h s (fun v _ _ => Tells (aOK m) v) := by
  refine PureS.of hf fun K pw Z g hp hk => ?_
  rw [D_86]; unfold F86; rw [app1_eq]
  have hb' := hb
  simp only [mov] at hb
  try simp (disch := first | assumption | omega | (simp only [Int.ofNat_eq_natCast, neg_one]; done) | (simp only [Int.ofNat_eq_natCast, neg_one]; omega)) only [tysW, wB, mB, Nat.reduceAdd, Nat.reduceMul, List.length_cons, List.length_nil, ldB hb, clB hb, ldBL hb, clBL hb]
  refine PureS.go g hp (s87 (d := d) hN g.fresh x sm hn) fun v h1 s1 g1 c1 hv => ?_
  exact hk _ _ _ g1 hv
theorem s88 (x : MoAt h m) (sm : MoSm m) : PureS (D N (d + 5)) 88 [ptr b] h s (fun v _ _ => Tells (qOK m) v) := by
  refine PureS.of hf fun K pw Z g hp hk => ?_
  rw [D_88]; unfold F88; rw [app1_eq]
  simp only [mov] at hb
  have sq := sm.q
  by_cases hl : (m.nQ : Int) = m.n
  · try simp (disch := first | assumption | omega | (simp only [Int.ofNat_eq_natCast, neg_one]; done) | (simp only [Int.ofNat_eq_natCast, neg_one]; omega)) only [tysW, wB, mB, Nat.reduceAdd, Nat.reduceMul, List.length_cons, List.length_nil, ldB hb, clB hb, ldBL hb, clBL hb]
    refine PureS.go g hp (s74 (d := d + 2) hN g.fresh x.q.row (by omega) (gf := 89) (Q := fun a => ¬ (0 ≤ a ∧ a ≤ 68719476736)) (fun x k s => iv_89 _ [] [] [x] k s) (fun a h s hf => s89 hf a)) fun v h1 s1 g1 c1 hv => ?_
    obtain ⟨b, rfl, hq⟩ := hv
    cases b with
    | true =>
      try simp (disch := first | assumption | omega | (simp only [Int.ofNat_eq_natCast, neg_one]; done) | (simp only [Int.ofNat_eq_natCast, neg_one]; omega)) only [tysW, wB, mB, Nat.reduceAdd, Nat.reduceMul, List.length_cons, List.length_nil]
      obtain ⟨a, ha, hna⟩ := hq.1 rfl
      exact hk _ _ _ g1 (.no fun e => hna (e.2 a ha))
    | false =>
      try simp (disch := first | assumption | omega | (simp only [Int.ofNat_eq_natCast, neg_one]; done) | (simp only [Int.ofNat_eq_natCast, neg_one]; omega)) only [tysW, wB, mB, Nat.reduceAdd, Nat.reduceMul, List.length_cons, List.length_nil]
      refine hk _ _ _ g1 (.yes ⟨hl, fun a ha => Decidable.byContradiction fun hna => ?_⟩)
      have := hq.2 ⟨a, ha, hna⟩; cases this
  · try simp (disch := first | assumption | omega | (simp only [Int.ofNat_eq_natCast, neg_one]; done) | (simp only [Int.ofNat_eq_natCast, neg_one]; omega)) only [tysW, wB, mB, Nat.reduceAdd, Nat.reduceMul, List.length_cons, List.length_nil, ldB hb, clB hb, ldBL hb, clBL hb]
    exact hk _ _ _ g (.no fun e => hl e.1)
omit hN in
theorem s90 : PureS (D N (d + 2)) 90 [ptr b] h s (fun v _ _ => Tells ((1 ≤ m.tick ∧ m.tick ≤ 4294967296) ∧ 1 ≤ m.gate ∧ 1 ≤ m.rmin) v) := by
  refine PureS.of hf fun K pw Z g hp hk => ?_
  rw [D_90]; unfold F90; rw [app1_eq]
  simp only [mov] at hb
  try simp (disch := first | assumption | omega | (simp only [Int.ofNat_eq_natCast, neg_one]; done) | (simp only [Int.ofNat_eq_natCast, neg_one]; omega)) only [tysW, wB, mB, Nat.reduceAdd, Nat.reduceMul, List.length_cons, List.length_nil, ldB hb, clB hb, ldBL hb, clBL hb]
  refine PureS.go g hp (s85 (d := d) g.fresh m.tick 1 4294967296) fun v h1 s1 g1 c1 hv => ?_
  obtain ⟨c, rfl, hc⟩ := hv
  have hb1 := c1.box hb (lt_of_some hf ⟨_, hb⟩)
  cases c with
  | false => try simp (disch := first | assumption | omega | (simp only [Int.ofNat_eq_natCast, neg_one]; done) | (simp only [Int.ofNat_eq_natCast, neg_one]; omega)) only [tysW, wB, mB, Nat.reduceAdd, Nat.reduceMul, List.length_cons, List.length_nil]; exact hk _ _ _ g1 (.no fun e => by have := hc.2 e.1; cases this)
  | true =>
    by_cases h2 : 1 ≤ m.gate
    · by_cases h3 : 1 ≤ m.rmin
      · try simp (disch := first | assumption | omega | (simp only [Int.ofNat_eq_natCast, neg_one]; done) | (simp only [Int.ofNat_eq_natCast, neg_one]; omega)) only [tysW, wB, mB, Nat.reduceAdd, Nat.reduceMul, List.length_cons, List.length_nil, ldB hb1, clB hb1, ldBL hb1, clBL hb1]
        exact hk _ _ _ g1 (.yes ⟨hc.1 rfl, h2, h3⟩)
      · try simp (disch := first | assumption | omega | (simp only [Int.ofNat_eq_natCast, neg_one]; done) | (simp only [Int.ofNat_eq_natCast, neg_one]; omega)) only [tysW, wB, mB, Nat.reduceAdd, Nat.reduceMul, List.length_cons, List.length_nil, ldB hb1, clB hb1, ldBL hb1, clBL hb1]
        exact hk _ _ _ g1 (.no fun e => h3 e.2.2)
    · try simp (disch := first | assumption | omega | (simp only [Int.ofNat_eq_natCast, neg_one]; done) | (simp only [Int.ofNat_eq_natCast, neg_one]; omega)) only [tysW, wB, mB, Nat.reduceAdd, Nat.reduceMul, List.length_cons, List.length_nil, ldB hb1, clB hb1, ldBL hb1, clBL hb1]
      exact hk _ _ _ g1 (.no fun e => h2 e.2.1)
end
end
end Go.Ev.R
namespace Go.Ev.R
open Go Go.RowKit
/-- A number that tells an error, or none. -/
def Errs (p : Prop) (c : Int) (v : Value) : Prop := ∃ e, v = vi e ∧ (e = 0 ∧ p ∨ e = c ∧ ¬ p)
section
variable {N d : Nat} (hN : 100000 ≤ N) {h : T} {s : Nat} (hf : ∀ n, s ≤ n → h.get n = none)
include hN hf
set_option maxHeartbeats 1000000 in
theorem s92 {m : MO} (x : MoAt h m) (sm : MoSm m) : PureS (D N (d + 4)) 92 [.agg ⟨mov m⟩] h s (fun v _ _ => Tells (rowOK m.n m.rmin 1 m.R ∧ m.nR ≤ 24) v) := by
  refine PureS.of hf fun K pw Z g hp hk => ?_
  rw [D_92]; unfold F92; rw [app1_eq]
  refine wp_boxA g hp fun h1 g1 c1 b1 => ?_
  have sr := sm.r
  simp only [mov] at b1
  try simp (disch := first | assumption | omega | (simp only [Int.ofNat_eq_natCast, neg_one]; done) | (simp only [Int.ofNat_eq_natCast, neg_one]; omega)) only [tysW, wB, mB, Nat.reduceAdd, Nat.reduceMul, List.length_cons, List.length_nil, ldB b1, clB b1, ldBL b1, clBL b1]
  have loop : ∀ (J : Nat → AM) (hJ : ∀ h2 s2, From s h h2 s2 → h2.get s = h1.get s → rowOK m.n m.rmin 1 m.R → (J s2).wp pw Z h2) (B : (Value → Value → Value → Nat → AM) → Value → Value → Value → Nat → AM) (hB : ∀ H u l i s', B H u l i s' = X92_2 N (D N (d + 3)) K (vi m.nR) (.slice m.pR m.nR m.cR) (ptr s) J H u l i s') (q i : Nat) (u : Value) (last : Int) (h2 : T) (s2 : Nat), m.nR - i < q → i ≤ m.nR → From s h h2 s2 → From (s + 1) h1 h2 s2 → (rowOK m.n m.rmin 1 m.R ↔ rowOK m.n m.rmin last (m.R.drop i)) →
      (loopJ q 3 (fun _ _ _ _ => AM.fail) B u (vi last) (vi i) s2).wp pw Z h2 := by
    intro J hJ B hB q
    induction q with
    | zero => intro i u last h2 s2 hm; omega
    | succ q ih =>
      intro i u last h2 s2 hm hil g2 c2 he
      have b2 := c2.box b1 (by omega)
      have x2 := x.from hf g2
      have l2 := c2.le
      rw [loopJ_succ, hB]
      unfold X92_2
      by_cases hlt : i < m.nR
      · obtain ⟨y, hy⟩ := get_some (l := m.R) (i := i) (by rw [x2.r.1]; omega)
        rw [drop_at hy] at he
        simp only [rowOK] at he
        have ym := List.mem_of_getElem? hy
        try simp (disch := first | assumption | omega | (simp only [Int.ofNat_eq_natCast, neg_one]; done) | (simp only [Int.ofNat_eq_natCast, neg_one]; omega)) only [tysW, wB, mB, Nat.reduceAdd, Nat.reduceMul, List.length_cons, List.length_nil, xaR x2.r (j := (i : Int)) (by omega) (by omega), rwA x2.r hy]
        simp only [rwv]
        try simp (disch := first | assumption | omega | (simp only [Int.ofNat_eq_natCast, neg_one]; done) | (simp only [Int.ofNat_eq_natCast, neg_one]; omega)) only [tysW, wB, mB, Nat.reduceAdd, Nat.reduceMul, List.length_cons, List.length_nil]
        refine wp_boxA g2 hp fun h3 g3 c3 b3 => ?_
        try simp (disch := first | assumption | omega | (simp only [Int.ofNat_eq_natCast, neg_one]; done) | (simp only [Int.ofNat_eq_natCast, neg_one]; omega)) only [tysW, wB, mB, Nat.reduceAdd, Nat.reduceMul, List.length_cons, List.length_nil]
        refine wp_putF g3 hp b3 (by omega) (by simp) rfl fun h4 g4 b4 e4 => ?_
        simp only [overL] at b4
        have c4 : From s2 h2 h4 (s2 + 1) := ⟨by omega, fun n hn => by rw [e4 n (by omega), c3.keep n hn], g4.fresh⟩
        try simp (disch := first | assumption | omega | (simp only [Int.ofNat_eq_natCast, neg_one]; done) | (simp only [Int.ofNat_eq_natCast, neg_one]; omega)) only [tysW, wB, mB, Nat.reduceAdd, Nat.reduceMul, List.length_cons, List.length_nil, ldB b4, clB b4, ldBL b4, clBL b4]
        refine PureS.go g4 hp (s85 (d := d + 2) g4.fresh y.s last 16) fun v h5 s5 g5 c5 hv => ?_
        obtain ⟨bb, rfl, hb⟩ := hv
        have b5 := c5.box b4 (by omega)
        have b25 := c5.box (c4.box b2 (by omega)) (by omega)
        have l5 := c5.le
        cases bb with
        | false =>
          try simp (disch := first | assumption | omega | (simp only [Int.ofNat_eq_natCast, neg_one]; done) | (simp only [Int.ofNat_eq_natCast, neg_one]; omega)) only [tysW, wB, mB, Nat.reduceAdd, Nat.reduceMul, List.length_cons, List.length_nil]
          unfold X92_1; try simp (disch := first | assumption | omega | (simp only [Int.ofNat_eq_natCast, neg_one]; done) | (simp only [Int.ofNat_eq_natCast, neg_one]; omega)) only [tysW, wB, mB, Nat.reduceAdd, Nat.reduceMul, List.length_cons, List.length_nil]
          exact hk _ _ _ g5 (.no fun e => by have := hb.2 (he.1 e.1).1; cases this)
        | true =>
          have hb := hb.1 rfl
          by_cases hnn : (y.n : Int) = m.n
          · try simp (disch := first | assumption | omega | (simp only [Int.ofNat_eq_natCast, neg_one]; done) | (simp only [Int.ofNat_eq_natCast, neg_one]; omega)) only [tysW, wB, mB, Nat.reduceAdd, Nat.reduceMul, List.length_cons, List.length_nil, ldB b5, clB b5, ldBL b5, clBL b5, ldB b25, clB b25, ldBL b25, clBL b25]
            refine PureS.go g5 hp (s74 (d := d + 1) hN g5.fresh ((x.hs y ym).from hf g5).row (by have := sm.hs y ym; omega) (gf := 99) (Q := farP) (fun x k s => iv_99 _ [] [] [x] k s) (fun a h s hf => s99 hf a)) fun v h6 s6 g6 c6 hv => ?_
            obtain ⟨bc, rfl, hc⟩ := hv
            have b6 := c6.box b5 (by omega)
            have b26 := c6.box b25 (by omega)
            have l6 := c6.le
            cases bc with
            | true =>
              try simp (disch := first | assumption | omega | (simp only [Int.ofNat_eq_natCast, neg_one]; done) | (simp only [Int.ofNat_eq_natCast, neg_one]; omega)) only [tysW, wB, mB, Nat.reduceAdd, Nat.reduceMul, List.length_cons, List.length_nil]
              unfold X92_1; try simp (disch := first | assumption | omega | (simp only [Int.ofNat_eq_natCast, neg_one]; done) | (simp only [Int.ofNat_eq_natCast, neg_one]; omega)) only [tysW, wB, mB, Nat.reduceAdd, Nat.reduceMul, List.length_cons, List.length_nil]
              obtain ⟨a, ha, hfa⟩ := hc.1 rfl
              exact hk _ _ _ g6 (.no fun e => (he.1 e.1).2.2.1 a ha hfa)
            | false =>
              have hc : ∀ z ∈ y.H, ¬ farP z := fun z hz e => by have := hc.2 ⟨z, hz, e⟩; cases this
              by_cases hr : m.rmin ≤ y.r
              · try simp (disch := first | assumption | omega | (simp only [Int.ofNat_eq_natCast, neg_one]; done) | (simp only [Int.ofNat_eq_natCast, neg_one]; omega)) only [tysW, wB, mB, Nat.reduceAdd, Nat.reduceMul, List.length_cons, List.length_nil, ldB b6, clB b6, ldBL b6, clBL b6, ldB b26, clB b26, ldBL b26, clBL b26]
                unfold X92_1
                try simp (disch := first | assumption | omega | (simp only [Int.ofNat_eq_natCast, neg_one]; done) | (simp only [Int.ofNat_eq_natCast, neg_one]; omega)) only [tysW, wB, mB, Nat.reduceAdd, Nat.reduceMul, List.length_cons, List.length_nil, ldB b6, clB b6, ldBL b6, clBL b6, ldB b26, clB b26, ldBL b26, clBL b26]
                exact ih (i + 1) u y.s h6 s6 (by omega) (by omega) g6 ((c2.trans c4).trans (c5.trans c6)) ⟨fun e => (he.1 e).2.2.2.2, fun e => he.2 ⟨hb, hnn, hc, hr, e⟩⟩
              · try simp (disch := first | assumption | omega | (simp only [Int.ofNat_eq_natCast, neg_one]; done) | (simp only [Int.ofNat_eq_natCast, neg_one]; omega)) only [tysW, wB, mB, Nat.reduceAdd, Nat.reduceMul, List.length_cons, List.length_nil, ldB b6, clB b6, ldBL b6, clBL b6, ldB b26, clB b26, ldBL b26, clBL b26]
                unfold X92_1
                try simp (disch := first | assumption | omega | (simp only [Int.ofNat_eq_natCast, neg_one]; done) | (simp only [Int.ofNat_eq_natCast, neg_one]; omega)) only [tysW, wB, mB, Nat.reduceAdd, Nat.reduceMul, List.length_cons, List.length_nil, ldB b6, clB b6, ldBL b6, clBL b6, ldB b26, clB b26, ldBL b26, clBL b26]
                exact hk _ _ _ g6 (.no fun e => hr (he.1 e.1).2.2.2.1)
          · try simp (disch := first | assumption | omega | (simp only [Int.ofNat_eq_natCast, neg_one]; done) | (simp only [Int.ofNat_eq_natCast, neg_one]; omega)) only [tysW, wB, mB, Nat.reduceAdd, Nat.reduceMul, List.length_cons, List.length_nil, ldB b5, clB b5, ldBL b5, clBL b5, ldB b25, clB b25, ldBL b25, clBL b25]
            unfold X92_1
            try simp (disch := first | assumption | omega | (simp only [Int.ofNat_eq_natCast, neg_one]; done) | (simp only [Int.ofNat_eq_natCast, neg_one]; omega)) only [tysW, wB, mB, Nat.reduceAdd, Nat.reduceMul, List.length_cons, List.length_nil]
            exact hk _ _ _ g5 (.no fun e => hnn (he.1 e.1).2.1)
      · obtain rfl : i = m.nR := by omega
        try simp (disch := first | assumption | omega | (simp only [Int.ofNat_eq_natCast, neg_one]; done) | (simp only [Int.ofNat_eq_natCast, neg_one]; omega)) only [tysW, wB, mB, Nat.reduceAdd, Nat.reduceMul, List.length_cons, List.length_nil]
        refine hJ h2 s2 g2 (c2.keep s (by omega)) (he.2 ?_)
        rw [List.drop_of_length_le (by rw [x2.r.1]; exact Nat.le_refl _)]
        trivial
  refine loop _ (fun h2 s2 g2 e2 hA => ?_) _ (fun _ _ _ _ _ => rfl) N 0 _ 1 h1 (s + 1) (by omega) (by omega) g1 (.refl g1.fresh) (by rw [List.drop_zero])
  have b2 := e2.trans b1
  try simp (disch := first | assumption | omega | (simp only [Int.ofNat_eq_natCast, neg_one]; done) | (simp only [Int.ofNat_eq_natCast, neg_one]; omega)) only [tysW, wB, mB, Nat.reduceAdd, Nat.reduceMul, List.length_cons, List.length_nil, ldB b2, clB b2, ldBL b2, clBL b2]
  by_cases hl : m.nR ≤ 24
  · try simp (disch := first | assumption | omega | (simp only [Int.ofNat_eq_natCast, neg_one]; done) | (simp only [Int.ofNat_eq_natCast, neg_one]; omega)) only [tysW, wB, mB, Nat.reduceAdd, Nat.reduceMul, List.length_cons, List.length_nil]
    exact hk _ _ _ g2 (.yes ⟨hA, hl⟩)
  · try simp (disch := first | assumption | omega | (simp only [Int.ofNat_eq_natCast, neg_one]; done) | (simp only [Int.ofNat_eq_natCast, neg_one]; omega)) only [tysW, wB, mB, Nat.reduceAdd, Nat.reduceMul, List.length_cons, List.length_nil]
    exact hk _ _ _ g2 (.no fun e => hl e.2)
theorem s91 {m : MO} {b : Nat} (hb : h.get b = some (.cells ⟨mov m⟩ 80 (0, 0))) (x : MoAt h m) (sm : MoSm m) : PureS (D N (d + 5)) 91 [ptr b] h s (fun v _ _ => Tells (rowOK m.n m.rmin 1 m.R ∧ m.nR ≤ 24) v) := by
  refine PureS.of hf fun K pw Z g hp hk => ?_
  rw [D_91]; unfold F91; rw [app1_eq]
  simp only [mov] at hb
  try simp (disch := first | assumption | omega | (simp only [Int.ofNat_eq_natCast, neg_one]; done) | (simp only [Int.ofNat_eq_natCast, neg_one]; omega)) only [tysW, wB, mB, Nat.reduceAdd, Nat.reduceMul, List.length_cons, List.length_nil, ldB hb, clB hb, ldBL hb, clBL hb]
  refine PureS.go g hp (s92 (d := d) hN g.fresh x sm) fun v h1 s1 g1 c1 hv => ?_
  exact hk _ _ _ g1 hv
set_option maxHeartbeats 1000000 in
theorem s73 {m : MO} (x : MoAt h m) (sm : MoSm m) : PureS (D N (d + 6)) 73 [.agg ⟨mov m⟩] h s (fun v _ _ => Errs (modOK m) 2 v) := by
  refine PureS.of hf fun K pw Z g hp hk => ?_
  rw [D_73]; unfold F73; rw [app1_eq]
  refine wp_boxA g hp fun h1 g1 c1 b1 => ?_
  have b1' := b1
  simp only [mov] at b1
  try simp (disch := first | assumption | omega | (simp only [Int.ofNat_eq_natCast, neg_one]; done) | (simp only [Int.ofNat_eq_natCast, neg_one]; omega)) only [tysW, wB, mB, Nat.reduceAdd, Nat.reduceMul, List.length_cons, List.length_nil, ldB b1, clB b1, ldBL b1, clBL b1]
  refine wp_newF g1 hp fun h2 g2 c2 b2 => ?_
  replace b1 := c2.box b1' (by omega)
  obtain ⟨q, rfl⟩ : ∃ q, N = q + 6 := ⟨N - 6, by omega⟩
  try simp (disch := first | assumption | omega | (simp only [Int.ofNat_eq_natCast, neg_one]; done) | (simp only [Int.ofNat_eq_natCast, neg_one]; omega)) only [tysW, wB, mB, Nat.reduceAdd, Nat.reduceMul, List.length_cons, List.length_nil]
  rw [loopJ_succ]; unfold X73_1
  try simp (disch := first | assumption | omega | (simp only [Int.ofNat_eq_natCast, neg_one]; done) | (simp only [Int.ofNat_eq_natCast, neg_one]; omega)) only [tysW, wB, mB, Nat.reduceAdd, Nat.reduceMul, List.length_cons, List.length_nil, ldB b2, clB b2, ldBL b2, clBL b2, iv_84]
  refine PureS.go g2 hp (s84 (d := d + 3) g2.fresh b1) fun v h3 s3 g3 c3 hv => ?_
  obtain ⟨t, rfl, h84⟩ := hv
  have b3 := c3.box b2 (by omega)
  have b13 := c3.box b1 (by omega)
  have l3 := c3.le
  cases t with
  | false => try simp (disch := first | assumption | omega | (simp only [Int.ofNat_eq_natCast, neg_one]; done) | (simp only [Int.ofNat_eq_natCast, neg_one]; omega)) only [tysW, wB, mB, Nat.reduceAdd, Nat.reduceMul, List.length_cons, List.length_nil]; exact hk _ _ _ g3 ⟨2, rfl, .inr ⟨rfl, fun e => by have := h84.2 e.1; cases this⟩⟩
  | true =>
  have h84 := h84.1 rfl
  try simp (disch := first | assumption | omega | (simp only [Int.ofNat_eq_natCast, neg_one]; done) | (simp only [Int.ofNat_eq_natCast, neg_one]; omega)) only [tysW, wB, mB, Nat.reduceAdd, Nat.reduceMul, List.length_cons, List.length_nil]
  rw [loopJ_succ]
  try simp (disch := first | assumption | omega | (simp only [Int.ofNat_eq_natCast, neg_one]; done) | (simp only [Int.ofNat_eq_natCast, neg_one]; omega)) only [tysW, wB, mB, Nat.reduceAdd, Nat.reduceMul, List.length_cons, List.length_nil, ldB b3, clB b3, ldBL b3, clBL b3, iv_86]
  refine PureS.go g3 hp (s86 (d := d + 2) hN g3.fresh b13 (x.from hf g3) sm h84) fun v h4 s4 g4 c4 hv => ?_
  obtain ⟨t, rfl, h86⟩ := hv
  have b4 := c4.box b3 (by omega)
  have b14 := c4.box b13 (by omega)
  have l4 := c4.le
  cases t with
  | false => try simp (disch := first | assumption | omega | (simp only [Int.ofNat_eq_natCast, neg_one]; done) | (simp only [Int.ofNat_eq_natCast, neg_one]; omega)) only [tysW, wB, mB, Nat.reduceAdd, Nat.reduceMul, List.length_cons, List.length_nil]; exact hk _ _ _ g4 ⟨2, rfl, .inr ⟨rfl, fun e => by have := h86.2 e.2.1; cases this⟩⟩
  | true =>
  have h86 := h86.1 rfl
  try simp (disch := first | assumption | omega | (simp only [Int.ofNat_eq_natCast, neg_one]; done) | (simp only [Int.ofNat_eq_natCast, neg_one]; omega)) only [tysW, wB, mB, Nat.reduceAdd, Nat.reduceMul, List.length_cons, List.length_nil]
  rw [loopJ_succ]
  try simp (disch := first | assumption | omega | (simp only [Int.ofNat_eq_natCast, neg_one]; done) | (simp only [Int.ofNat_eq_natCast, neg_one]; omega)) only [tysW, wB, mB, Nat.reduceAdd, Nat.reduceMul, List.length_cons, List.length_nil, ldB b4, clB b4, ldBL b4, clBL b4, iv_88]
  refine PureS.go g4 hp (s88 (d := d) hN g4.fresh b14 (x.from hf g4) sm) fun v h5 s5 g5 c5 hv => ?_
  obtain ⟨t, rfl, h88⟩ := hv
  have b5 := c5.box b4 (by omega)
  have b15 := c5.box b14 (by omega)
  have l5 := c5.le
  cases t with
  | false => try simp (disch := first | assumption | omega | (simp only [Int.ofNat_eq_natCast, neg_one]; done) | (simp only [Int.ofNat_eq_natCast, neg_one]; omega)) only [tysW, wB, mB, Nat.reduceAdd, Nat.reduceMul, List.length_cons, List.length_nil]; exact hk _ _ _ g5 ⟨2, rfl, .inr ⟨rfl, fun e => by have := h88.2 e.2.2.1; cases this⟩⟩
  | true =>
  have h88 := h88.1 rfl
  try simp (disch := first | assumption | omega | (simp only [Int.ofNat_eq_natCast, neg_one]; done) | (simp only [Int.ofNat_eq_natCast, neg_one]; omega)) only [tysW, wB, mB, Nat.reduceAdd, Nat.reduceMul, List.length_cons, List.length_nil]
  rw [loopJ_succ]
  try simp (disch := first | assumption | omega | (simp only [Int.ofNat_eq_natCast, neg_one]; done) | (simp only [Int.ofNat_eq_natCast, neg_one]; omega)) only [tysW, wB, mB, Nat.reduceAdd, Nat.reduceMul, List.length_cons, List.length_nil, ldB b5, clB b5, ldBL b5, clBL b5, iv_90]
  refine PureS.go g5 hp (s90 (d := d + 3) g5.fresh b15) fun v h6 s6 g6 c6 hv => ?_
  obtain ⟨t, rfl, h90⟩ := hv
  have b6 := c6.box b5 (by omega)
  have b16 := c6.box b15 (by omega)
  have l6 := c6.le
  cases t with
  | false => try simp (disch := first | assumption | omega | (simp only [Int.ofNat_eq_natCast, neg_one]; done) | (simp only [Int.ofNat_eq_natCast, neg_one]; omega)) only [tysW, wB, mB, Nat.reduceAdd, Nat.reduceMul, List.length_cons, List.length_nil]; exact hk _ _ _ g6 ⟨2, rfl, .inr ⟨rfl, fun e => by have := h90.2 e.2.2.2.1; cases this⟩⟩
  | true =>
  have h90 := h90.1 rfl
  try simp (disch := first | assumption | omega | (simp only [Int.ofNat_eq_natCast, neg_one]; done) | (simp only [Int.ofNat_eq_natCast, neg_one]; omega)) only [tysW, wB, mB, Nat.reduceAdd, Nat.reduceMul, List.length_cons, List.length_nil]
  rw [loopJ_succ]
  try simp (disch := first | assumption | omega | (simp only [Int.ofNat_eq_natCast, neg_one]; done) | (simp only [Int.ofNat_eq_natCast, neg_one]; omega)) only [tysW, wB, mB, Nat.reduceAdd, Nat.reduceMul, List.length_cons, List.length_nil, ldB b6, clB b6, ldBL b6, clBL b6, iv_91]
  refine PureS.go g6 hp (s91 (d := d) hN g6.fresh b16 (x.from hf g6) sm) fun v h7 s7 g7 c7 hv => ?_
  obtain ⟨t, rfl, h91⟩ := hv
  have b7 := c7.box b6 (by omega)
  have b17 := c7.box b16 (by omega)
  have l7 := c7.le
  cases t with
  | false => try simp (disch := first | assumption | omega | (simp only [Int.ofNat_eq_natCast, neg_one]; done) | (simp only [Int.ofNat_eq_natCast, neg_one]; omega)) only [tysW, wB, mB, Nat.reduceAdd, Nat.reduceMul, List.length_cons, List.length_nil]; exact hk _ _ _ g7 ⟨2, rfl, .inr ⟨rfl, fun e => by have := h91.2 e.2.2.2.2; cases this⟩⟩
  | true =>
  have h91 := h91.1 rfl
  try simp (disch := first | assumption | omega | (simp only [Int.ofNat_eq_natCast, neg_one]; done) | (simp only [Int.ofNat_eq_natCast, neg_one]; omega)) only [tysW, wB, mB, Nat.reduceAdd, Nat.reduceMul, List.length_cons, List.length_nil]
  rw [loopJ_succ]
  try simp (disch := first | assumption | omega | (simp only [Int.ofNat_eq_natCast, neg_one]; done) | (simp only [Int.ofNat_eq_natCast, neg_one]; omega)) only [tysW, wB, mB, Nat.reduceAdd, Nat.reduceMul, List.length_cons, List.length_nil]
  exact hk _ _ _ g7 ⟨0, rfl, .inl ⟨rfl, h84, h86, h88, h90, h91⟩⟩
end
end Go.Ev.R
namespace Go.Ev.R
open Go Go.RowKit
/-- A line of A, a number of Q. -/
def lineOK (m : MO) (nn i : Nat) : Prop := (∀ q, m.Q[i]? = some q → 0 ≤ q ∧ q ≤ 68719476736) ∧ ∀ (k : Nat) (a : Int), k < nn → m.A[i * nn + k]? = some a → ¬ farP a ∧ (k ≤ i → a = 0)
theorem far0 : ¬ farP 0 := by unfold farP; omega
theorem aq_iff {m : MO} {nn : Nat} (hnn : m.n = nn) (h1 : 1 ≤ nn) (hA : m.A.length = m.nA) (hQ : m.Q.length = m.nQ) (hl : (m.nA : Int) = m.n * m.n) (hq : (m.nQ : Int) = m.n) : (∀ i, i < nn → lineOK m nn i) ↔ aOK m ∧ qOK m := by
  have hqn : m.nQ = nn := by omega
  have han : m.nA = nn * nn := by rw [hnn] at hl; exact_mod_cast hl
  constructor
  · intro hh
    refine ⟨⟨fun i a ha => ?_, hl⟩, hq, fun q hqm => ?_⟩
    · have hi : i < nn * nn := by have := (List.getElem?_eq_some_iff.1 ha).1; omega
      have hd : i / nn < nn := Nat.div_lt_of_lt_mul hi
      have hm : i % nn < nn := Nat.mod_lt _ (by omega)
      have := (hh (i / nn) hd).2 (i % nn) a hm (by rw [Nat.mul_comm, Nat.div_add_mod]; exact ha)
      rw [hnn, ← Int.natCast_ediv, ← Int.natCast_emod]
      by_cases hle : i % nn ≤ i / nn
      · exact .inl (this.2 hle)
      · exact .inr ⟨by omega, this.1⟩
    · obtain ⟨j, hj⟩ := List.getElem?_of_mem hqm
      exact (hh j (by have := (List.getElem?_eq_some_iff.1 hj).1; omega)).1 q hj
  · rintro ⟨⟨ha, -⟩, -, hq2⟩ i hi
    refine ⟨fun q hqq => hq2 q (List.mem_of_getElem? hqq), fun k a hk hka => ?_⟩
    have h2 := ha _ a hka
    have hd : (i * nn + k) / nn = i := by rw [Nat.mul_comm, Nat.mul_add_div (by omega), Nat.div_eq_of_lt hk]; rfl
    have hm : (i * nn + k) % nn = k := by rw [Nat.mul_comm, Nat.mul_add_mod, Nat.mod_eq_of_lt hk]
    rw [hnn, ← Int.natCast_ediv, ← Int.natCast_emod, hd, hm] at h2
    rcases h2 with rfl | ⟨h3, h4⟩
    · exact ⟨far0, fun _ => rfl⟩
    · exact ⟨h4, fun h5 => by omega⟩
section
variable {N d : Nat} (hN : 100000 ≤ N) {h : T} {s : Nat} (hf : ∀ n, s ≤ n → h.get n = none)
include hN hf
set_option maxHeartbeats 1000000 in
theorem s94 {m : MO} (x : MoAt h m) (sm : MoSm m) (hn : 1 ≤ m.n ∧ m.n ≤ 6) : PureS (D N (d + 2)) 94 [.agg ⟨mov m⟩] h s (fun v _ _ => Tells (aOK m ∧ qOK m) v) := by
  refine PureS.of hf fun K pw Z g hp hk => ?_
  rw [D_94]; unfold F94; rw [app1_eq]
  unfold X94_4
  refine wp_boxA g hp fun h1 g1 c1 b1 => ?_
  simp only [mov] at b1
  obtain ⟨nn, hnn⟩ : ∃ nn : Nat, m.n = nn := ⟨m.n.toNat, by omega⟩
  have hn' := hn
  rw [hnn] at b1 hn'
  try simp (disch := first | assumption | omega | (simp only [Int.ofNat_eq_natCast, neg_one]; done) | (simp only [Int.ofNat_eq_natCast, neg_one]; omega)) only [tysW, wB, mB, Nat.reduceAdd, Nat.reduceMul, List.length_cons, List.length_nil, ldB b1, clB b1, ldBL b1, clBL b1, w_mulN]
  by_cases hl : (m.nA : Int) = (nn : Int) * nn
  · by_cases hq : (m.nQ : Int) = nn
    · have han : m.nA = nn * nn := by exact_mod_cast hl
      have iff := aq_iff hnn (by omega) x.a.row.1 x.q.row.1 (by rw [hnn]; exact hl) (by rw [hnn]; exact hq)
      try simp (disch := first | assumption | omega | (simp only [Int.ofNat_eq_natCast, neg_one]; done) | (simp only [Int.ofNat_eq_natCast, neg_one]; omega)) only [tysW, wB, mB, Nat.reduceAdd, Nat.reduceMul, List.length_cons, List.length_nil, ldB b1, clB b1, ldBL b1, clBL b1]
      have loop : ∀ (J : Nat → AM) (hJ : ∀ h2 s2, From s h h2 s2 → (∀ i, i < nn → lineOK m nn i) → (J s2).wp pw Z h2) (B : (Value → Value → Nat → AM) → Value → Value → Nat → AM) (hB : ∀ H u i s', B H u i s' = X94_3 N (D N (d + 1)) K (ptr s) J H u i s') (q i : Nat) (u : Value) (h2 : T) (s2 : Nat), nn - i < q → i ≤ nn → From s h h2 s2 → From (s + 1) h1 h2 s2 → (∀ j, j < i → lineOK m nn j) →
          (loopJ q 2 (fun _ _ _ => AM.fail) B u (vi i) s2).wp pw Z h2 := by
        intro J hJ B hB q
        induction q with
        | zero => intro i u h2 s2 hm; omega
        | succ q ih =>
          intro i u h2 s2 hm hil g2 c2 he
          have b2 := c2.box b1 (by omega)
          have x2 := x.from hf g2
          have l2 := c2.le
          rw [loopJ_succ, hB]
          unfold X94_3
          by_cases hlt : i < nn
          · obtain ⟨y, hy⟩ := get_some (l := m.Q) (i := i) (by rw [x2.q.row.1]; omega)
            by_cases hy1 : y < 0
            · try simp (disch := first | assumption | omega | (simp only [Int.ofNat_eq_natCast, neg_one]; done) | (simp only [Int.ofNat_eq_natCast, neg_one]; omega)) only [tysW, wB, mB, Nat.reduceAdd, Nat.reduceMul, List.length_cons, List.length_nil, ldB b2, clB b2, ldBL b2, clBL b2, xaI x2.q.row (j := (i : Int)) (by omega) (by omega), intI x2.q.row hy]
              exact hk _ _ _ g2 (.no fun e => by have := ((iff.2 e) i hlt).1 y hy; omega)
            by_cases hy2 : 68719476736 < y
            · try simp (disch := first | assumption | omega | (simp only [Int.ofNat_eq_natCast, neg_one]; done) | (simp only [Int.ofNat_eq_natCast, neg_one]; omega)) only [tysW, wB, mB, Nat.reduceAdd, Nat.reduceMul, List.length_cons, List.length_nil, ldB b2, clB b2, ldBL b2, clBL b2, xaI x2.q.row (j := (i : Int)) (by omega) (by omega), intI x2.q.row hy]
              exact hk _ _ _ g2 (.no fun e => by have := ((iff.2 e) i hlt).1 y hy; omega)
            try simp (disch := first | assumption | omega | (simp only [Int.ofNat_eq_natCast, neg_one]; done) | (simp only [Int.ofNat_eq_natCast, neg_one]; omega)) only [tysW, wB, mB, Nat.reduceAdd, Nat.reduceMul, List.length_cons, List.length_nil, ldB b2, clB b2, ldBL b2, clBL b2, xaI x2.q.row (j := (i : Int)) (by omega) (by omega), intI x2.q.row hy]
            have him : i * nn + nn ≤ nn * nn := by rw [← Nat.succ_mul]; exact Nat.mul_le_mul hlt (Nat.le_refl _)
            have loop2 : ∀ (J : Value → Nat → AM) (hJ : ∀ u h3 s3, From s h h3 s3 → From (s + 1) h1 h3 s3 → (∀ (k : Nat) (a : Int), k < nn → m.A[i * nn + k]? = some a → ¬ farP a ∧ (k ≤ i → a = 0)) → (J u s3).wp pw Z h3) (B : (Value → Value → Nat → AM) → Value → Value → Nat → AM) (hB : ∀ H u k s', B H u k s' = X94_2 N (D N (d + 1)) K (ptr s) (vi i) J H u k s') (q2 k : Nat) (u : Value) (h3 : T) (s3 : Nat), nn - k < q2 → k ≤ nn → From s h h3 s3 → From (s + 1) h1 h3 s3 → (∀ (j : Nat) (a : Int), j < k → m.A[i * nn + j]? = some a → ¬ farP a ∧ (j ≤ i → a = 0)) →
                (loopJ q2 2 (fun _ _ _ => AM.fail) B u (vi k) s3).wp pw Z h3 := by
              intro J hJ B hB q2
              induction q2 with
              | zero => intro k u h3 s3 hm; omega
              | succ q2 ih2 =>
                intro k u h3 s3 hm2 hkl g3 c3 he3
                have b3 := c3.box b1 (by omega)
                have x3 := x.from hf g3
                have l3 := c3.le
                rw [loopJ_succ, hB]
                unfold X94_2
                by_cases hkt : k < nn
                · obtain ⟨a, ha⟩ := get_some (l := m.A) (i := i * nn + k) (by rw [x3.a.row.1]; omega)
                  have him2 : (i : Int) * (nn : Int) = ((i * nn : Nat) : Int) := by simp
                  have hsm : nn * nn ≤ 40 := by have := sm.a; omega
                  have e : (i : Int) * (nn : Int) + (k : Int) = ((i * nn + k : Nat) : Int) := by simp
                  try simp (disch := first | assumption | omega | (simp only [Int.ofNat_eq_natCast, neg_one]; done) | (simp only [Int.ofNat_eq_natCast, neg_one]; omega)) only [tysW, wB, mB, Nat.reduceAdd, Nat.reduceMul, List.length_cons, List.length_nil, ldB b3, clB b3, ldBL b3, clBL b3, w_mulN]
                  rw [e]
                  try simp (disch := first | assumption | omega | (simp only [Int.ofNat_eq_natCast, neg_one]; done) | (simp only [Int.ofNat_eq_natCast, neg_one]; omega)) only [tysW, wB, mB, Nat.reduceAdd, Nat.reduceMul, List.length_cons, List.length_nil, xaI x3.a.row (j := ((i * nn + k : Nat) : Int)) (by omega) (by omega), intI x3.a.row ha]
                  refine PureS.go g3 hp (s100 (d := d) g3.fresh a) fun v h4 s4 g4 c4 hv => ?_
                  obtain ⟨t, rfl, ht⟩ := hv
                  cases t with
                  | true =>
                    try simp (disch := first | assumption | omega | (simp only [Int.ofNat_eq_natCast, neg_one]; done) | (simp only [Int.ofNat_eq_natCast, neg_one]; omega)) only [tysW, wB, mB, Nat.reduceAdd, Nat.reduceMul, List.length_cons, List.length_nil]
                    unfold X94_1; try simp (disch := first | assumption | omega | (simp only [Int.ofNat_eq_natCast, neg_one]; done) | (simp only [Int.ofNat_eq_natCast, neg_one]; omega)) only [tysW, wB, mB, Nat.reduceAdd, Nat.reduceMul, List.length_cons, List.length_nil, w_gu]
                    exact hk _ _ _ g4 (.no fun ee => ((((iff.2 ee) i hlt).2 k a hkt ha).1) (ht.1 rfl))
                  | false =>
                    have ht : ¬ farP a := fun ee => by have := ht.2 ee; cases this
                    have nxt : (k ≤ i → a = 0) → ∀ (j : Nat) (b : Int), j < k + 1 → m.A[i * nn + j]? = some b → ¬ farP b ∧ (j ≤ i → b = 0) := fun h0 j b hj hb => by
                      rcases Nat.lt_or_ge j k with h6 | h6
                      · exact he3 j b h6 hb
                      · obtain rfl : j = k := by omega
                        rw [ha] at hb; cases hb; exact ⟨ht, h0⟩
                    by_cases hki : k ≤ i
                    · by_cases ha0 : a = 0
                      · try simp (disch := first | assumption | omega | (simp only [Int.ofNat_eq_natCast, neg_one]; done) | (simp only [Int.ofNat_eq_natCast, neg_one]; omega)) only [tysW, wB, mB, Nat.reduceAdd, Nat.reduceMul, List.length_cons, List.length_nil]
                        unfold X94_1; try simp (disch := first | assumption | omega | (simp only [Int.ofNat_eq_natCast, neg_one]; done) | (simp only [Int.ofNat_eq_natCast, neg_one]; omega)) only [tysW, wB, mB, Nat.reduceAdd, Nat.reduceMul, List.length_cons, List.length_nil]
                        exact ih2 (k + 1) u h4 s4 (by omega) (by omega) g4 (c3.trans c4) (nxt fun _ => ha0)
                      · try simp (disch := first | assumption | omega | (simp only [Int.ofNat_eq_natCast, neg_one]; done) | (simp only [Int.ofNat_eq_natCast, neg_one]; omega)) only [tysW, wB, mB, Nat.reduceAdd, Nat.reduceMul, List.length_cons, List.length_nil]
                        unfold X94_1; try simp (disch := first | assumption | omega | (simp only [Int.ofNat_eq_natCast, neg_one]; done) | (simp only [Int.ofNat_eq_natCast, neg_one]; omega)) only [tysW, wB, mB, Nat.reduceAdd, Nat.reduceMul, List.length_cons, List.length_nil]
                        exact hk _ _ _ g4 (.no fun ee => ha0 ((((iff.2 ee) i hlt).2 k a hkt ha).2 hki))
                    · try simp (disch := first | assumption | omega | (simp only [Int.ofNat_eq_natCast, neg_one]; done) | (simp only [Int.ofNat_eq_natCast, neg_one]; omega)) only [tysW, wB, mB, Nat.reduceAdd, Nat.reduceMul, List.length_cons, List.length_nil]
                      unfold X94_1; try simp (disch := first | assumption | omega | (simp only [Int.ofNat_eq_natCast, neg_one]; done) | (simp only [Int.ofNat_eq_natCast, neg_one]; omega)) only [tysW, wB, mB, Nat.reduceAdd, Nat.reduceMul, List.length_cons, List.length_nil]
                      exact ih2 (k + 1) u h4 s4 (by omega) (by omega) g4 (c3.trans c4) (nxt fun h7 => absurd h7 hki)
                · obtain rfl : k = nn := by omega
                  try simp (disch := first | assumption | omega | (simp only [Int.ofNat_eq_natCast, neg_one]; done) | (simp only [Int.ofNat_eq_natCast, neg_one]; omega)) only [tysW, wB, mB, Nat.reduceAdd, Nat.reduceMul, List.length_cons, List.length_nil, ldB b3, clB b3, ldBL b3, clBL b3]
                  exact hJ u h3 s3 g3 c3 fun j a hj ha => he3 j a hj ha
            refine loop2 _ (fun u h3 s3 g3 c3 hA => ?_) _ (fun _ _ _ _ => rfl) N 0 u h2 s2 (by omega) (by omega) g2 c2 fun j a hj => by omega
            try simp (disch := first | assumption | omega | (simp only [Int.ofNat_eq_natCast, neg_one]; done) | (simp only [Int.ofNat_eq_natCast, neg_one]; omega)) only [tysW, wB, mB, Nat.reduceAdd, Nat.reduceMul, List.length_cons, List.length_nil]
            refine ih (i + 1) _ h3 s3 (by omega) (by omega) g3 c3 fun j hj => ?_
            rcases Nat.lt_or_ge j i with h6 | h6
            · exact he j h6
            · obtain rfl : j = i := by omega
              exact ⟨fun z hz => by rw [hy] at hz; cases hz; omega, hA⟩
          · obtain rfl : i = nn := by omega
            try simp (disch := first | assumption | omega | (simp only [Int.ofNat_eq_natCast, neg_one]; done) | (simp only [Int.ofNat_eq_natCast, neg_one]; omega)) only [tysW, wB, mB, Nat.reduceAdd, Nat.reduceMul, List.length_cons, List.length_nil, ldB b2, clB b2, ldBL b2, clBL b2]
            exact hJ h2 s2 g2 he
      refine loop _ (fun h2 s2 g2 hA => ?_) _ (fun _ _ _ _ => rfl) N 0 _ h1 (s + 1) (by omega) (by omega) g1 (.refl g1.fresh) fun j hj => by omega
      exact hk _ _ _ g2 (.yes (iff.1 hA))
    · try simp (disch := first | assumption | omega | (simp only [Int.ofNat_eq_natCast, neg_one]; done) | (simp only [Int.ofNat_eq_natCast, neg_one]; omega)) only [tysW, wB, mB, Nat.reduceAdd, Nat.reduceMul, List.length_cons, List.length_nil, ldB b1, clB b1, ldBL b1, clBL b1]
      exact hk _ _ _ g1 (.no fun e => hq (by have := e.2.1; omega))
  · try simp (disch := first | assumption | omega | (simp only [Int.ofNat_eq_natCast, neg_one]; done) | (simp only [Int.ofNat_eq_natCast, neg_one]; omega)) only [tysW, wB, mB, Nat.reduceAdd, Nat.reduceMul, List.length_cons, List.length_nil]
    exact hk _ _ _ g1 (.no fun e => hl (by have := e.1.2; rw [hnn] at this; exact this))
def rowC (n rmin last : Int) (y : RW) : Prop := (1 ≤ y.s ∧ y.s ≤ 16) ∧ last ≤ y.s ∧ (y.n : Int) = n ∧ rmin ≤ y.r ∧ ∀ z ∈ y.H, ¬ farP z
theorem s95 {m : MO} (sm : MoSm m) {y : RW} (hy : Sl EI h y.p y.n y.c y.H) (hyn : y.n ≤ 12) (last : Int) : PureS (D N (d + 2)) 95 [.agg ⟨mov m⟩, .agg ⟨rwv y⟩, vi last] h s (fun v _ _ => Tells (rowC m.n m.rmin last y) v) := by
  refine PureS.of hf fun K pw Z g hp hk => ?_
  rw [D_95]; unfold F95; rw [app3_eq]
  refine wp_boxA g hp fun h1 g1 c1 b1 => ?_
  refine wp_boxA g1 hp fun h2 g2 c2 b2 => ?_
  replace b1 := c2.box b1 (by omega)
  simp only [mov] at b1
  simp only [rwv] at b2
  by_cases q1 : y.s < 1
  · try simp (disch := first | assumption | omega | (simp only [Int.ofNat_eq_natCast, neg_one]; done) | (simp only [Int.ofNat_eq_natCast, neg_one]; omega)) only [tysW, wB, mB, Nat.reduceAdd, Nat.reduceMul, List.length_cons, List.length_nil, ldB b1, clB b1, ldBL b1, clBL b1, ldB b2, clB b2, ldBL b2, clBL b2]
    unfold X95_3; try simp (disch := first | assumption | omega | (simp only [Int.ofNat_eq_natCast, neg_one]; done) | (simp only [Int.ofNat_eq_natCast, neg_one]; omega)) only [tysW, wB, mB, Nat.reduceAdd, Nat.reduceMul, List.length_cons, List.length_nil]
    unfold X95_2; try simp (disch := first | assumption | omega | (simp only [Int.ofNat_eq_natCast, neg_one]; done) | (simp only [Int.ofNat_eq_natCast, neg_one]; omega)) only [tysW, wB, mB, Nat.reduceAdd, Nat.reduceMul, List.length_cons, List.length_nil]
    exact hk _ _ _ g2 (.no fun e => by have := e.1; omega)
  by_cases q2 : 16 < y.s
  · try simp (disch := first | assumption | omega | (simp only [Int.ofNat_eq_natCast, neg_one]; done) | (simp only [Int.ofNat_eq_natCast, neg_one]; omega)) only [tysW, wB, mB, Nat.reduceAdd, Nat.reduceMul, List.length_cons, List.length_nil, ldB b1, clB b1, ldBL b1, clBL b1, ldB b2, clB b2, ldBL b2, clBL b2]
    unfold X95_3; try simp (disch := first | assumption | omega | (simp only [Int.ofNat_eq_natCast, neg_one]; done) | (simp only [Int.ofNat_eq_natCast, neg_one]; omega)) only [tysW, wB, mB, Nat.reduceAdd, Nat.reduceMul, List.length_cons, List.length_nil]
    unfold X95_2; try simp (disch := first | assumption | omega | (simp only [Int.ofNat_eq_natCast, neg_one]; done) | (simp only [Int.ofNat_eq_natCast, neg_one]; omega)) only [tysW, wB, mB, Nat.reduceAdd, Nat.reduceMul, List.length_cons, List.length_nil]
    exact hk _ _ _ g2 (.no fun e => by have := e.1; omega)
  by_cases q3 : y.s < last
  · try simp (disch := first | assumption | omega | (simp only [Int.ofNat_eq_natCast, neg_one]; done) | (simp only [Int.ofNat_eq_natCast, neg_one]; omega)) only [tysW, wB, mB, Nat.reduceAdd, Nat.reduceMul, List.length_cons, List.length_nil, ldB b1, clB b1, ldBL b1, clBL b1, ldB b2, clB b2, ldBL b2, clBL b2]
    unfold X95_3; try simp (disch := first | assumption | omega | (simp only [Int.ofNat_eq_natCast, neg_one]; done) | (simp only [Int.ofNat_eq_natCast, neg_one]; omega)) only [tysW, wB, mB, Nat.reduceAdd, Nat.reduceMul, List.length_cons, List.length_nil, ldB b1, clB b1, ldBL b1, clBL b1, ldB b2, clB b2, ldBL b2, clBL b2]
    unfold X95_2; try simp (disch := first | assumption | omega | (simp only [Int.ofNat_eq_natCast, neg_one]; done) | (simp only [Int.ofNat_eq_natCast, neg_one]; omega)) only [tysW, wB, mB, Nat.reduceAdd, Nat.reduceMul, List.length_cons, List.length_nil]
    exact hk _ _ _ g2 (.no fun e => by have := e.2.1; omega)
  by_cases q4 : (y.n : Int) = m.n
  · by_cases q5 : y.r < m.rmin
    · try simp (disch := first | assumption | omega | (simp only [Int.ofNat_eq_natCast, neg_one]; done) | (simp only [Int.ofNat_eq_natCast, neg_one]; omega)) only [tysW, wB, mB, Nat.reduceAdd, Nat.reduceMul, List.length_cons, List.length_nil, ldB b1, clB b1, ldBL b1, clBL b1, ldB b2, clB b2, ldBL b2, clBL b2]
      unfold X95_3; try simp (disch := first | assumption | omega | (simp only [Int.ofNat_eq_natCast, neg_one]; done) | (simp only [Int.ofNat_eq_natCast, neg_one]; omega)) only [tysW, wB, mB, Nat.reduceAdd, Nat.reduceMul, List.length_cons, List.length_nil, ldB b1, clB b1, ldBL b1, clBL b1, ldB b2, clB b2, ldBL b2, clBL b2]
      unfold X95_2; try simp (disch := first | assumption | omega | (simp only [Int.ofNat_eq_natCast, neg_one]; done) | (simp only [Int.ofNat_eq_natCast, neg_one]; omega)) only [tysW, wB, mB, Nat.reduceAdd, Nat.reduceMul, List.length_cons, List.length_nil, ldB b1, clB b1, ldBL b1, clBL b1, ldB b2, clB b2, ldBL b2, clBL b2]
      exact hk _ _ _ g2 (.no fun e => by have := e.2.2.2.1; omega)
    · try simp (disch := first | assumption | omega | (simp only [Int.ofNat_eq_natCast, neg_one]; done) | (simp only [Int.ofNat_eq_natCast, neg_one]; omega)) only [tysW, wB, mB, Nat.reduceAdd, Nat.reduceMul, List.length_cons, List.length_nil, ldB b1, clB b1, ldBL b1, clBL b1, ldB b2, clB b2, ldBL b2, clBL b2]
      unfold X95_3; try simp (disch := first | assumption | omega | (simp only [Int.ofNat_eq_natCast, neg_one]; done) | (simp only [Int.ofNat_eq_natCast, neg_one]; omega)) only [tysW, wB, mB, Nat.reduceAdd, Nat.reduceMul, List.length_cons, List.length_nil, ldB b1, clB b1, ldBL b1, clBL b1, ldB b2, clB b2, ldBL b2, clBL b2]
      unfold X95_2; try simp (disch := first | assumption | omega | (simp only [Int.ofNat_eq_natCast, neg_one]; done) | (simp only [Int.ofNat_eq_natCast, neg_one]; omega)) only [tysW, wB, mB, Nat.reduceAdd, Nat.reduceMul, List.length_cons, List.length_nil, ldB b1, clB b1, ldBL b1, clBL b1, ldB b2, clB b2, ldBL b2, clBL b2]
      have loop : ∀ (B : (Value → Value → Nat → AM) → Value → Value → Nat → AM) (hB : ∀ H u i s', B H u i s' = X95_1 N (D N (d + 1)) K (ptr (s + 1)) (fun s => K (.bool true) s) H u i s') (q i : Nat) (u : Value) (h3 : T) (s3 : Nat), y.n - i < q → i ≤ y.n → From s h h3 s3 → From (s + 2) h2 h3 s3 → (∀ (j : Nat) (a : Int), j < i → y.H[j]? = some a → ¬ farP a) →
          (loopJ q 2 (fun _ _ _ => AM.fail) B u (vi i) s3).wp pw Z h3 := by
        intro B hB q
        induction q with
        | zero => intro i u h3 s3 hm; omega
        | succ q ih =>
          intro i u h3 s3 hm hil g3 c3 he
          have b3 := c3.box b2 (by omega)
          have y3 := hy.from hf g3
          rw [loopJ_succ, hB]
          unfold X95_1
          by_cases hlt : i < y.n
          · obtain ⟨a, ha⟩ := get_some (l := y.H) (i := i) (by rw [y3.row.1]; omega)
            try simp (disch := first | assumption | omega | (simp only [Int.ofNat_eq_natCast, neg_one]; done) | (simp only [Int.ofNat_eq_natCast, neg_one]; omega)) only [tysW, wB, mB, Nat.reduceAdd, Nat.reduceMul, List.length_cons, List.length_nil, ldB b3, clB b3, ldBL b3, clBL b3, xaI y3.row (j := (i : Int)) (by omega) (by omega), intI y3.row ha]
            refine PureS.go g3 hp (s100 (d := d) g3.fresh a) fun v h4 s4 g4 c4 hv => ?_
            obtain ⟨t, rfl, ht⟩ := hv
            cases t with
            | true =>
              try simp (disch := first | assumption | omega | (simp only [Int.ofNat_eq_natCast, neg_one]; done) | (simp only [Int.ofNat_eq_natCast, neg_one]; omega)) only [tysW, wB, mB, Nat.reduceAdd, Nat.reduceMul, List.length_cons, List.length_nil]
              exact hk _ _ _ g4 (.no fun e => e.2.2.2.2 a (List.mem_of_getElem? ha) (ht.1 rfl))
            | false =>
              try simp (disch := first | assumption | omega | (simp only [Int.ofNat_eq_natCast, neg_one]; done) | (simp only [Int.ofNat_eq_natCast, neg_one]; omega)) only [tysW, wB, mB, Nat.reduceAdd, Nat.reduceMul, List.length_cons, List.length_nil]
              exact ih (i + 1) u h4 s4 (by omega) (by omega) g4 (c3.trans c4) fun j b hj hb => by
                rcases Nat.lt_or_ge j i with h6 | h6
                · exact he j b h6 hb
                · obtain rfl : j = i := by omega
                  rw [ha] at hb; cases hb; exact fun ee => by have := ht.2 ee; cases this
          · obtain rfl : i = y.n := by omega
            try simp (disch := first | assumption | omega | (simp only [Int.ofNat_eq_natCast, neg_one]; done) | (simp only [Int.ofNat_eq_natCast, neg_one]; omega)) only [tysW, wB, mB, Nat.reduceAdd, Nat.reduceMul, List.length_cons, List.length_nil, ldB b3, clB b3, ldBL b3, clBL b3]
            refine hk _ _ _ g3 (.yes ⟨by omega, by omega, q4, by omega, fun z hz => ?_⟩)
            obtain ⟨j, hj⟩ := List.getElem?_of_mem hz
            exact he j z (by have := (List.getElem?_eq_some_iff.1 hj).1; rw [hy.row.1] at this; exact this) hj
      exact loop _ (fun _ _ _ _ => rfl) N 0 _ h2 (s + 2) (by omega) (by omega) g2 (.refl g2.fresh) fun j a hj => by omega
  · try simp (disch := first | assumption | omega | (simp only [Int.ofNat_eq_natCast, neg_one]; done) | (simp only [Int.ofNat_eq_natCast, neg_one]; omega)) only [tysW, wB, mB, Nat.reduceAdd, Nat.reduceMul, List.length_cons, List.length_nil, ldB b1, clB b1, ldBL b1, clBL b1, ldB b2, clB b2, ldBL b2, clBL b2]
    unfold X95_3; try simp (disch := first | assumption | omega | (simp only [Int.ofNat_eq_natCast, neg_one]; done) | (simp only [Int.ofNat_eq_natCast, neg_one]; omega)) only [tysW, wB, mB, Nat.reduceAdd, Nat.reduceMul, List.length_cons, List.length_nil, ldB b1, clB b1, ldBL b1, clBL b1, ldB b2, clB b2, ldBL b2, clBL b2]
    unfold X95_2; try simp (disch := first | assumption | omega | (simp only [Int.ofNat_eq_natCast, neg_one]; done) | (simp only [Int.ofNat_eq_natCast, neg_one]; omega)) only [tysW, wB, mB, Nat.reduceAdd, Nat.reduceMul, List.length_cons, List.length_nil]
    exact hk _ _ _ g2 (.no fun e => q4 e.2.2.1)
set_option maxHeartbeats 1000000 in
theorem s75 {m : MO} (x : MoAt h m) (sm : MoSm m) : PureS (D N (d + 3)) 75 [.agg ⟨mov m⟩] h s (fun v _ _ => Errs (modOK m) 2 v) := by
  refine PureS.of hf fun K pw Z g hp hk => ?_
  rw [D_75]; unfold F75; rw [app1_eq]
  refine wp_boxA g hp fun h1 g1 c1 b1 => ?_
  have b1' := b1
  simp only [mov] at b1
  have bad : ∀ h' s', From s h h' s' → ¬ modOK m → (K (i64 2) s').wp pw Z h' := fun h' s' g' hb => hk _ _ _ g' ⟨2, rfl, .inr ⟨rfl, hb⟩⟩
  by_cases q1 : m.n < 1
  · try simp (disch := first | assumption | omega | (simp only [Int.ofNat_eq_natCast, neg_one]; done) | (simp only [Int.ofNat_eq_natCast, neg_one]; omega)) only [tysW, wB, mB, Nat.reduceAdd, Nat.reduceMul, List.length_cons, List.length_nil, ldB b1, clB b1, ldBL b1, clBL b1]
    unfold X75_5; try simp (disch := first | assumption | omega | (simp only [Int.ofNat_eq_natCast, neg_one]; done) | (simp only [Int.ofNat_eq_natCast, neg_one]; omega)) only [tysW, wB, mB, Nat.reduceAdd, Nat.reduceMul, List.length_cons, List.length_nil]
    unfold X75_4; try simp (disch := first | assumption | omega | (simp only [Int.ofNat_eq_natCast, neg_one]; done) | (simp only [Int.ofNat_eq_natCast, neg_one]; omega)) only [tysW, wB, mB, Nat.reduceAdd, Nat.reduceMul, List.length_cons, List.length_nil]
    unfold X75_3; try simp (disch := first | assumption | omega | (simp only [Int.ofNat_eq_natCast, neg_one]; done) | (simp only [Int.ofNat_eq_natCast, neg_one]; omega)) only [tysW, wB, mB, Nat.reduceAdd, Nat.reduceMul, List.length_cons, List.length_nil]
    exact bad _ _ g1 fun e => by have := e.1; omega
  by_cases q2 : 6 < m.n
  · try simp (disch := first | assumption | omega | (simp only [Int.ofNat_eq_natCast, neg_one]; done) | (simp only [Int.ofNat_eq_natCast, neg_one]; omega)) only [tysW, wB, mB, Nat.reduceAdd, Nat.reduceMul, List.length_cons, List.length_nil, ldB b1, clB b1, ldBL b1, clBL b1]
    unfold X75_5; try simp (disch := first | assumption | omega | (simp only [Int.ofNat_eq_natCast, neg_one]; done) | (simp only [Int.ofNat_eq_natCast, neg_one]; omega)) only [tysW, wB, mB, Nat.reduceAdd, Nat.reduceMul, List.length_cons, List.length_nil]
    unfold X75_4; try simp (disch := first | assumption | omega | (simp only [Int.ofNat_eq_natCast, neg_one]; done) | (simp only [Int.ofNat_eq_natCast, neg_one]; omega)) only [tysW, wB, mB, Nat.reduceAdd, Nat.reduceMul, List.length_cons, List.length_nil]
    unfold X75_3; try simp (disch := first | assumption | omega | (simp only [Int.ofNat_eq_natCast, neg_one]; done) | (simp only [Int.ofNat_eq_natCast, neg_one]; omega)) only [tysW, wB, mB, Nat.reduceAdd, Nat.reduceMul, List.length_cons, List.length_nil]
    exact bad _ _ g1 fun e => by have := e.1; omega
  try simp (disch := first | assumption | omega | (simp only [Int.ofNat_eq_natCast, neg_one]; done) | (simp only [Int.ofNat_eq_natCast, neg_one]; omega)) only [tysW, wB, mB, Nat.reduceAdd, Nat.reduceMul, List.length_cons, List.length_nil, ldB b1, clB b1, ldBL b1, clBL b1]
  refine PureS.go g1 hp (s94 (d := d) hN g1.fresh (x.from hf g1) sm (by omega)) fun v h2 s2 g2 c2 hv => ?_
  obtain ⟨t, rfl, ht⟩ := hv
  have b2 := c2.box b1 (by omega)
  have l2 := c2.le
  cases t with
  | false =>
    try simp (disch := first | assumption | omega | (simp only [Int.ofNat_eq_natCast, neg_one]; done) | (simp only [Int.ofNat_eq_natCast, neg_one]; omega)) only [tysW, wB, mB, Nat.reduceAdd, Nat.reduceMul, List.length_cons, List.length_nil]
    unfold X75_5; try simp (disch := first | assumption | omega | (simp only [Int.ofNat_eq_natCast, neg_one]; done) | (simp only [Int.ofNat_eq_natCast, neg_one]; omega)) only [tysW, wB, mB, Nat.reduceAdd, Nat.reduceMul, List.length_cons, List.length_nil]
    unfold X75_4; try simp (disch := first | assumption | omega | (simp only [Int.ofNat_eq_natCast, neg_one]; done) | (simp only [Int.ofNat_eq_natCast, neg_one]; omega)) only [tysW, wB, mB, Nat.reduceAdd, Nat.reduceMul, List.length_cons, List.length_nil]
    unfold X75_3; try simp (disch := first | assumption | omega | (simp only [Int.ofNat_eq_natCast, neg_one]; done) | (simp only [Int.ofNat_eq_natCast, neg_one]; omega)) only [tysW, wB, mB, Nat.reduceAdd, Nat.reduceMul, List.length_cons, List.length_nil]
    exact bad _ _ g2 fun e => by have := ht.2 ⟨e.2.1, e.2.2.1⟩; cases this
  | true =>
  have ht := ht.1 rfl
  try simp (disch := first | assumption | omega | (simp only [Int.ofNat_eq_natCast, neg_one]; done) | (simp only [Int.ofNat_eq_natCast, neg_one]; omega)) only [tysW, wB, mB, Nat.reduceAdd, Nat.reduceMul, List.length_cons, List.length_nil]
  unfold X75_5
  by_cases q3 : m.tick < 1
  · try simp (disch := first | assumption | omega | (simp only [Int.ofNat_eq_natCast, neg_one]; done) | (simp only [Int.ofNat_eq_natCast, neg_one]; omega)) only [tysW, wB, mB, Nat.reduceAdd, Nat.reduceMul, List.length_cons, List.length_nil, ldB b2, clB b2, ldBL b2, clBL b2]
    unfold X75_4; try simp (disch := first | assumption | omega | (simp only [Int.ofNat_eq_natCast, neg_one]; done) | (simp only [Int.ofNat_eq_natCast, neg_one]; omega)) only [tysW, wB, mB, Nat.reduceAdd, Nat.reduceMul, List.length_cons, List.length_nil]
    unfold X75_3; try simp (disch := first | assumption | omega | (simp only [Int.ofNat_eq_natCast, neg_one]; done) | (simp only [Int.ofNat_eq_natCast, neg_one]; omega)) only [tysW, wB, mB, Nat.reduceAdd, Nat.reduceMul, List.length_cons, List.length_nil]
    exact bad _ _ g2 fun e => by have := e.2.2.2.1; omega
  by_cases q4 : 4294967296 < m.tick
  · try simp (disch := first | assumption | omega | (simp only [Int.ofNat_eq_natCast, neg_one]; done) | (simp only [Int.ofNat_eq_natCast, neg_one]; omega)) only [tysW, wB, mB, Nat.reduceAdd, Nat.reduceMul, List.length_cons, List.length_nil, ldB b2, clB b2, ldBL b2, clBL b2]
    unfold X75_4; try simp (disch := first | assumption | omega | (simp only [Int.ofNat_eq_natCast, neg_one]; done) | (simp only [Int.ofNat_eq_natCast, neg_one]; omega)) only [tysW, wB, mB, Nat.reduceAdd, Nat.reduceMul, List.length_cons, List.length_nil]
    unfold X75_3; try simp (disch := first | assumption | omega | (simp only [Int.ofNat_eq_natCast, neg_one]; done) | (simp only [Int.ofNat_eq_natCast, neg_one]; omega)) only [tysW, wB, mB, Nat.reduceAdd, Nat.reduceMul, List.length_cons, List.length_nil]
    exact bad _ _ g2 fun e => by have := e.2.2.2.1; omega
  try simp (disch := first | assumption | omega | (simp only [Int.ofNat_eq_natCast, neg_one]; done) | (simp only [Int.ofNat_eq_natCast, neg_one]; omega)) only [tysW, wB, mB, Nat.reduceAdd, Nat.reduceMul, List.length_cons, List.length_nil, ldB b2, clB b2, ldBL b2, clBL b2]
  unfold X75_4
  by_cases q5 : m.gate < 1
  · try simp (disch := first | assumption | omega | (simp only [Int.ofNat_eq_natCast, neg_one]; done) | (simp only [Int.ofNat_eq_natCast, neg_one]; omega)) only [tysW, wB, mB, Nat.reduceAdd, Nat.reduceMul, List.length_cons, List.length_nil, ldB b2, clB b2, ldBL b2, clBL b2]
    unfold X75_3; try simp (disch := first | assumption | omega | (simp only [Int.ofNat_eq_natCast, neg_one]; done) | (simp only [Int.ofNat_eq_natCast, neg_one]; omega)) only [tysW, wB, mB, Nat.reduceAdd, Nat.reduceMul, List.length_cons, List.length_nil]
    exact bad _ _ g2 fun e => by have := e.2.2.2.1; omega
  by_cases q6 : m.rmin < 1
  · try simp (disch := first | assumption | omega | (simp only [Int.ofNat_eq_natCast, neg_one]; done) | (simp only [Int.ofNat_eq_natCast, neg_one]; omega)) only [tysW, wB, mB, Nat.reduceAdd, Nat.reduceMul, List.length_cons, List.length_nil, ldB b2, clB b2, ldBL b2, clBL b2]
    unfold X75_3; try simp (disch := first | assumption | omega | (simp only [Int.ofNat_eq_natCast, neg_one]; done) | (simp only [Int.ofNat_eq_natCast, neg_one]; omega)) only [tysW, wB, mB, Nat.reduceAdd, Nat.reduceMul, List.length_cons, List.length_nil]
    exact bad _ _ g2 fun e => by have := e.2.2.2.1; omega
  try simp (disch := first | assumption | omega | (simp only [Int.ofNat_eq_natCast, neg_one]; done) | (simp only [Int.ofNat_eq_natCast, neg_one]; omega)) only [tysW, wB, mB, Nat.reduceAdd, Nat.reduceMul, List.length_cons, List.length_nil, ldB b2, clB b2, ldBL b2, clBL b2]
  unfold X75_3
  by_cases q7 : (24 : Int) < (m.nR : Int)
  · try simp (disch := first | assumption | omega | (simp only [Int.ofNat_eq_natCast, neg_one]; done) | (simp only [Int.ofNat_eq_natCast, neg_one]; omega)) only [tysW, wB, mB, Nat.reduceAdd, Nat.reduceMul, List.length_cons, List.length_nil, ldB b2, clB b2, ldBL b2, clBL b2]
    exact bad _ _ g2 fun e => by have := e.2.2.2.2.2; omega
  try simp (disch := first | assumption | omega | (simp only [Int.ofNat_eq_natCast, neg_one]; done) | (simp only [Int.ofNat_eq_natCast, neg_one]; omega)) only [tysW, wB, mB, Nat.reduceAdd, Nat.reduceMul, List.length_cons, List.length_nil, ldB b2, clB b2, ldBL b2, clBL b2]
  have loop : ∀ (B : (Value → Value → Value → Nat → AM) → Value → Value → Value → Nat → AM) (hB : ∀ H u l i s', B H u l i s' = X75_2 N (D N (d + 2)) K (ptr s) (fun s => K (i64 0) s) H u l i s') (q i : Nat) (u : Value) (last : Int) (h3 : T) (s3 : Nat), m.nR - i < q → i ≤ m.nR → From s h h3 s3 → From (s + 1) h1 h3 s3 → 1 ≤ last → (rowOK m.n m.rmin 1 m.R ↔ rowOK m.n m.rmin last (m.R.drop i)) →
      (loopJ q 3 (fun _ _ _ _ => AM.fail) B u (vi last) (vi i) s3).wp pw Z h3 := by
    intro B hB q
    induction q with
    | zero => intro i u last h3 s3 hm; omega
    | succ q ih =>
      intro i u last h3 s3 hm hil g3 c3 hla he
      have b3 := c3.box b1 (by omega)
      have x3 := x.from hf g3
      have l3 := c3.le
      rw [loopJ_succ, hB]
      unfold X75_2
      by_cases hlt : i < m.nR
      · obtain ⟨y, hy⟩ := get_some (l := m.R) (i := i) (by rw [x3.r.1]; omega)
        rw [drop_at hy] at he
        simp only [rowOK] at he
        have ym := List.mem_of_getElem? hy
        try simp (disch := first | assumption | omega | (simp only [Int.ofNat_eq_natCast, neg_one]; done) | (simp only [Int.ofNat_eq_natCast, neg_one]; omega)) only [tysW, wB, mB, Nat.reduceAdd, Nat.reduceMul, List.length_cons, List.length_nil, ldB b3, clB b3, ldBL b3, clBL b3]
        unfold X75_1
        try simp (disch := first | assumption | omega | (simp only [Int.ofNat_eq_natCast, neg_one]; done) | (simp only [Int.ofNat_eq_natCast, neg_one]; omega)) only [tysW, wB, mB, Nat.reduceAdd, Nat.reduceMul, List.length_cons, List.length_nil, xaR x3.r (j := (i : Int)) (by omega) (by omega), rwAL x3.r hy]
        refine PureS.goL g3 hp (s95 (d := d) (m := m) hN g3.fresh sm (x3.hs y ym) (sm.hs y ym) last) fun v h4 s4 ts ws g4 c4 hv hw htt => ?_
        obtain ⟨t, rfl, hc⟩ := hv
        have b4 := c4.box b3 (by omega)
        have x4 := x.from hf g4
        cases t with
        | false =>
          try simp (disch := first | assumption | omega | (simp only [Int.ofNat_eq_natCast, neg_one]; done) | (simp only [Int.ofNat_eq_natCast, neg_one]; omega)) only [tysW, wB, mB, Nat.reduceAdd, Nat.reduceMul, List.length_cons, List.length_nil]
          exact bad _ _ g4 fun e => by
            have e := he.1 e.2.2.2.2.1
            have := hc.2 ⟨by omega, by omega, e.2.1, e.2.2.2.1, e.2.2.1⟩; cases this
        | true =>
          have hc := hc.1 rfl
          try simp (disch := first | assumption | omega | (simp only [Int.ofNat_eq_natCast, neg_one]; done) | (simp only [Int.ofNat_eq_natCast, neg_one]; omega)) only [tysW, wB, mB, Nat.reduceAdd, Nat.reduceMul, List.length_cons, List.length_nil, ldB b4, clB b4, ldBL b4, clBL b4, xaR x4.r (j := (i : Int)) (by omega) (by omega), rwS x4.r hy]
          exact ih (i + 1) u y.s h4 s4 (by omega) (by omega) g4 (c3.trans c4) hc.1.1 ⟨fun e => (he.1 e).2.2.2.2, fun e => he.2 ⟨⟨hc.2.1, hc.1.2⟩, hc.2.2.1, hc.2.2.2.2, hc.2.2.2.1, e⟩⟩
      · obtain rfl : i = m.nR := by omega
        try simp (disch := first | assumption | omega | (simp only [Int.ofNat_eq_natCast, neg_one]; done) | (simp only [Int.ofNat_eq_natCast, neg_one]; omega)) only [tysW, wB, mB, Nat.reduceAdd, Nat.reduceMul, List.length_cons, List.length_nil, ldB b3, clB b3, ldBL b3, clBL b3]
        refine hk _ _ _ g3 ⟨0, rfl, .inl ⟨rfl, by omega, ht.1, ht.2, by omega, he.2 ?_, by omega⟩⟩
        rw [List.drop_of_length_le (by rw [x3.r.1]; exact Nat.le_refl _)]
        trivial
  exact loop _ (fun _ _ _ _ _ => rfl) N 0 _ 1 h2 s2 (by omega) (by omega) g2 c2 (by omega) (by rw [List.drop_zero])
end
end Go.Ev.R

/- The law TalkAgain, part 2: what the functions answer, by their terms. No condition. -/
import Derived.Test.YtnffkmnjpnlleaaTalkAgainP1
set_option linter.unusedVariables false
set_option linter.unusedSimpArgs false
set_option maxRecDepth 100000
namespace Go.Ev.R
open Go Go.RowKit
/-- What is read of a telling. -/
structure ET where
  sen : Int
  seq : Int
  err : Int
  nl : List Int
  ex : Bool
  b : BD
  st : RS
def stepT (y : ET) (c : UInt8) : ET :=
  if c = 115 then { y with sen := (oneR 1 y.st).1, st := (oneR 1 y.st).2 }
  else if c = 113 then { y with seq := (oneR 4 y.st).1, st := (oneR 4 y.st).2 }
  else if c = 101 then { y with err := (oneR 1 y.st).1, st := (oneR 1 y.st).2 }
  else if c = 110 then { y with nl := (listR y.st).1, st := (listR y.st).2 }
  else if c = 120 then { y with ex := (truthR y.st).1, st := (truthR y.st).2 }
  else { y with b := (belP y.st).1, st := (belP y.st).2 }
def startT (b : List Int) : ET := ⟨0, 0, 0, [], false, bd0, (oneR 1 (b, false)).2⟩
def decT (b : List Int) : ET := (telT (kindD b)).foldl stepT (startT b)
def tvD (k : Int) (y : ET) (p1 p2 p3 : Option Addr) : TV := ⟨k, y.sen, y.seq, y.err, p1, y.nl.length, y.nl.length, y.ex, bvD y.b p2 p3⟩
noncomputable def badG (b : List Int) : Bool := (decT b).st.2 || (!(decT b).st.1.isEmpty || badT (tvD (kindD b) (decT b) none none none) (decT b).b.pl)
theorem badT_p (k : Int) (y : ET) (pl : List Int) (p1 p2 p3 q1 q2 q3 : Option Addr) : badT (tvD k y p1 p2 p3) pl = badT (tvD k y q1 q2 q3) pl := rfl
def Small (y : ET) : Prop := allBytes y.st.1 ∧ y.nl.length ≤ 24 ∧ y.b.xl.length ≤ 24 ∧ y.b.pl.length ≤ 576
theorem belP_bytes {x : RS} (hb : allBytes x.1) : allBytes (belP x).2.1 ∧ (belP x).2.1.length ≤ x.1.length ∧ (belP x).1.xl.length ≤ 24 ∧ (belP x).1.pl.length ≤ 576 := by
  have h5 := bytes5 hb
  have h6 := bytes6 hb
  unfold belP
  split
  · exact ⟨h6.1, h6.2.1, by simp [bd0], by simp [bd0]⟩
  · refine ⟨h6.1, h6.2.1, h5.2.2, ?_⟩
    show (fill _ _).length ≤ _
    rw [fill_len]
    calc _ ≤ 24 * 24 := Nat.mul_le_mul h5.2.2 h5.2.2
    _ = 576 := rfl
theorem stepT_small {y : ET} {c : UInt8} (hb : Small y) : Small (stepT y c) ∧ (stepT y c).st.1.length ≤ y.st.1.length := by
  obtain ⟨h1, h2, h3, h4⟩ := hb
  unfold stepT
  split
  · exact ⟨⟨(oneR_bytes h1).1, h2, h3, h4⟩, (oneR_bytes h1).2⟩
  split
  · exact ⟨⟨(oneR_bytes h1).1, h2, h3, h4⟩, (oneR_bytes h1).2⟩
  split
  · exact ⟨⟨(oneR_bytes h1).1, h2, h3, h4⟩, (oneR_bytes h1).2⟩
  split
  · exact ⟨⟨(listR_bytes h1).1, (listR_bytes h1).2.2, h3, h4⟩, (listR_bytes h1).2.1⟩
  split
  · exact ⟨⟨(truthR_bytes h1).1, h2, h3, h4⟩, (truthR_bytes h1).2⟩
  · have := belP_bytes h1
    exact ⟨⟨this.1, h2, this.2.2.1, this.2.2.2⟩, this.2.1⟩
theorem foldT_small : ∀ (l : List UInt8) {y : ET}, Small y → Small (l.foldl stepT y) ∧ (l.foldl stepT y).st.1.length ≤ y.st.1.length
  | [], y, h => ⟨h, Nat.le_refl _⟩
  | c :: l, y, h => by
    have h1 := stepT_small (c := c) h
    have h2 := foldT_small l h1.1
    exact ⟨h2.1, Nat.le_trans h2.2 h1.2⟩
theorem foldT_next {l : List UInt8} {i : Nat} {c : UInt8} (hc : l[i]? = some c) (y : ET) : (l.take (i + 1)).foldl stepT y = stepT ((l.take i).foldl stepT y) c := by
  rw [List.take_add_one, hc, List.foldl_append]; rfl
theorem startT_small {b : List Int} (hb : allBytes b) : Small (startT b) := ⟨(oneR_bytes (w := 1) (x := (b, false)) hb).1, by simp [startT], by simp [startT, bd0], by simp [startT, bd0]⟩
theorem decT_small {b : List Int} (hb : allBytes b) : Small (decT b) := (foldT_small _ (startT_small hb)).1
abbrev tv0 : List Value := [vi 0, vi 0, vi 0, vi 0, .slice none 0 0, .bool false, vi 0, .slice none 0 0, .slice none 0 0, .bool false, vi 0, vi 0]
noncomputable def GotT (h : T) (s : Nat) (v : Value) (b : List Int) : Prop :=
  if badG b = true then v = .tuple ⟨[.agg ⟨tv0⟩, vi 5]⟩
  else ∃ p1 p2 p3, v = .tuple ⟨[.agg ⟨tvv (tvD (kindD b) (decT b) p1 p2 p3)⟩, vi 0]⟩ ∧ OwnG EI 3 h s p1 (decT b).nl.length (decT b).nl ∧ OwnG EI 3 h s p2 (decT b).b.xl.length (decT b).b.xl ∧ OwnG EI 3 h s p3 (decT b).b.pl.length (decT b).b.pl
/-- The lists that were read. -/
structure OwnT (h : T) (s : Nat) (y : ET) (p1 p2 p3 : Option Addr) : Prop where
  n : OwnG EI 3 h s p1 y.nl.length y.nl
  x : OwnG EI 3 h s p2 y.b.xl.length y.b.xl
  p : OwnG EI 3 h s p3 y.b.pl.length y.b.pl
theorem OwnT.but {h h' : T} {s s' : Nat} {y : ET} {p1 p2 p3 : Option Addr} (o : OwnT h s y p1 p2 p3) (hf : ∀ n, s' ≤ n → h.get n = none) (e : ∀ i, s ≤ i → i < s' → (∀ a b, h.get i ≠ some (.stringIter a b)) → h'.get i = h.get i) : OwnT h' s y p1 p2 p3 := by
  have k : ∀ {p : Option Addr} {len : Nat} {l : List Int}, OwnG EI 3 h s p len l → OwnG EI 3 h' s p len l := by
    intro p len l o
    refine o.but fun hp => ?_
    have := o.lt hf hp
    exact e _ this.1 this.2 fun a b hb => o.ne hb hp rfl
  exact ⟨k o.n, k o.x, k o.p⟩
section
variable {N d : Nat} (hN : N = 100000) {h : T} {s : Nat} (hf : ∀ n, s ≤ n → h.get n = none)
include hN hf
theorem s71 {p : Option Addr} {len cap : Nat} {b : List Int} (r : Sl EB h p len cap b) (hl : len ≤ 50000) (hb : allBytes b) : PureS (D N (d + 12)) 71 [.slice p len cap] h s (fun v h' s' => GotT h' s v b) := by
  refine PureS.of hf fun K pw Z g hp hk => ?_
  rw [D_71]; unfold F71; rw [app1_eq]
  unfold X71_4
  have hlen := r.row.1
  try simp (disch := first | assumption | omega | (simp only [Int.ofNat_eq_natCast, neg_one]; done) | (simp only [Int.ofNat_eq_natCast, neg_one]; omega)) only [tysW, wB, mB, Nat.reduceAdd, Nat.reduceMul, List.length_cons, List.length_nil]
  refine wp_boxA g hp fun h1 g1 c1 b1 => ?_
  refine PureS.go g1 hp (s112 (d := d + 10) g1.fresh (r.from hf g1) (by omega)) fun v h2 s2 g2 c2 hv => ?_
  obtain ⟨p2, rfl, o2⟩ := hv
  have l2 := c2.le
  replace b1 := c2.box b1 (by omega)
  try simp (disch := first | assumption | omega | (simp only [Int.ofNat_eq_natCast, neg_one]; done) | (simp only [Int.ofNat_eq_natCast, neg_one]; omega)) only [tysW, wB, mB, Nat.reduceAdd, Nat.reduceMul, List.length_cons, List.length_nil]
  refine wp_boxA g2 hp fun h3 g3 c3 b3 => ?_
  replace b1 := c3.box b1 (by omega)
  have o3 := o2.from g2.fresh c3
  try simp (disch := first | assumption | omega | (simp only [Int.ofNat_eq_natCast, neg_one]; done) | (simp only [Int.ofNat_eq_natCast, neg_one]; omega)) only [tysW, wB, mB, Nat.reduceAdd, Nat.reduceMul, List.length_cons, List.length_nil]
  refine wp_putF g3 hp b3 (by omega) (by simp) rfl fun h4 g4 b4 e4 => ?_
  simp only [overL] at b4
  replace b1 := (e4 s (by omega)).trans b1
  have o4 := o3.but fun hp => e4 _ (by have := o2.lt g2.fresh hp; omega)
  have R4 : RdAt h4 s2 135 (b, false) (eqN s2) := ⟨p2, len, len, b4, o4.sl, fun hc => by
    have hp2 : p2 ≠ none := fun hn => hc (by have := o4.sl.non hn; exact this)
    have := o2.lt g2.fresh hp2; exact ⟨by omega, fun e => by have e : blk p2 = s2 := e; omega⟩⟩
  refine s113 (d := d + 7) (w := 1) hN g4 hp (by omega) hb (by show b.length ≤ 50000; omega) (.inl rfl) (by omega) R4 fun h5 s5 g5 l5 R5 e5 => ?_
  replace b1 := (e5 s (by omega) (by omega)).trans b1
  have hb5 := oneR_bytes (w := 1) (x := (b, false)) hb
  try simp (disch := first | assumption | omega | (simp only [Int.ofNat_eq_natCast, neg_one]; done) | (simp only [Int.ofNat_eq_natCast, neg_one]; omega)) only [tysW, wB, mB, Nat.reduceAdd, Nat.reduceMul, List.length_cons, List.length_nil]
  refine wp_boxA g5 hp fun h6 g6 c6 b6 => ?_
  replace b1 := c6.box b1 (by omega)
  have R6 := (R5.other (h' := h6) g5.fresh (Nat.le_refl s5)).from g5.fresh c6
  try simp (disch := first | assumption | omega | (simp only [Int.ofNat_eq_natCast, neg_one]; done) | (simp only [Int.ofNat_eq_natCast, neg_one]; omega)) only [tysW, wB, mB, Nat.reduceAdd, Nat.reduceMul, List.length_cons, List.length_nil]
  refine wp_putF g6 hp b6 (by omega) (by simp) rfl fun h7 g7 b7 e7 => ?_
  simp only [overL] at b7
  replace b1 := (e7 s (by omega)).trans b1
  have R7 := R6.but (by omega) e7
  refine PureS.goL g7 hp (s108 (d := d + 10) g7.fresh) fun v h8 s8 ts8 ws8 g8 c8 hv hw8 ht8 => ?_
  obtain ⟨m, rfl, hm, bm⟩ := hv
  have l8 := c8.le
  replace b1 := c8.box b1 (by omega)
  replace b7 := c8.box b7 (by omega)
  have R8 := R7.from g7.fresh c8
  try simp (disch := first | assumption | omega | (simp only [Int.ofNat_eq_natCast, neg_one]; done) | (simp only [Int.ofNat_eq_natCast, neg_one]; omega)) only [tysW, wB, mB, Nat.reduceAdd, Nat.reduceMul, List.length_cons, List.length_nil, ldB b7, clB b7, ldBL b7, clBL b7]
  unfold X71_3
  refine log_wp (W := fun _ => False) (Q := fun v h' s' => v = txt (telT (kindD b)) ∧ h' = h8 ∧ s' = s8) ?_ (fun n hn => hn.elim) ?_
  · rw [show (oneR 1 (b, false)).1 = kindD b from rfl, wp_tel bm]
    exact ⟨_, _, rfl, rfl, rfl, rfl⟩
  rintro v h9 s9 ts9 ws9 ⟨rfl, rfl, rfl⟩ hw9 ht9
  replace hw9 : ∀ n ∈ ws9, s9 ≤ n ∧ n < s9 := fun n hn => (hw9 n hn).1.elim
  replace ht9 : ∀ n ∈ ts9, n < s9 := fun n hn => lt_of_some g8.fresh (ht9 n hn)
  try simp (disch := first | assumption | omega | (simp only [Int.ofNat_eq_natCast, neg_one]; done) | (simp only [Int.ofNat_eq_natCast, neg_one]; omega)) only [tysW, wB, mB, Nat.reduceAdd, Nat.reduceMul, List.length_cons, List.length_nil, rng9]
  refine wp_newL (q := fun b => ptr b) g8 hp fun h10 g10 c10 b10 => ?_
  replace b1 := c10.box b1 (by omega)
  replace b7 := c10.box b7 (by omega)
  have R10 := R8.from g8.fresh c10
  rw [wp_guard, if_pos (by repeat' (first | exact dynOk_nil _ _ | refine dyn_skip' ?_ | refine dyn_cons ?_ ?_ | exact allF_nil _ _ | refine allF_cons ?_ ?_ | exact disj_below hw8 (by omega) | exact disjA hw8 (by omega) | exact disjB hw8 (by omega) | exact disjC hw8 (by assumption) | exact disjD (fun m hm => by have := hw8 m hm; omega) | exact disj_below ht8 (by omega) | exact disjA ht8 (by omega) | exact disjB ht8 (by omega) | exact disjC ht8 (by assumption) | exact disjD (fun m hm => by have := ht8 m hm; omega) | exact disj_below hw9 (by omega) | exact disjA hw9 (by omega) | exact disjB hw9 (by omega) | exact disjC hw9 (by assumption) | exact disjD (fun m hm => by have := hw9 m hm; omega) | exact disj_below ht9 (by omega) | exact disjA ht9 (by omega) | exact disjB ht9 (by omega) | exact disjC ht9 (by assumption) | exact disjD (fun m hm => by have := ht9 m hm; omega) | exact disjN _ | exact disj1 (by omega) | exact disj2 (by omega) | exact disj3 (by assumption) | exact disjC hw8 (fun m hm => by have := ht8 m hm; omega) | exact disjC hw8 (fun m hm => by have := hw9 m hm; omega) | exact disjC hw8 (fun m hm => by have := ht9 m hm; omega) | exact disjC ht8 (fun m hm => by have := hw8 m hm; omega) | exact disjC ht8 (fun m hm => by have := hw9 m hm; omega) | exact disjC ht8 (fun m hm => by have := ht9 m hm; omega) | exact disjC hw9 (fun m hm => by have := hw8 m hm; omega) | exact disjC hw9 (fun m hm => by have := ht8 m hm; omega) | exact disjC hw9 (fun m hm => by have := ht9 m hm; omega) | exact disjC ht9 (fun m hm => by have := hw8 m hm; omega) | exact disjC ht9 (fun m hm => by have := ht8 m hm; omega) | exact disjC ht9 (fun m hm => by have := hw9 m hm; omega)))]
  have R10 : RdAt h10 s2 135 (startT b).st (eqN s5) := R10
  have b7 : h10.get s5 = some (.cells ⟨tvv (tvD (kindD b) (startT b) none none none)⟩ 60 (0, 0)) := b7
  have sst := startT_small hb
  have loop : ∀ (J : Nat → AM) (hJ : ∀ p1 p2 p3 h1 s1, From s h h1 s1 → s9 + 1 ≤ s1 → h1.get s = some (.cells ⟨tv0⟩ 60 (0, 0)) → h1.get s5 = some (.cells ⟨tvv (tvD (kindD b) (decT b) p1 p2 p3)⟩ 60 (0, 0)) → OwnT h1 (s5 + 1) (decT b) p1 p2 p3 → RdAt h1 s2 135 (decT b).st (eqN s5) → (J s1).wp pw Z h1) (B : (Nat → AM) → Nat → AM) (hB : ∀ H s', B H s' = X71_2 N (D N (d + 11)) K (ptr s9) (ptr s2) (ptr s5) J H s') (n i : Nat) (p1 p2 p3 : Option Addr) (h1 : T) (s1 : Nat) (y : ET), y = ((telT (kindD b)).take i).foldl stepT (startT b) → (telT (kindD b)).length - i < n → i ≤ (telT (kindD b)).length → From s h h1 s1 → s9 + 1 ≤ s1 → h1.get s = some (.cells ⟨tv0⟩ 60 (0, 0)) → h1.get s5 = some (.cells ⟨tvv (tvD (kindD b) y p1 p2 p3)⟩ 60 (0, 0)) → OwnT h1 (s5 + 1) y p1 p2 p3 → RdAt h1 s2 135 y.st (eqN s5) → h1.get s9 = some (.stringIter ⟨⟨telT (kindD b)⟩⟩ i) →
      (loopJ n 0 (fun _ => AM.fail) B s1).wp pw Z h1 := by
    intro J hJ B hB n
    induction n with
    | zero => intro i p1 p2 p3 h1 s1 y hy hn; omega
    | succ n ih =>
      intro i p1 p2 p3 h1 s1 y hy hn hi g1 hs1 b1 bx o1 R1 bi
      have hle := tel_le (kindD b)
      have hby := foldT_small ((telT (kindD b)).take i) sst
      rw [← hy] at hby
      have hyb := hby.1.1
      have hyl : y.st.1.length ≤ 50000 := by
        have h1 := hby.2
        have h2 : (startT b).st.1.length ≤ b.length := hb5.2
        omega
      rw [loopJ_succ, hB]
      unfold X71_2
      by_cases hlt : i < (telT (kindD b)).length
      · obtain ⟨c, hc⟩ := get_some (l := telT (kindD b)) (i := i) hlt
        have hcm := tel_mem (List.mem_of_getElem? hc)
        refine wp_next g1 hp bi (by omega) hc (by rcases hcm with rfl | rfl | rfl | rfl | rfl | rfl <;> decide) fun h2 g2 bi2 e2 => ?_
        replace b1 := (e2 s (by omega)).trans b1
        replace bx := (e2 s5 (by omega)).trans bx
        replace o1 := o1.but g1.fresh fun j h3 h4 h5 => e2 j fun he => by rw [he] at h5; exact h5 _ _ bi
        replace R1 := R1.iter bi e2
        have hnext : stepT y c = ((telT (kindD b)).take (i + 1)).foldl stepT (startT b) := by rw [foldT_next hc, ← hy]
        have hxb : ∀ n, eqN s5 n → n < s1 := fun n (hn : n = s5) => by omega
        have kp : ∀ {h3 : T} {s3 : Nat}, (∀ i, i < s1 → i ≠ s2 → h3.get i = h2.get i) → h3.get s = some (.cells ⟨tv0⟩ 60 (0, 0)) ∧ h3.get s5 = some (.cells ⟨tvv (tvD (kindD b) y p1 p2 p3)⟩ 60 (0, 0)) ∧ h3.get s9 = some (.stringIter ⟨⟨telT (kindD b)⟩⟩ (i + 1)) ∧ OwnT h3 (s5 + 1) y p1 p2 p3 := fun e3 => ⟨(e3 s (by omega) (by omega)).trans b1, (e3 s5 (by omega) (by omega)).trans bx, (e3 s9 (by omega) (by omega)).trans bi2, o1.but g2.fresh fun j h3 h4 h5 => e3 j h4 (by omega)⟩
        rcases hcm with rfl | rfl | rfl | rfl | rfl | rfl
        · try simp (disch := first | assumption | omega | (simp only [Int.ofNat_eq_natCast, neg_one]; done) | (simp only [Int.ofNat_eq_natCast, neg_one]; omega)) only [tysW, wB, mB, Nat.reduceAdd, Nat.reduceMul, List.length_cons, List.length_nil, eqc32, UInt8.reduceToNat, Nat.reduceBEq]
          refine s113A (d := d + 7) (w := 1) hN g2 hp (by omega) hyb hyl (.inl rfl) hxb R1 fun h3 s3 g3 l3 R3 e3 => ?_
          obtain ⟨b1, bx, bi2, o1⟩ := kp (s3 := s3) e3
          try simp (disch := first | assumption | omega | (simp only [Int.ofNat_eq_natCast, neg_one]; done) | (simp only [Int.ofNat_eq_natCast, neg_one]; omega)) only [tysW, wB, mB, Nat.reduceAdd, Nat.reduceMul, List.length_cons, List.length_nil]
          refine wp_putF g3 hp bx (by omega) (by simp [tvv]) rfl fun h4 g4 b4 e4 => ?_
          simp only [overL, tvv] at b4
          have o4 := o1.but g3.fresh fun j h5 h6 h7 => e4 j (by omega)
          exact ih (i + 1) p1 p2 p3 h4 s3 (stepT y 115) hnext (by omega) (by omega) g4 (by omega) ((e4 s (by omega)).trans b1) b4 ⟨o4.n, o4.x, o4.p⟩ (R3.but (by omega) e4) ((e4 s9 (by omega)).trans bi2)
        · try simp (disch := first | assumption | omega | (simp only [Int.ofNat_eq_natCast, neg_one]; done) | (simp only [Int.ofNat_eq_natCast, neg_one]; omega)) only [tysW, wB, mB, Nat.reduceAdd, Nat.reduceMul, List.length_cons, List.length_nil, eqc32, UInt8.reduceToNat, Nat.reduceBEq]
          refine s113A (d := d + 7) (w := 4) hN g2 hp (by omega) hyb hyl (.inr (.inr (.inl rfl))) hxb R1 fun h3 s3 g3 l3 R3 e3 => ?_
          obtain ⟨b1, bx, bi2, o1⟩ := kp (s3 := s3) e3
          try simp (disch := first | assumption | omega | (simp only [Int.ofNat_eq_natCast, neg_one]; done) | (simp only [Int.ofNat_eq_natCast, neg_one]; omega)) only [tysW, wB, mB, Nat.reduceAdd, Nat.reduceMul, List.length_cons, List.length_nil]
          refine wp_putF g3 hp bx (by omega) (by simp [tvv]) rfl fun h4 g4 b4 e4 => ?_
          simp only [overL, tvv] at b4
          have o4 := o1.but g3.fresh fun j h5 h6 h7 => e4 j (by omega)
          exact ih (i + 1) p1 p2 p3 h4 s3 (stepT y 113) hnext (by omega) (by omega) g4 (by omega) ((e4 s (by omega)).trans b1) b4 ⟨o4.n, o4.x, o4.p⟩ (R3.but (by omega) e4) ((e4 s9 (by omega)).trans bi2)
        · try simp (disch := first | assumption | omega | (simp only [Int.ofNat_eq_natCast, neg_one]; done) | (simp only [Int.ofNat_eq_natCast, neg_one]; omega)) only [tysW, wB, mB, Nat.reduceAdd, Nat.reduceMul, List.length_cons, List.length_nil, eqc32, UInt8.reduceToNat, Nat.reduceBEq]
          refine s113A (d := d + 7) (w := 1) hN g2 hp (by omega) hyb hyl (.inl rfl) hxb R1 fun h3 s3 g3 l3 R3 e3 => ?_
          obtain ⟨b1, bx, bi2, o1⟩ := kp (s3 := s3) e3
          try simp (disch := first | assumption | omega | (simp only [Int.ofNat_eq_natCast, neg_one]; done) | (simp only [Int.ofNat_eq_natCast, neg_one]; omega)) only [tysW, wB, mB, Nat.reduceAdd, Nat.reduceMul, List.length_cons, List.length_nil]
          refine wp_putF g3 hp bx (by omega) (by simp [tvv]) rfl fun h4 g4 b4 e4 => ?_
          simp only [overL, tvv] at b4
          have o4 := o1.but g3.fresh fun j h5 h6 h7 => e4 j (by omega)
          exact ih (i + 1) p1 p2 p3 h4 s3 (stepT y 101) hnext (by omega) (by omega) g4 (by omega) ((e4 s (by omega)).trans b1) b4 ⟨o4.n, o4.x, o4.p⟩ (R3.but (by omega) e4) ((e4 s9 (by omega)).trans bi2)
        · try simp (disch := first | assumption | omega | (simp only [Int.ofNat_eq_natCast, neg_one]; done) | (simp only [Int.ofNat_eq_natCast, neg_one]; omega)) only [tysW, wB, mB, Nat.reduceAdd, Nat.reduceMul, List.length_cons, List.length_nil, eqc32, UInt8.reduceToNat, Nat.reduceBEq]
          refine s114A (d := d + 6) hN g2 hp (by omega) hyb hyl hxb R1 fun q1 h3 s3 g3 l3 R3 oq e3 => ?_
          obtain ⟨b1, bx, bi2, o1⟩ := kp (s3 := s3) e3
          have oql := oq.lt g3.fresh
          try simp (disch := first | assumption | omega | (simp only [Int.ofNat_eq_natCast, neg_one]; done) | (simp only [Int.ofNat_eq_natCast, neg_one]; omega)) only [tysW, wB, mB, Nat.reduceAdd, Nat.reduceMul, List.length_cons, List.length_nil]
          refine wp_putF g3 hp bx (by omega) (by simp [tvv]) rfl fun h4 g4 b4 e4 => ?_
          simp only [overL, tvv] at b4
          have o4 := o1.but g3.fresh fun j h5 h6 h7 => e4 j (by omega)
          exact ih (i + 1) q1 p2 p3 h4 s3 (stepT y 110) hnext (by omega) (by omega) g4 (by omega) ((e4 s (by omega)).trans b1) b4 ⟨(oq.but fun hp => e4 _ (by have := oql hp; omega)).less (by omega), o4.x, o4.p⟩ (R3.but (by omega) e4) ((e4 s9 (by omega)).trans bi2)
        · try simp (disch := first | assumption | omega | (simp only [Int.ofNat_eq_natCast, neg_one]; done) | (simp only [Int.ofNat_eq_natCast, neg_one]; omega)) only [tysW, wB, mB, Nat.reduceAdd, Nat.reduceMul, List.length_cons, List.length_nil, eqc32, UInt8.reduceToNat, Nat.reduceBEq]
          refine s134 (d := d + 6) hN g2 hp (by omega) hyb hyl hxb R1 fun h3 s3 g3 l3 R3 e3 => ?_
          obtain ⟨b1, bx, bi2, o1⟩ := kp (s3 := s3) e3
          try simp (disch := first | assumption | omega | (simp only [Int.ofNat_eq_natCast, neg_one]; done) | (simp only [Int.ofNat_eq_natCast, neg_one]; omega)) only [tysW, wB, mB, Nat.reduceAdd, Nat.reduceMul, List.length_cons, List.length_nil]
          refine wp_putF g3 hp bx (by omega) (by simp [tvv]) rfl fun h4 g4 b4 e4 => ?_
          simp only [overL, tvv] at b4
          have o4 := o1.but g3.fresh fun j h5 h6 h7 => e4 j (by omega)
          exact ih (i + 1) p1 p2 p3 h4 s3 (stepT y 120) hnext (by omega) (by omega) g4 (by omega) ((e4 s (by omega)).trans b1) b4 ⟨o4.n, o4.x, o4.p⟩ (R3.but (by omega) e4) ((e4 s9 (by omega)).trans bi2)
        · try simp (disch := first | assumption | omega | (simp only [Int.ofNat_eq_natCast, neg_one]; done) | (simp only [Int.ofNat_eq_natCast, neg_one]; omega)) only [tysW, wB, mB, Nat.reduceAdd, Nat.reduceMul, List.length_cons, List.length_nil, eqc32, UInt8.reduceToNat, Nat.reduceBEq]
          refine s135 (d := d + 5) hN g2 hp (by omega) hyb hyl hxb R1 fun q2 q3 h3 s3 g3 l3 R3 ox op e3 => ?_
          obtain ⟨b1, bx, bi2, o1⟩ := kp (s3 := s3) e3
          have oxl := ox.lt g3.fresh
          have opl := op.lt g3.fresh
          try simp (disch := first | assumption | omega | (simp only [Int.ofNat_eq_natCast, neg_one]; done) | (simp only [Int.ofNat_eq_natCast, neg_one]; omega)) only [tysW, wB, mB, Nat.reduceAdd, Nat.reduceMul, List.length_cons, List.length_nil, bvv]
          refine wp_putF g3 hp bx (by omega) (by simp [tvv]) rfl fun h4 g4 b4 e4 => ?_
          simp only [overL, tvv] at b4
          have o4 := o1.but g3.fresh fun j h5 h6 h7 => e4 j (by omega)
          exact ih (i + 1) p1 q2 q3 h4 s3 (stepT y 98) hnext (by omega) (by omega) g4 (by omega) ((e4 s (by omega)).trans b1) b4 ⟨o4.n, (ox.but fun hp => e4 _ (by have := oxl hp; omega)).less (by omega), (op.but fun hp => e4 _ (by have := opl hp; omega)).less (by omega)⟩ (R3.but (by omega) e4) ((e4 s9 (by omega)).trans bi2)
      · obtain rfl : i = (telT (kindD b)).length := by omega
        rw [wp_last bi]
        try simp (disch := first | assumption | omega | (simp only [Int.ofNat_eq_natCast, neg_one]; done) | (simp only [Int.ofNat_eq_natCast, neg_one]; omega)) only [tysW, wB, mB, Nat.reduceAdd, Nat.reduceMul, List.length_cons, List.length_nil]
        rw [List.take_of_length_le (Nat.le_refl _)] at hy
        have hy : y = decT b := hy
        subst hy
        exact hJ p1 p2 p3 h1 s1 g1 hs1 b1 bx o1 R1
  have hle := tel_le (kindD b)
  refine loop _ (fun p1 p2 p3 h1 s1 g1 hs1 b1 bx o1 R1 => ?_) _ (fun _ _ => rfl) N 0 none none none h10 (s9 + 1) (startT b) rfl (by omega) (by omega) g10 (Nat.le_refl _) b1 b7 ⟨.nil, .nil, .nil⟩ R10 b10
  have hsm := decT_small hb
  obtain ⟨pr, lr, cr, br, slr, -⟩ := R1
  have hlr := slr.row.1
  simp only [tvv] at bx
  have bad : badG b = true → ∀ {h2 : T} {s2' : Nat}, From s h h2 s2' → (K (.tuple ⟨[.agg ⟨[i64 0, i64 0, i64 0, i64 0, .slice none 0 0, .bool false, i64 0, .slice none 0 0, .slice none 0 0, .bool false, i64 0, i64 0]⟩, i64 5]⟩) s2').wp pw Z h2 := fun hb h2 s2' g2 => hk _ _ _ g2 (by unfold GotT; rw [if_pos hb]; rfl)
  cases hst : (decT b).st.2 with
  | true =>
    rw [hst] at br
    try simp (disch := first | assumption | omega | (simp only [Int.ofNat_eq_natCast, neg_one]; done) | (simp only [Int.ofNat_eq_natCast, neg_one]; omega)) only [tysW, wB, mB, Nat.reduceAdd, Nat.reduceMul, List.length_cons, List.length_nil, ldB br, clB br, ldBL br, clBL br]
    unfold X71_1
    try simp (disch := first | assumption | omega | (simp only [Int.ofNat_eq_natCast, neg_one]; done) | (simp only [Int.ofNat_eq_natCast, neg_one]; omega)) only [tysW, wB, mB, Nat.reduceAdd, Nat.reduceMul, List.length_cons, List.length_nil]
    refine wp_putF g1 hp b1 (by omega) (by simp) rfl fun h2 g2 b2 e2 => ?_
    simp only [overL] at b2
    try simp (disch := first | assumption | omega | (simp only [Int.ofNat_eq_natCast, neg_one]; done) | (simp only [Int.ofNat_eq_natCast, neg_one]; omega)) only [tysW, wB, mB, Nat.reduceAdd, Nat.reduceMul, List.length_cons, List.length_nil, ldB b2, clB b2, ldBL b2, clBL b2]
    exact bad (by unfold badG; rw [hst]; rfl) g2
  | false =>
    rw [hst] at br
    by_cases h0 : (0 : Int) < (lr : Int)
    · try simp (disch := first | assumption | omega | (simp only [Int.ofNat_eq_natCast, neg_one]; done) | (simp only [Int.ofNat_eq_natCast, neg_one]; omega)) only [tysW, wB, mB, Nat.reduceAdd, Nat.reduceMul, List.length_cons, List.length_nil, ldB br, clB br, ldBL br, clBL br]
      unfold X71_1
      try simp (disch := first | assumption | omega | (simp only [Int.ofNat_eq_natCast, neg_one]; done) | (simp only [Int.ofNat_eq_natCast, neg_one]; omega)) only [tysW, wB, mB, Nat.reduceAdd, Nat.reduceMul, List.length_cons, List.length_nil]
      refine wp_putF g1 hp b1 (by omega) (by simp) rfl fun h2 g2 b2 e2 => ?_
      simp only [overL] at b2
      try simp (disch := first | assumption | omega | (simp only [Int.ofNat_eq_natCast, neg_one]; done) | (simp only [Int.ofNat_eq_natCast, neg_one]; omega)) only [tysW, wB, mB, Nat.reduceAdd, Nat.reduceMul, List.length_cons, List.length_nil, ldB b2, clB b2, ldBL b2, clBL b2]
      refine bad ?_ g2
      unfold badG
      have : (decT b).st.1 ≠ [] := fun e => by rw [e] at hlr; simp at hlr; omega
      rw [show (decT b).st.1.isEmpty = false by simpa using this]; simp
    · try simp (disch := first | assumption | omega | (simp only [Int.ofNat_eq_natCast, neg_one]; done) | (simp only [Int.ofNat_eq_natCast, neg_one]; omega)) only [tysW, wB, mB, Nat.reduceAdd, Nat.reduceMul, List.length_cons, List.length_nil, ldB br, clB br, ldBL br, clBL br]
      unfold X71_1
      try simp (disch := first | assumption | omega | (simp only [Int.ofNat_eq_natCast, neg_one]; done) | (simp only [Int.ofNat_eq_natCast, neg_one]; omega)) only [tysW, wB, mB, Nat.reduceAdd, Nat.reduceMul, List.length_cons, List.length_nil, ldB bx, clB bx, ldBL bx, clBL bx]
      refine ValS.go g1 hp (s36 (d := d) hN g1.fresh (tvD (kindD b) (decT b) p1 p2 p3) (pl := (decT b).b.pl) o1.p.sl.row (by have := hsm.2.2.2; show (decT b).b.pl.length ≤ 1000; omega) (by have := hsm.2.2.1; show (decT b).b.xl.length ≤ 1000; omega)) fun h2 s2' g2 c2 => ?_
      have lt1 := c2.le
      replace b1 := c2.box b1 (by omega)
      replace bx := c2.box bx (by omega)
      have o2 := o1.but g1.fresh fun j h5 h6 h7 => c2.keep j h6
      rw [badT_p _ _ _ p1 p2 p3 none none none]
      have he : (decT b).st.1 = [] := List.eq_nil_of_length_eq_zero (by omega)
      cases hbs : badT (tvD (kindD b) (decT b) none none none) (decT b).b.pl with
      | true =>
        try simp (disch := first | assumption | omega | (simp only [Int.ofNat_eq_natCast, neg_one]; done) | (simp only [Int.ofNat_eq_natCast, neg_one]; omega)) only [tysW, wB, mB, Nat.reduceAdd, Nat.reduceMul, List.length_cons, List.length_nil, if_true]
        refine wp_putF g2 hp b1 (by omega) (by simp) rfl fun h3 g3 b3 e3 => ?_
        simp only [overL] at b3
        try simp (disch := first | assumption | omega | (simp only [Int.ofNat_eq_natCast, neg_one]; done) | (simp only [Int.ofNat_eq_natCast, neg_one]; omega)) only [tysW, wB, mB, Nat.reduceAdd, Nat.reduceMul, List.length_cons, List.length_nil, ldB b3, clB b3, ldBL b3, clBL b3]
        exact bad (by unfold badG; rw [hbs]; simp) g3
      | false =>
        try simp (disch := first | assumption | omega | (simp only [Int.ofNat_eq_natCast, neg_one]; done) | (simp only [Int.ofNat_eq_natCast, neg_one]; omega)) only [tysW, wB, mB, Nat.reduceAdd, Nat.reduceMul, List.length_cons, List.length_nil, ldB bx, clB bx, ldBL bx, clBL bx, Bool.false_eq_true, if_false]
        refine wp_putF g2 hp b1 (by omega) (by simp) rfl fun h3 g3 b3 e3 => ?_
        simp only [overL] at b3
        try simp (disch := first | assumption | omega | (simp only [Int.ofNat_eq_natCast, neg_one]; done) | (simp only [Int.ofNat_eq_natCast, neg_one]; omega)) only [tysW, wB, mB, Nat.reduceAdd, Nat.reduceMul, List.length_cons, List.length_nil, ldB b3, clB b3, ldBL b3, clBL b3]
        have o3 := o2.but g2.fresh fun j h5 h6 h7 => e3 j (by omega)
        refine hk _ _ _ g3 ?_
        unfold GotT
        rw [if_neg (by unfold badG; rw [hst, he, hbs]; simp)]
        exact ⟨p1, p2, p3, rfl, o3.n.less (by omega), o3.x.less (by omega), o3.p.less (by omega)⟩
end
end Go.Ev.R
namespace Go.Ev.R
open Go Go.RowKit
theorem ex_cons {l : List Int} {n : Nat} (h : l.length = n + 1) : ∃ x l', l = x :: l' ∧ l'.length = n := by
  cases l with
  | nil => simp at h
  | cons x l => exact ⟨x, l, rfl, by simpa using h⟩
theorem fu_0 (pl : List Int) (hl : pl.length = 0) (hs : Sym 0 pl) : fill 0 (up 0 pl) = pl := by
  obtain rfl := List.eq_nil_of_length_eq_zero hl
  kernel_rfl
theorem fu_1 (pl : List Int) (hl : pl.length = 1) (hs : Sym 1 pl) : fill 1 (up 1 pl) = pl := by
  obtain ⟨x0, l0, rfl, h0⟩ := ex_cons hl
  obtain rfl := List.eq_nil_of_length_eq_zero h0
  kernel_rfl
theorem fu_2 (pl : List Int) (hl : pl.length = 4) (hs : Sym 2 pl) : fill 2 (up 2 pl) = pl := by
  obtain ⟨x0, l0, rfl, h0⟩ := ex_cons hl
  obtain ⟨x1, l1, rfl, h1⟩ := ex_cons h0
  obtain ⟨x2, l2, rfl, h2⟩ := ex_cons h1
  obtain ⟨x3, l3, rfl, h3⟩ := ex_cons h2
  obtain rfl := List.eq_nil_of_length_eq_zero h3
  obtain rfl : x2 = x1 := Option.some.inj (hs 1 (by decide) 0 (by decide))
  kernel_rfl
theorem fu_3 (pl : List Int) (hl : pl.length = 9) (hs : Sym 3 pl) : fill 3 (up 3 pl) = pl := by
  obtain ⟨x0, l0, rfl, h0⟩ := ex_cons hl
  obtain ⟨x1, l1, rfl, h1⟩ := ex_cons h0
  obtain ⟨x2, l2, rfl, h2⟩ := ex_cons h1
  obtain ⟨x3, l3, rfl, h3⟩ := ex_cons h2
  obtain ⟨x4, l4, rfl, h4⟩ := ex_cons h3
  obtain ⟨x5, l5, rfl, h5⟩ := ex_cons h4
  obtain ⟨x6, l6, rfl, h6⟩ := ex_cons h5
  obtain ⟨x7, l7, rfl, h7⟩ := ex_cons h6
  obtain ⟨x8, l8, rfl, h8⟩ := ex_cons h7
  obtain rfl := List.eq_nil_of_length_eq_zero h8
  obtain rfl : x3 = x1 := Option.some.inj (hs 1 (by decide) 0 (by decide))
  obtain rfl : x6 = x2 := Option.some.inj (hs 2 (by decide) 0 (by decide))
  obtain rfl : x7 = x5 := Option.some.inj (hs 2 (by decide) 1 (by decide))
  kernel_rfl
theorem fu_4 (pl : List Int) (hl : pl.length = 16) (hs : Sym 4 pl) : fill 4 (up 4 pl) = pl := by
  obtain ⟨x0, l0, rfl, h0⟩ := ex_cons hl
  obtain ⟨x1, l1, rfl, h1⟩ := ex_cons h0
  obtain ⟨x2, l2, rfl, h2⟩ := ex_cons h1
  obtain ⟨x3, l3, rfl, h3⟩ := ex_cons h2
  obtain ⟨x4, l4, rfl, h4⟩ := ex_cons h3
  obtain ⟨x5, l5, rfl, h5⟩ := ex_cons h4
  obtain ⟨x6, l6, rfl, h6⟩ := ex_cons h5
  obtain ⟨x7, l7, rfl, h7⟩ := ex_cons h6
  obtain ⟨x8, l8, rfl, h8⟩ := ex_cons h7
  obtain ⟨x9, l9, rfl, h9⟩ := ex_cons h8
  obtain ⟨x10, l10, rfl, h10⟩ := ex_cons h9
  obtain ⟨x11, l11, rfl, h11⟩ := ex_cons h10
  obtain ⟨x12, l12, rfl, h12⟩ := ex_cons h11
  obtain ⟨x13, l13, rfl, h13⟩ := ex_cons h12
  obtain ⟨x14, l14, rfl, h14⟩ := ex_cons h13
  obtain ⟨x15, l15, rfl, h15⟩ := ex_cons h14
  obtain rfl := List.eq_nil_of_length_eq_zero h15
  obtain rfl : x4 = x1 := Option.some.inj (hs 1 (by decide) 0 (by decide))
  obtain rfl : x8 = x2 := Option.some.inj (hs 2 (by decide) 0 (by decide))
  obtain rfl : x12 = x3 := Option.some.inj (hs 3 (by decide) 0 (by decide))
  obtain rfl : x9 = x6 := Option.some.inj (hs 2 (by decide) 1 (by decide))
  obtain rfl : x13 = x7 := Option.some.inj (hs 3 (by decide) 1 (by decide))
  obtain rfl : x14 = x11 := Option.some.inj (hs 3 (by decide) 2 (by decide))
  kernel_rfl
theorem fu_5 (pl : List Int) (hl : pl.length = 25) (hs : Sym 5 pl) : fill 5 (up 5 pl) = pl := by
  obtain ⟨x0, l0, rfl, h0⟩ := ex_cons hl
  obtain ⟨x1, l1, rfl, h1⟩ := ex_cons h0
  obtain ⟨x2, l2, rfl, h2⟩ := ex_cons h1
  obtain ⟨x3, l3, rfl, h3⟩ := ex_cons h2
  obtain ⟨x4, l4, rfl, h4⟩ := ex_cons h3
  obtain ⟨x5, l5, rfl, h5⟩ := ex_cons h4
  obtain ⟨x6, l6, rfl, h6⟩ := ex_cons h5
  obtain ⟨x7, l7, rfl, h7⟩ := ex_cons h6
  obtain ⟨x8, l8, rfl, h8⟩ := ex_cons h7
  obtain ⟨x9, l9, rfl, h9⟩ := ex_cons h8
  obtain ⟨x10, l10, rfl, h10⟩ := ex_cons h9
  obtain ⟨x11, l11, rfl, h11⟩ := ex_cons h10
  obtain ⟨x12, l12, rfl, h12⟩ := ex_cons h11
  obtain ⟨x13, l13, rfl, h13⟩ := ex_cons h12
  obtain ⟨x14, l14, rfl, h14⟩ := ex_cons h13
  obtain ⟨x15, l15, rfl, h15⟩ := ex_cons h14
  obtain ⟨x16, l16, rfl, h16⟩ := ex_cons h15
  obtain ⟨x17, l17, rfl, h17⟩ := ex_cons h16
  obtain ⟨x18, l18, rfl, h18⟩ := ex_cons h17
  obtain ⟨x19, l19, rfl, h19⟩ := ex_cons h18
  obtain ⟨x20, l20, rfl, h20⟩ := ex_cons h19
  obtain ⟨x21, l21, rfl, h21⟩ := ex_cons h20
  obtain ⟨x22, l22, rfl, h22⟩ := ex_cons h21
  obtain ⟨x23, l23, rfl, h23⟩ := ex_cons h22
  obtain ⟨x24, l24, rfl, h24⟩ := ex_cons h23
  obtain rfl := List.eq_nil_of_length_eq_zero h24
  obtain rfl : x5 = x1 := Option.some.inj (hs 1 (by decide) 0 (by decide))
  obtain rfl : x10 = x2 := Option.some.inj (hs 2 (by decide) 0 (by decide))
  obtain rfl : x15 = x3 := Option.some.inj (hs 3 (by decide) 0 (by decide))
  obtain rfl : x20 = x4 := Option.some.inj (hs 4 (by decide) 0 (by decide))
  obtain rfl : x11 = x7 := Option.some.inj (hs 2 (by decide) 1 (by decide))
  obtain rfl : x16 = x8 := Option.some.inj (hs 3 (by decide) 1 (by decide))
  obtain rfl : x21 = x9 := Option.some.inj (hs 4 (by decide) 1 (by decide))
  obtain rfl : x17 = x13 := Option.some.inj (hs 3 (by decide) 2 (by decide))
  obtain rfl : x22 = x14 := Option.some.inj (hs 4 (by decide) 2 (by decide))
  obtain rfl : x23 = x19 := Option.some.inj (hs 4 (by decide) 3 (by decide))
  kernel_rfl
theorem fu_6 (pl : List Int) (hl : pl.length = 36) (hs : Sym 6 pl) : fill 6 (up 6 pl) = pl := by
  obtain ⟨x0, l0, rfl, h0⟩ := ex_cons hl
  obtain ⟨x1, l1, rfl, h1⟩ := ex_cons h0
  obtain ⟨x2, l2, rfl, h2⟩ := ex_cons h1
  obtain ⟨x3, l3, rfl, h3⟩ := ex_cons h2
  obtain ⟨x4, l4, rfl, h4⟩ := ex_cons h3
  obtain ⟨x5, l5, rfl, h5⟩ := ex_cons h4
  obtain ⟨x6, l6, rfl, h6⟩ := ex_cons h5
  obtain ⟨x7, l7, rfl, h7⟩ := ex_cons h6
  obtain ⟨x8, l8, rfl, h8⟩ := ex_cons h7
  obtain ⟨x9, l9, rfl, h9⟩ := ex_cons h8
  obtain ⟨x10, l10, rfl, h10⟩ := ex_cons h9
  obtain ⟨x11, l11, rfl, h11⟩ := ex_cons h10
  obtain ⟨x12, l12, rfl, h12⟩ := ex_cons h11
  obtain ⟨x13, l13, rfl, h13⟩ := ex_cons h12
  obtain ⟨x14, l14, rfl, h14⟩ := ex_cons h13
  obtain ⟨x15, l15, rfl, h15⟩ := ex_cons h14
  obtain ⟨x16, l16, rfl, h16⟩ := ex_cons h15
  obtain ⟨x17, l17, rfl, h17⟩ := ex_cons h16
  obtain ⟨x18, l18, rfl, h18⟩ := ex_cons h17
  obtain ⟨x19, l19, rfl, h19⟩ := ex_cons h18
  obtain ⟨x20, l20, rfl, h20⟩ := ex_cons h19
  obtain ⟨x21, l21, rfl, h21⟩ := ex_cons h20
  obtain ⟨x22, l22, rfl, h22⟩ := ex_cons h21
  obtain ⟨x23, l23, rfl, h23⟩ := ex_cons h22
  obtain ⟨x24, l24, rfl, h24⟩ := ex_cons h23
  obtain ⟨x25, l25, rfl, h25⟩ := ex_cons h24
  obtain ⟨x26, l26, rfl, h26⟩ := ex_cons h25
  obtain ⟨x27, l27, rfl, h27⟩ := ex_cons h26
  obtain ⟨x28, l28, rfl, h28⟩ := ex_cons h27
  obtain ⟨x29, l29, rfl, h29⟩ := ex_cons h28
  obtain ⟨x30, l30, rfl, h30⟩ := ex_cons h29
  obtain ⟨x31, l31, rfl, h31⟩ := ex_cons h30
  obtain ⟨x32, l32, rfl, h32⟩ := ex_cons h31
  obtain ⟨x33, l33, rfl, h33⟩ := ex_cons h32
  obtain ⟨x34, l34, rfl, h34⟩ := ex_cons h33
  obtain ⟨x35, l35, rfl, h35⟩ := ex_cons h34
  obtain rfl := List.eq_nil_of_length_eq_zero h35
  obtain rfl : x6 = x1 := Option.some.inj (hs 1 (by decide) 0 (by decide))
  obtain rfl : x12 = x2 := Option.some.inj (hs 2 (by decide) 0 (by decide))
  obtain rfl : x18 = x3 := Option.some.inj (hs 3 (by decide) 0 (by decide))
  obtain rfl : x24 = x4 := Option.some.inj (hs 4 (by decide) 0 (by decide))
  obtain rfl : x30 = x5 := Option.some.inj (hs 5 (by decide) 0 (by decide))
  obtain rfl : x13 = x8 := Option.some.inj (hs 2 (by decide) 1 (by decide))
  obtain rfl : x19 = x9 := Option.some.inj (hs 3 (by decide) 1 (by decide))
  obtain rfl : x25 = x10 := Option.some.inj (hs 4 (by decide) 1 (by decide))
  obtain rfl : x31 = x11 := Option.some.inj (hs 5 (by decide) 1 (by decide))
  obtain rfl : x20 = x15 := Option.some.inj (hs 3 (by decide) 2 (by decide))
  obtain rfl : x26 = x16 := Option.some.inj (hs 4 (by decide) 2 (by decide))
  obtain rfl : x32 = x17 := Option.some.inj (hs 5 (by decide) 2 (by decide))
  obtain rfl : x27 = x22 := Option.some.inj (hs 4 (by decide) 3 (by decide))
  obtain rfl : x33 = x23 := Option.some.inj (hs 5 (by decide) 3 (by decide))
  obtain rfl : x34 = x29 := Option.some.inj (hs 5 (by decide) 4 (by decide))
  kernel_rfl
theorem fill_up {n : Nat} (h : n ≤ 6) {pl : List Int} (hl : pl.length = n * n) (hs : Sym n pl) : fill n (up n pl) = pl := by
  have : n = 0 ∨ n = 1 ∨ n = 2 ∨ n = 3 ∨ n = 4 ∨ n = 5 ∨ n = 6 := by omega
  rcases this with rfl | rfl | rfl | rfl | rfl | rfl | rfl
  · exact fu_0 pl hl hs
  · exact fu_1 pl hl hs
  · exact fu_2 pl hl hs
  · exact fu_3 pl hl hs
  · exact fu_4 pl hl hs
  · exact fu_5 pl hl hs
  · exact fu_6 pl hl hs
theorem upM_mem {n : Nat} {pl : List Int} {y : Int} : ∀ i, y ∈ upM n pl i → y ∈ pl
  | 0, h => by cases h
  | i + 1, h => by
    rcases List.mem_append.1 h with h | h
    · exact upM_mem i h
    · exact List.mem_of_mem_drop (List.mem_of_mem_take h)
theorem truthR_bit (b : Bool) (r : List Int) : truthR (be 1 (bit b) ++ r, false) = (b, (r, false)) := by
  have e := oneR_be (w := 1) (.inl rfl) (bit_fits b) (show In64 (bit b) by cases b <;> (unfold bit In64; simp)) r
  unfold truthR
  rw [e]
  cases b <;> simp [bit]
/-- A telling's numbers. -/
structure Nums (x : TV) (nl xl pl : List Int) : Prop where
  n : nl.length = x.nn
  y : xl.length = x.b.xn
  p : pl.length = x.b.pn
  time : In64 x.b.time
  pass : In64 x.b.pass
  fail : In64 x.b.fail
  ns : ∀ z ∈ nl, In64 z
  xs : ∀ z ∈ xl, In64 z
  ps : ∀ z ∈ pl, In64 z
def bdT (x : TV) (xl pl : List Int) : BD := ⟨x.b.time, xl, pl, x.b.flag, x.b.pass, x.b.fail⟩
theorem belP_belB {x : TV} {nl xl pl : List Int} (hb : badT x pl = false) (H : Nums x nl xl pl) (r : List Int) : belP (belB x.b xl pl ++ r, false) = (bdT x xl pl, (r, false)) := by
  obtain ⟨⟨q1, q2, q3, q4, q5, q6⟩, -⟩ := badT_fine hb
  obtain ⟨q7, q8, q9⟩ := held_iff.1 q6
  have hpl : pl.length = x.b.xn * x.b.xn := by rw [H.p, q8]
  have hul := up_tri q7 hpl
  have htr := tri_le x.b.xn
  obtain ⟨z, hz⟩ : ∃ z : RS, z = (belB x.b xl pl ++ r, false) := ⟨_, rfl⟩
  rw [← hz]
  have w8 : isW 8 := .inr (.inr (.inr rfl))
  have f8 : ∀ n : Int, fitsW 8 n = true := fun n => by simp [fitsW]
  have e1 : m1 z = (x.b.time, (be 1 (bit x.b.flag) ++ (be 8 x.b.pass ++ (be 8 x.b.fail ++ (lis xl ++ (lis (up x.b.xn pl) ++ r)))), false)) := by
    unfold m1
    rw [hz]
    unfold belB
    simp only [List.append_assoc]
    exact oneR_be w8 (f8 _) H.time _
  have e2 : m2 z = (x.b.flag, (be 8 x.b.pass ++ (be 8 x.b.fail ++ (lis xl ++ (lis (up x.b.xn pl) ++ r))), false)) := by
    unfold m2
    rw [e1]
    exact truthR_bit _ _
  have e3 : m3 z = (x.b.pass, (be 8 x.b.fail ++ (lis xl ++ (lis (up x.b.xn pl) ++ r)), false)) := by
    unfold m3
    rw [e2]
    exact oneR_be w8 (f8 _) H.pass _
  have e4 : m4 z = (x.b.fail, (lis xl ++ (lis (up x.b.xn pl) ++ r), false)) := by
    unfold m4
    rw [e3]
    exact oneR_be w8 (f8 _) H.fail _
  have e5 : m5 z = (xl, (lis (up x.b.xn pl) ++ r, false)) := by
    unfold m5
    rw [e4]
    exact listR_lis (by rw [H.y]; omega) H.xs _
  have e6 : m6 z = (up x.b.xn pl, (r, false)) := by
    unfold m6
    rw [e5]
    exact listR_lis (l := up x.b.xn pl) (by rw [hul]; omega) (fun y hy => H.ps y (upM_mem _ hy)) _
  unfold belP belD
  rw [e1, e2, e3, e4, e5, e6]
  have hw : wrongR xl.length (up x.b.xn pl).length = false := by
    unfold wrongR
    rw [H.y, decide_eq_false (by omega), decide_eq_true (by rw [hul, tri_triR q7, triR_eq q7])]; rfl
  dsimp only
  rw [hw, if_neg (by simp), H.y, fill_up q7 hpl q9]
  rfl
theorem step_encT {x : TV} {nl xl pl : List Int} (hb : badT x pl = false) (H : Nums x nl xl pl) (r : List Int) {y : ET} {c : UInt8} (hc : c = 115 ∨ c = 113 ∨ c = 101 ∨ c = 110 ∨ c = 120 ∨ c = 98) (hy : y.st = (letP x nl xl pl c ++ r, false)) : stepT y c = ⟨if c = 115 then x.sen else y.sen, if c = 113 then x.seq else y.seq, if c = 101 then x.err else y.err, if c = 110 then nl else y.nl, if c = 120 then x.ex else y.ex, if c = 98 then bdT x xl pl else y.b, (r, false)⟩ := by
  obtain ⟨⟨q1, q2, q3, q4, q5, q6⟩, -⟩ := badT_fine hb
  rcases hc with rfl | rfl | rfl | rfl | rfl | rfl
  · have e : oneR 1 y.st = (x.sen, (r, false)) := by
      rw [hy]
      exact oneR_be (.inl rfl) (by simp [fitsW]; omega) ⟨by omega, by omega⟩ r
    unfold stepT
    rw [if_pos rfl, e]
    simp
  · have e : oneR 4 y.st = (x.seq, (r, false)) := by
      rw [hy]
      exact oneR_be (.inr (.inr (.inl rfl))) (by simp [fitsW]; omega) ⟨by omega, by omega⟩ r
    unfold stepT
    rw [if_neg (by decide), if_pos rfl, e]
    simp
  · have e : oneR 1 y.st = (x.err, (r, false)) := by
      rw [hy]
      exact oneR_be (.inl rfl) (by simp [fitsW]; omega) ⟨by omega, by omega⟩ r
    unfold stepT
    rw [if_neg (by decide), if_neg (by decide), if_pos rfl, e]
    simp
  · have e : listR y.st = (nl, (r, false)) := by
      rw [hy]
      exact listR_lis (by rw [H.n]; omega) H.ns r
    unfold stepT
    rw [if_neg (by decide), if_neg (by decide), if_neg (by decide), if_pos rfl, e]
    simp
  · have e : truthR y.st = (x.ex, (r, false)) := by
      rw [hy]
      exact truthR_bit _ _
    unfold stepT
    rw [if_neg (by decide), if_neg (by decide), if_neg (by decide), if_neg (by decide), if_pos rfl, e]
    simp
  · have e : belP y.st = (bdT x xl pl, (r, false)) := by
      rw [hy]
      exact belP_belB hb H r
    unfold stepT
    rw [if_neg (by decide), if_neg (by decide), if_neg (by decide), if_neg (by decide), if_neg (by decide), e]
    simp
theorem fold_encT {x : TV} {nl xl pl : List Int} (hb : badT x pl = false) (H : Nums x nl xl pl) (r : List Int) : ∀ (L : List UInt8) (y : ET), (∀ c ∈ L, c = 115 ∨ c = 113 ∨ c = 101 ∨ c = 110 ∨ c = 120 ∨ c = 98) → y.st = (L.flatMap (letP x nl xl pl) ++ r, false) →
    L.foldl stepT y = ⟨if 115 ∈ L then x.sen else y.sen, if 113 ∈ L then x.seq else y.seq, if 101 ∈ L then x.err else y.err, if 110 ∈ L then nl else y.nl, if 120 ∈ L then x.ex else y.ex, if 98 ∈ L then bdT x xl pl else y.b, (r, false)⟩
  | [], y, _, hy => by
    obtain ⟨a, b, c, d, e, f, g⟩ := y
    simp at hy
    simp [hy]
  | c :: L, y, hc, hy => by
    rw [List.flatMap_cons, List.append_assoc] at hy
    have h1 := step_encT hb H _ (hc c (by simp)) hy
    rw [List.foldl_cons, fold_encT hb H r L (stepT y c) (fun z hz => hc z (by simp [hz])) (by rw [h1]), h1]
    simp only [List.mem_cons]
    congr 1
    · by_cases h : 115 ∈ L <;> by_cases h2 : c = 115 <;> simp [h, h2, eq_comm]
    · by_cases h : 113 ∈ L <;> by_cases h2 : c = 113 <;> simp [h, h2, eq_comm]
    · by_cases h : 101 ∈ L <;> by_cases h2 : c = 101 <;> simp [h, h2, eq_comm]
    · by_cases h : 110 ∈ L <;> by_cases h2 : c = 110 <;> simp [h, h2, eq_comm]
    · by_cases h : 120 ∈ L <;> by_cases h2 : c = 120 <;> simp [h, h2, eq_comm]
    · by_cases h : 98 ∈ L <;> by_cases h2 : c = 98 <;> simp [h, h2, eq_comm]
theorem tel_not {k : Int} (hk : 1 ≤ k ∧ k ≤ 6) : (115 ∉ telT k → k = 5 ∨ k = 6) ∧ (113 ∉ telT k → k = 1) ∧ (101 ∈ telT k) ∧ (110 ∉ telT k → k = 1 ∨ k = 5) ∧ (120 ∉ telT k → ¬ k = 5) ∧ (98 ∉ telT k → ¬ k = 5) := by
  rcases kinds6 hk with rfl | rfl | rfl | rfl | rfl | rfl <;> simp [telT]
/-- What is told is got as it was. -/
theorem dec_encT {x : TV} {nl xl pl : List Int} (hb : badT x pl = false) (H : Nums x nl xl pl) (r : List Int) : kindD (encT x nl xl pl ++ r) = x.kind ∧ decT (encT x nl xl pl ++ r) = ⟨x.sen, x.seq, x.err, nl, x.ex, bdT x xl pl, (r, false)⟩ := by
  obtain ⟨⟨q1, q2, q3, q4, q5, q6⟩, hL⟩ := badT_fine hb
  have e : encT x nl xl pl ++ r = be 1 x.kind ++ ((telT x.kind).flatMap (letP x nl xl pl) ++ r) := by unfold encT; rw [List.append_assoc]
  have h1 := oneR_be (w := 1) (.inl rfl) (n := x.kind) (by simp [fitsW]; omega) ⟨by omega, by omega⟩ ((telT x.kind).flatMap (letP x nl xl pl) ++ r)
  rw [← e] at h1
  have hk : kindD (encT x nl xl pl ++ r) = x.kind := by unfold kindD; rw [h1]
  have hs : startT (encT x nl xl pl ++ r) = ⟨0, 0, 0, [], false, bd0, ((telT x.kind).flatMap (letP x nl xl pl) ++ r, false)⟩ := by unfold startT; rw [h1]
  refine ⟨hk, ?_⟩
  unfold decT
  rw [hk, hs, fold_encT hb H r _ _ (fun c hc => tel_mem hc) rfl]
  obtain ⟨n1, n2, n3, n4, n5, n6⟩ := tel_not q1
  have m1 : (if 115 ∈ telT x.kind then x.sen else 0) = x.sen := by
    split
    · rfl
    · rename_i h; exact (Classical.byContradiction fun hz => hL (.inl ⟨fun e => hz e.symm, n1 h⟩))
  have m2 : (if 113 ∈ telT x.kind then x.seq else 0) = x.seq := by
    split
    · rfl
    · rename_i h; exact (Classical.byContradiction fun hz => hL (.inr (.inl ⟨fun e => hz e.symm, n2 h⟩)))
  have m4 : (if 110 ∈ telT x.kind then nl else []) = nl := by
    split
    · rfl
    · rename_i h
      have h0 : x.nn = 0 := Classical.byContradiction fun hz => hL (.inr (.inr (.inl ⟨hz, n4 h⟩)))
      exact (List.eq_nil_of_length_eq_zero (by rw [H.n, h0])).symm
  have m5 : (if 120 ∈ telT x.kind then x.ex else false) = x.ex := by
    split
    · rfl
    · rename_i h
      cases hx : x.ex with
      | false => rfl
      | true => exact absurd (.inr (.inr (.inr (.inl ⟨hx, n5 h⟩)))) hL
  have m6 : (if 98 ∈ telT x.kind then bdT x xl pl else bd0) = bdT x xl pl := by
    split
    · rfl
    · rename_i h
      cases hx : empB x.b with
      | false => exact absurd (.inr (.inr (.inr (.inr ⟨hx, n6 h⟩)))) hL
      | true =>
        obtain ⟨a, b, c, d, e, f⟩ := of_decide_eq_true hx
        have hx0 := List.eq_nil_of_length_eq_zero (H.y.trans b)
        have hp0 := List.eq_nil_of_length_eq_zero (H.p.trans c)
        unfold bdT bd0
        rw [a, hx0, hp0, d, e, f]
  dsimp only
  rw [m1, m2, if_pos n3, m4, m5, m6]
/-- The bytes tell the telling. -/
theorem enc_injT {x y : TV} {nl xl pl nl' xl' pl' : List Int} (hb : badT x pl = false) (H : Nums x nl xl pl) (hb' : badT y pl' = false) (H' : Nums y nl' xl' pl') {r : List Int} (h : encT x nl xl pl = encT y nl' xl' pl' ++ r) : r = [] ∧ sameT x y nl xl pl nl' xl' pl' = true := by
  obtain ⟨h1, h2⟩ := dec_encT hb H []
  obtain ⟨h3, h4⟩ := dec_encT hb' H' r
  rw [List.append_nil] at h1 h2
  rw [h] at h1 h2
  rw [h1] at h3
  rw [h2] at h4
  simp only [ET.mk.injEq, Prod.mk.injEq, bdT, BD.mk.injEq] at h4
  obtain ⟨a, b, c, e, f, ⟨i, j, k, l, m, n⟩, o, -⟩ := h4
  refine ⟨o.symm, ?_⟩
  unfold sameT sameB
  exact decide_eq_true ⟨h3, a, b, c, e, f, decide_eq_true ⟨i, j, k, l, m, n⟩⟩
end Go.Ev.R
namespace Go.Ev.R
open Go Go.RowKit
theorem numI_in (l : List Int) : In64 (numI l) := by unfold numI wrap64 In64; omega
theorem be_wrap (v : Int) {w : Nat} (hw : isW w) : be w (wrap64 v) = be w v := by
  have h : ∀ j, j < 8 → byteN (wrap64 v) j = byteN v j := by
    intro j hj
    rw [← byte_u64 (wrap64 v) j hj, ← byte_u64 v j hj]
    have e : wrap64 v % 18446744073709551616 = v % 18446744073709551616 := by unfold wrap64; omega
    rw [e]
  rcases hw with rfl | rfl | rfl | rfl <;> simp [be, h]
theorem be_numI {l : List Int} {w : Nat} (hw : isW w) (hl : l.length = w) (hb : allBytes l) : be w (numI l) = l := by
  unfold numI
  rw [be_wrap _ hw, be_bts, ← hl, bts_val l hb]
/-- What a number was taken of. -/
theorem oneR_inv {w : Nat} (hw : isW w) {x : RS} (hb : allBytes x.1) (h : (oneR w x).2.2 = false) : x.2 = false ∧ x.1 = be w (oneR w x).1 ++ (oneR w x).2.1 ∧ In64 (oneR w x).1 := by
  obtain ⟨b, f⟩ := x
  by_cases hc : w * 1 ≤ b.length
  · have ht : takeT w 1 b = some ([numI (b.take w)], b.drop w) := by
      unfold takeT
      rw [if_pos hc, nums_cons, Nat.mul_one]; rfl
    cases f with
    | true =>
      have e : oneR w (b, true) = (0, (b, true)) := by unfold oneR; rw [ht]; rfl
      rw [e] at h; cases h
    | false =>
      have e : oneR w (b, false) = (numI (b.take w), (b.drop w, false)) := by unfold oneR; rw [ht]; rfl
      rw [e]
      refine ⟨rfl, ?_, numI_in _⟩
      show b = be w (numI (b.take w)) ++ b.drop w
      have hl : (b.take w).length = w := by rw [List.length_take]; omega
      rw [be_numI hw hl (allBytes_take hb _), List.take_append_drop]
  · have ht : takeT w 1 b = none := by unfold takeT; rw [if_neg hc]
    have e : oneR w (b, f) = (0, (b, true)) := by unfold oneR; rw [ht]
    rw [e] at h; cases h
theorem nums_inv : ∀ (k : Nat) (b : List Int), allBytes b → 8 * k ≤ b.length → bys 8 (nums 8 k b) = b.take (8 * k)
  | 0, b, _, _ => by simp [nums, bys]
  | k + 1, b, hb, hl => by
    rw [nums_cons]
    have ih := nums_inv k (b.drop 8) (allBytes_drop hb _) (by rw [List.length_drop]; omega)
    unfold bys at ih ⊢
    rw [List.flatMap_cons, ih, be_numI (.inr (.inr (.inr rfl))) (by rw [List.length_take]; omega) (allBytes_take hb _)]
    rw [show 8 * (k + 1) = 8 + 8 * k by omega, List.take_add]
theorem listR_inv {x : RS} (hb : allBytes x.1) (h : (listR x).2.2 = false) : x.2 = false ∧ x.1 = lis (listR x).1 ++ (listR x).2.1 ∧ (∀ z ∈ (listR x).1, In64 z) ∧ (listR x).1.length ≤ 24 := by
  obtain ⟨b, f⟩ := x
  cases b with
  | nil =>
    have e : listR ([], f) = ([], ([], true)) := rfl
    rw [e] at h; cases h
  | cons y b =>
    have hy := hb y (by simp)
    have hb' : allBytes b := fun z hz => hb z (by simp [hz])
    obtain ⟨k, rfl⟩ : ∃ k : Nat, y = (k : Int) := ⟨y.toNat, by have := hy.1; omega⟩
    by_cases h24 : (24 : Int) < (k : Int)
    · have e : listR ((k : Int) :: b, f) = ([], ((k : Int) :: b, true)) := by unfold listR; rw [listT_big h24]
      rw [e] at h; cases h
    · by_cases hc : 8 * k ≤ b.length
      · have ht : listT ((k : Int) :: b) = some (nums 8 k b, b.drop (8 * k)) := by
          rw [listT_ok h24]; unfold takeT; rw [if_pos hc]
        cases f with
        | true =>
          have e : listR ((k : Int) :: b, true) = ([], ((k : Int) :: b, true)) := by unfold listR; rw [ht]; rfl
          rw [e] at h; cases h
        | false =>
          have e : listR ((k : Int) :: b, false) = (nums 8 k b, (b.drop (8 * k), false)) := by unfold listR; rw [ht]; rfl
          rw [e]
          refine ⟨rfl, ?_, fun z hz => ?_, by rw [nums_len]; omega⟩
          · show (k : Int) :: b = lis (nums 8 k b) ++ b.drop (8 * k)
            unfold lis
            rw [nums_len, nums_inv k b hb' hc, List.append_assoc, List.take_append_drop]
            have : bys 1 [(k : Int)] = [(k : Int)] := by simp [bys, be, byteN]; omega
            rw [this]; rfl
          · obtain ⟨i, -, rfl⟩ := List.mem_map.1 hz
            exact numI_in _
      · have ht : listT ((k : Int) :: b) = none := by rw [listT_ok h24]; unfold takeT; rw [if_neg hc]
        have e : listR ((k : Int) :: b, f) = ([], ((k : Int) :: b, true)) := by unfold listR; rw [ht]
        rw [e] at h; cases h
theorem byte_of_one {x : RS} (hb : allBytes x.1) (h : (oneR 1 x).2.2 = false) : 0 ≤ (oneR 1 x).1 := by
  obtain ⟨b, f⟩ := x
  by_cases hc : 1 * 1 ≤ b.length
  · have ht : takeT 1 1 b = some ([numI (b.take 1)], b.drop 1) := by
      unfold takeT
      rw [if_pos hc, nums_cons, Nat.mul_one]; rfl
    cases f with
    | true =>
      have e : oneR 1 (b, true) = (0, (b, true)) := by unfold oneR; rw [ht]; rfl
      rw [e] at h; cases h
    | false =>
      have e : oneR 1 (b, false) = (numI (b.take 1), (b.drop 1, false)) := by unfold oneR; rw [ht]; rfl
      rw [e]
      cases b with
      | nil => simp at hc
      | cons y b =>
        show 0 ≤ numI [y]
        have hy := hb y (by simp)
        rw [numI_one hy]; exact hy.1
  · have ht : takeT 1 1 b = none := by unfold takeT; rw [if_neg hc]
    have e : oneR 1 (b, f) = (0, (b, true)) := by unfold oneR; rw [ht]
    rw [e] at h; cases h
theorem truthR_inv {x : RS} (hb : allBytes x.1) (h : (truthR x).2.2 = false) : x.2 = false ∧ x.1 = be 1 (bit (truthR x).1) ++ (truthR x).2.1 := by
  have h1 : (oneR 1 x).2.2 = false ∧ ¬ 1 < (oneR 1 x).1 := by
    unfold truthR at h
    simp at h
    exact ⟨h.1, by omega⟩
  obtain ⟨a, b, -⟩ := oneR_inv (.inl rfl) hb h1.1
  have c := byte_of_one hb h1.1
  refine ⟨a, ?_⟩
  have e : bit (truthR x).1 = (oneR 1 x).1 := by
    unfold truthR bit
    by_cases h2 : (oneR 1 x).1 = 1
    · rw [h2]; rfl
    · have : (oneR 1 x).1 = 0 := by omega
      rw [this]; rfl
  rw [e]; exact b
/-! ### sayings -/
def svN (y : DS) : SV := ⟨0, y.sen, y.seq, y.time, none, 0, 0⟩
theorem fold_inv : ∀ (L : List UInt8) (y : DS), L.Nodup → (∀ c ∈ L, c = 115 ∨ c = 113 ∨ c = 116 ∨ c = 100) → allBytes y.st.1 → (L.foldl stepD y).st.2 = false → y.st.2 = false ∧ y.st.1 = L.flatMap (letB (svN (L.foldl stepD y)) (L.foldl stepD y).dat) ++ (L.foldl stepD y).st.1 ∧ (115 ∉ L → (L.foldl stepD y).sen = y.sen) ∧ (113 ∉ L → (L.foldl stepD y).seq = y.seq) ∧ (116 ∉ L → (L.foldl stepD y).time = y.time) ∧ (100 ∉ L → (L.foldl stepD y).dat = y.dat) ∧ (In64 y.time → (∀ z ∈ y.dat, In64 z) → In64 (L.foldl stepD y).time ∧ ∀ z ∈ (L.foldl stepD y).dat, In64 z)
  | [], y, _, _, _, h => ⟨h, by simp, fun _ => rfl, fun _ => rfl, fun _ => rfl, fun _ => rfl, fun a b => ⟨a, b⟩⟩
  | c :: L, y, hn, hc, hb, h => by
    rw [List.nodup_cons] at hn
    rw [List.foldl_cons] at h ⊢
    have hb' := (stepD_bytes (c := c) hb).1
    obtain ⟨i1, i2, i3, i4, i5, i6, i7⟩ := fold_inv L (stepD y c) hn.2 (fun z hz => hc z (by simp [hz])) hb' h
    rw [List.flatMap_cons, List.append_assoc, ← i2]
    rcases hc c (by simp) with rfl | rfl | rfl | rfl
    · have e : stepD y 115 = { y with sen := (oneR 1 y.st).1, st := (oneR 1 y.st).2 } := by unfold stepD; rw [if_pos rfl]
      have hs := i3 hn.1
      rw [e] at i1 hs i4 i5 i6 i7 ⊢
      obtain ⟨a, b, -⟩ := oneR_inv (.inl rfl) hb i1
      refine ⟨a, ?_, fun h => absurd (by simp) h, fun h => i4 fun h2 => h (by simp [h2]), fun h => i5 fun h2 => h (by simp [h2]), fun h => i6 fun h2 => h (by simp [h2]), i7⟩
      unfold letB svN
      rw [if_pos rfl, hs]; exact b
    · have e : stepD y 113 = { y with seq := (oneR 4 y.st).1, st := (oneR 4 y.st).2 } := by unfold stepD; rw [if_neg (by decide), if_pos rfl]
      have hs := i4 hn.1
      rw [e] at i1 hs i3 i5 i6 i7 ⊢
      obtain ⟨a, b, -⟩ := oneR_inv (.inr (.inr (.inl rfl))) hb i1
      refine ⟨a, ?_, fun h => i3 fun h2 => h (by simp [h2]), fun h => absurd (by simp) h, fun h => i5 fun h2 => h (by simp [h2]), fun h => i6 fun h2 => h (by simp [h2]), i7⟩
      unfold letB svN
      rw [if_neg (by decide), if_pos rfl, hs]; exact b
    · have e : stepD y 116 = { y with time := (oneR 8 y.st).1, st := (oneR 8 y.st).2 } := by unfold stepD; rw [if_neg (by decide), if_neg (by decide), if_pos rfl]
      have hs := i5 hn.1
      rw [e] at i1 hs i3 i4 i6 i7 ⊢
      obtain ⟨a, b, w⟩ := oneR_inv (.inr (.inr (.inr rfl))) hb i1
      refine ⟨a, ?_, fun h => i3 fun h2 => h (by simp [h2]), fun h => i4 fun h2 => h (by simp [h2]), fun h => absurd (by simp) h, fun h => i6 fun h2 => h (by simp [h2]), fun _ q => i7 w q⟩
      unfold letB svN
      rw [if_neg (by decide), if_neg (by decide), if_pos rfl, hs]; exact b
    · have e : stepD y 100 = { y with dat := (listR y.st).1, st := (listR y.st).2 } := by unfold stepD; rw [if_neg (by decide), if_neg (by decide), if_neg (by decide)]
      have hs := i6 hn.1
      rw [e] at i1 hs i3 i4 i5 i7 ⊢
      obtain ⟨a, b, w, -⟩ := listR_inv hb i1
      refine ⟨a, ?_, fun h => i3 fun h2 => h (by simp [h2]), fun h => i4 fun h2 => h (by simp [h2]), fun h => i5 fun h2 => h (by simp [h2]), fun h => absurd (by simp) h, fun q _ => i7 q w⟩
      unfold letB
      rw [if_neg (by decide), if_neg (by decide), if_neg (by decide), hs]; exact b
theorem say_nodup (k : Int) : (sayT k).Nodup := by
  by_cases hk : 1 ≤ k ∧ k ≤ 7
  · rcases kinds hk with rfl | rfl | rfl | rfl | rfl | rfl | rfl <;> decide
  · rw [sayT_no hk]; exact List.nodup_nil
/-- What is got is put as it was. -/
theorem enc_dec {b : List Int} (hb : allBytes b) (h : badD b = false) (p : Option Addr) : badS (svD (kindD b) (decS b) p) = false ∧ encS (svD (kindD b) (decS b) p) (decS b).dat = b ∧ In64 (decS b).time ∧ ∀ z ∈ (decS b).dat, In64 z := by
  unfold badD at h
  simp only [Bool.or_eq_false_iff, Bool.not_eq_false', List.isEmpty_iff] at h
  obtain ⟨h1, h2, h3⟩ := h
  have hb5 := oneR_bytes (w := 1) (x := (b, false)) hb
  obtain ⟨a, c, -, -, -, -, d⟩ := fold_inv (sayT (kindD b)) (startD b) (say_nodup _) (fun c hc => say_mem hc) hb5.1 h1
  obtain ⟨e, f, -⟩ := oneR_inv (w := 1) (.inl rfl) (x := (b, false)) hb a
  have d := d (show In64 0 by unfold In64; omega) (fun z hz => by cases hz)
  refine ⟨h3, ?_, d⟩
  unfold encS
  have e2 : letB (svD (kindD b) (decS b) p) (decS b).dat = letB (svN (decS b)) (decS b).dat := rfl
  rw [e2]
  have c : (startD b).st.1 = (sayT (kindD b)).flatMap (letB (svN (decS b)) (decS b).dat) ++ (decS b).st.1 := c
  rw [h2, List.append_nil] at c
  show be 1 (kindD b) ++ (sayT (kindD b)).flatMap (letB (svN (decS b)) (decS b).dat) = b
  rw [← c]
  exact f.symm
theorem badD_more {b : List Int} (hb : allBytes b) (h : badD b = false) {m : Int} (hm : isByte m) : badD (b ++ [m]) = true := by
  cases hh : badD (b ++ [m]) with
  | true => rfl
  | false =>
    have hb2 : allBytes (b ++ [m]) := allBytes_append hb fun z hz => by rw [List.mem_singleton.1 hz]; exact hm
    obtain ⟨a1, a2, a3, a4⟩ := enc_dec hb h none
    obtain ⟨c1, c2, c3, c4⟩ := enc_dec hb2 hh none
    have := (enc_inj c1 rfl c3 c4 a1 rfl a3 a4 (r := [m]) (by rw [a2, c2])).1
    cases this
theorem badD_less {b : List Int} (hb : allBytes b) (h : badD b = false) : badD (b.take (b.length - 1)) = true ∧ b ≠ [] := by
  have hne : b ≠ [] := by
    rintro rfl
    obtain ⟨a1, a2, -⟩ := enc_dec hb h none
    have := congrArg List.length a2
    unfold encS at this
    simp [be_len] at this
  refine ⟨?_, hne⟩
  cases hh : badD (b.take (b.length - 1)) with
  | true => rfl
  | false =>
    obtain ⟨a1, a2, a3, a4⟩ := enc_dec hb h none
    obtain ⟨c1, c2, c3, c4⟩ := enc_dec (allBytes_take hb _) hh none
    have := (enc_inj a1 rfl a3 a4 c1 rfl c3 c4 (r := b.drop (b.length - 1)) (by rw [a2, c2, List.take_append_drop])).1
    have h2 := congrArg List.length this
    rw [List.length_drop] at h2
    have : b.length ≠ 0 := fun h0 => hne (List.eq_nil_of_length_eq_zero h0)
    simp at h2; omega
end Go.Ev.R
namespace Go.Ev.R
open Go Go.RowKit
theorem uf_0 (u : List Int) (hl : u.length = 0) : up 0 (fill 0 u) = u := by
  obtain rfl := List.eq_nil_of_length_eq_zero hl
  kernel_rfl
theorem uf_1 (u : List Int) (hl : u.length = 1) : up 1 (fill 1 u) = u := by
  obtain ⟨x0, l0, rfl, h0⟩ := ex_cons hl
  obtain rfl := List.eq_nil_of_length_eq_zero h0
  kernel_rfl
theorem uf_2 (u : List Int) (hl : u.length = 3) : up 2 (fill 2 u) = u := by
  obtain ⟨x0, l0, rfl, h0⟩ := ex_cons hl
  obtain ⟨x1, l1, rfl, h1⟩ := ex_cons h0
  obtain ⟨x2, l2, rfl, h2⟩ := ex_cons h1
  obtain rfl := List.eq_nil_of_length_eq_zero h2
  kernel_rfl
theorem uf_3 (u : List Int) (hl : u.length = 6) : up 3 (fill 3 u) = u := by
  obtain ⟨x0, l0, rfl, h0⟩ := ex_cons hl
  obtain ⟨x1, l1, rfl, h1⟩ := ex_cons h0
  obtain ⟨x2, l2, rfl, h2⟩ := ex_cons h1
  obtain ⟨x3, l3, rfl, h3⟩ := ex_cons h2
  obtain ⟨x4, l4, rfl, h4⟩ := ex_cons h3
  obtain ⟨x5, l5, rfl, h5⟩ := ex_cons h4
  obtain rfl := List.eq_nil_of_length_eq_zero h5
  kernel_rfl
theorem uf_4 (u : List Int) (hl : u.length = 10) : up 4 (fill 4 u) = u := by
  obtain ⟨x0, l0, rfl, h0⟩ := ex_cons hl
  obtain ⟨x1, l1, rfl, h1⟩ := ex_cons h0
  obtain ⟨x2, l2, rfl, h2⟩ := ex_cons h1
  obtain ⟨x3, l3, rfl, h3⟩ := ex_cons h2
  obtain ⟨x4, l4, rfl, h4⟩ := ex_cons h3
  obtain ⟨x5, l5, rfl, h5⟩ := ex_cons h4
  obtain ⟨x6, l6, rfl, h6⟩ := ex_cons h5
  obtain ⟨x7, l7, rfl, h7⟩ := ex_cons h6
  obtain ⟨x8, l8, rfl, h8⟩ := ex_cons h7
  obtain ⟨x9, l9, rfl, h9⟩ := ex_cons h8
  obtain rfl := List.eq_nil_of_length_eq_zero h9
  kernel_rfl
theorem uf_5 (u : List Int) (hl : u.length = 15) : up 5 (fill 5 u) = u := by
  obtain ⟨x0, l0, rfl, h0⟩ := ex_cons hl
  obtain ⟨x1, l1, rfl, h1⟩ := ex_cons h0
  obtain ⟨x2, l2, rfl, h2⟩ := ex_cons h1
  obtain ⟨x3, l3, rfl, h3⟩ := ex_cons h2
  obtain ⟨x4, l4, rfl, h4⟩ := ex_cons h3
  obtain ⟨x5, l5, rfl, h5⟩ := ex_cons h4
  obtain ⟨x6, l6, rfl, h6⟩ := ex_cons h5
  obtain ⟨x7, l7, rfl, h7⟩ := ex_cons h6
  obtain ⟨x8, l8, rfl, h8⟩ := ex_cons h7
  obtain ⟨x9, l9, rfl, h9⟩ := ex_cons h8
  obtain ⟨x10, l10, rfl, h10⟩ := ex_cons h9
  obtain ⟨x11, l11, rfl, h11⟩ := ex_cons h10
  obtain ⟨x12, l12, rfl, h12⟩ := ex_cons h11
  obtain ⟨x13, l13, rfl, h13⟩ := ex_cons h12
  obtain ⟨x14, l14, rfl, h14⟩ := ex_cons h13
  obtain rfl := List.eq_nil_of_length_eq_zero h14
  kernel_rfl
theorem uf_6 (u : List Int) (hl : u.length = 21) : up 6 (fill 6 u) = u := by
  obtain ⟨x0, l0, rfl, h0⟩ := ex_cons hl
  obtain ⟨x1, l1, rfl, h1⟩ := ex_cons h0
  obtain ⟨x2, l2, rfl, h2⟩ := ex_cons h1
  obtain ⟨x3, l3, rfl, h3⟩ := ex_cons h2
  obtain ⟨x4, l4, rfl, h4⟩ := ex_cons h3
  obtain ⟨x5, l5, rfl, h5⟩ := ex_cons h4
  obtain ⟨x6, l6, rfl, h6⟩ := ex_cons h5
  obtain ⟨x7, l7, rfl, h7⟩ := ex_cons h6
  obtain ⟨x8, l8, rfl, h8⟩ := ex_cons h7
  obtain ⟨x9, l9, rfl, h9⟩ := ex_cons h8
  obtain ⟨x10, l10, rfl, h10⟩ := ex_cons h9
  obtain ⟨x11, l11, rfl, h11⟩ := ex_cons h10
  obtain ⟨x12, l12, rfl, h12⟩ := ex_cons h11
  obtain ⟨x13, l13, rfl, h13⟩ := ex_cons h12
  obtain ⟨x14, l14, rfl, h14⟩ := ex_cons h13
  obtain ⟨x15, l15, rfl, h15⟩ := ex_cons h14
  obtain ⟨x16, l16, rfl, h16⟩ := ex_cons h15
  obtain ⟨x17, l17, rfl, h17⟩ := ex_cons h16
  obtain ⟨x18, l18, rfl, h18⟩ := ex_cons h17
  obtain ⟨x19, l19, rfl, h19⟩ := ex_cons h18
  obtain ⟨x20, l20, rfl, h20⟩ := ex_cons h19
  obtain rfl := List.eq_nil_of_length_eq_zero h20
  kernel_rfl
theorem up_fill {n : Nat} (h : n ≤ 6) {u : List Int} (hl : u.length = triR n) : up n (fill n u) = u := by
  have : n = 0 ∨ n = 1 ∨ n = 2 ∨ n = 3 ∨ n = 4 ∨ n = 5 ∨ n = 6 := by omega
  rcases this with rfl | rfl | rfl | rfl | rfl | rfl | rfl
  · exact uf_0 u hl
  · exact uf_1 u hl
  · exact uf_2 u hl
  · exact uf_3 u hl
  · exact uf_4 u hl
  · exact uf_5 u hl
  · exact uf_6 u hl
theorem fillK_in (n i : Nat) : ∀ (m k : Nat) (P u : List Int), (∀ z ∈ P, In64 z) → (∀ z ∈ u, In64 z) → (∀ z ∈ (fillK n i m k P u).1, In64 z) ∧ ∀ z ∈ (fillK n i m k P u).2, In64 z
  | 0, k, P, u, h1, h2 => ⟨h1, h2⟩
  | m + 1, k, P, u, h1, h2 => by
    unfold fillK
    have h0 : In64 (u.headD 0) := by
      cases u with
      | nil => show In64 0; unfold In64; omega
      | cons y u => exact h2 y (by simp)
    refine fillK_in n i m (k + 1) _ _ (fun z hz => ?_) fun z hz => h2 z (List.mem_of_mem_tail hz)
    rcases List.mem_or_eq_of_mem_set hz with hz | rfl
    · rcases List.mem_or_eq_of_mem_set hz with hz | rfl
      · exact h1 z hz
      · exact h0
    · exact h0
theorem fillI_in (n : Nat) : ∀ (m i : Nat) (P u : List Int), (∀ z ∈ P, In64 z) → (∀ z ∈ u, In64 z) → ∀ z ∈ (fillI n m i P u).1, In64 z
  | 0, i, P, u, h1, h2 => h1
  | m + 1, i, P, u, h1, h2 => by
    unfold fillI
    have := fillK_in n i (m + 1) i P u h1 h2
    exact fillI_in n m (i + 1) _ _ this.1 this.2
theorem fill_in (n : Nat) {u : List Int} (h : ∀ z ∈ u, In64 z) : ∀ z ∈ fill n u, In64 z := fillI_in n n 0 _ _ (fun z hz => by rw [(List.mem_replicate.1 hz).2]; unfold In64; omega) h
/-- Numbers of a belief. -/
def InB (y : BD) : Prop := In64 y.time ∧ In64 y.pass ∧ In64 y.fail ∧ (∀ z ∈ y.xl, In64 z) ∧ ∀ z ∈ y.pl, In64 z
theorem bd0_in : InB bd0 := ⟨by show In64 0; unfold In64; omega, by show In64 0; unfold In64; omega, by show In64 0; unfold In64; omega, fun z hz => (by cases hz), fun z hz => (by cases hz)⟩
theorem belP_inv {x : RS} (hb : allBytes x.1) (h : (belP x).2.2 = false) (p q : Option Addr) : x.2 = false ∧ x.1 = belB (bvD (belP x).1 p q) (belP x).1.xl (belP x).1.pl ++ (belP x).2.1 ∧ InB (belP x).1 := by
  cases hc : ((m6 x).2.2 || wrongR (m5 x).1.length (m6 x).1.length) with
  | true =>
    have e : belP x = (bd0, ((m6 x).2.1, true)) := by unfold belP; rw [if_pos hc]
    rw [e] at h; cases h
  | false =>
    have e : belP x = (belD x, (m6 x).2) := by unfold belP; rw [if_neg (by rw [hc]; simp)]
    rw [e]
    rw [Bool.or_eq_false_iff] at hc
    obtain ⟨hc, hw⟩ := hc
    unfold wrongR at hw
    simp only [Bool.or_eq_false_iff, Bool.not_eq_false', decide_eq_true_eq, decide_eq_false_iff_not] at hw
    have n6 : (m5 x).1.length ≤ 6 := by omega
    have hu : (m6 x).1.length = triR (m5 x).1.length := by rw [← triR_eq n6]; exact hw.2
    obtain ⟨a6, b6, c6, -⟩ := listR_inv (x := (m5 x).2) (bytes5 hb).1 hc
    obtain ⟨a5, b5, c5, -⟩ := listR_inv (x := (m4 x).2) (bytes4 hb).1 a6
    obtain ⟨a4, b4, c4⟩ := oneR_inv (w := 8) (.inr (.inr (.inr rfl))) (x := (m3 x).2) (bytes3 hb).1 a5
    obtain ⟨a3, b3, c3⟩ := oneR_inv (w := 8) (.inr (.inr (.inr rfl))) (x := (m2 x).2) (bytes2 hb).1 a4
    obtain ⟨a2, b2⟩ := truthR_inv (x := (m1 x).2) (bytes1 hb).1 a3
    obtain ⟨a1, b1, c1⟩ := oneR_inv (w := 8) (.inr (.inr (.inr rfl))) (x := x) hb a2
    have b6 : (m5 x).2.1 = lis (m6 x).1 ++ (m6 x).2.1 := b6
    have b5 : (m4 x).2.1 = lis (m5 x).1 ++ (m5 x).2.1 := b5
    have b4 : (m3 x).2.1 = be 8 (m4 x).1 ++ (m4 x).2.1 := b4
    have b3 : (m2 x).2.1 = be 8 (m3 x).1 ++ (m3 x).2.1 := b3
    have b2 : (m1 x).2.1 = be 1 (bit (m2 x).1) ++ (m2 x).2.1 := b2
    have b1 : x.1 = be 8 (m1 x).1 ++ (m1 x).2.1 := b1
    refine ⟨a1, ?_, c1, c3, c4, c5, fill_in _ c6⟩
    show x.1 = (be 8 (m1 x).1 ++ (be 1 (bit (m2 x).1) ++ (be 8 (m3 x).1 ++ (be 8 (m4 x).1 ++ (lis (m5 x).1 ++ lis (up (m5 x).1.length (fill (m5 x).1.length (m6 x).1))))))) ++ (m6 x).2.1
    rw [up_fill n6 hu]
    simp only [List.append_assoc]
    rw [← b6, ← b5, ← b4, ← b3, ← b2]
    exact b1
def tvN (y : ET) : TV := tvD 0 y none none none
theorem foldT_inv : ∀ (L : List UInt8) (y : ET), L.Nodup → (∀ c ∈ L, c = 115 ∨ c = 113 ∨ c = 101 ∨ c = 110 ∨ c = 120 ∨ c = 98) → Small y → (L.foldl stepT y).st.2 = false → y.st.2 = false ∧ y.st.1 = L.flatMap (letP (tvN (L.foldl stepT y)) (L.foldl stepT y).nl (L.foldl stepT y).b.xl (L.foldl stepT y).b.pl) ++ (L.foldl stepT y).st.1 ∧ (115 ∉ L → (L.foldl stepT y).sen = y.sen) ∧ (113 ∉ L → (L.foldl stepT y).seq = y.seq) ∧ (101 ∉ L → (L.foldl stepT y).err = y.err) ∧ (110 ∉ L → (L.foldl stepT y).nl = y.nl) ∧ (120 ∉ L → (L.foldl stepT y).ex = y.ex) ∧ (98 ∉ L → (L.foldl stepT y).b = y.b) ∧ ((∀ z ∈ y.nl, In64 z) → InB y.b → (∀ z ∈ (L.foldl stepT y).nl, In64 z) ∧ InB (L.foldl stepT y).b)
  | [], y, _, _, _, h => ⟨h, by simp, fun _ => rfl, fun _ => rfl, fun _ => rfl, fun _ => rfl, fun _ => rfl, fun _ => rfl, fun a b => ⟨a, b⟩⟩
  | c :: L, y, hn, hc, hb, h => by
    rw [List.nodup_cons] at hn
    rw [List.foldl_cons] at h ⊢
    have hb' := (stepT_small (c := c) hb).1
    obtain ⟨i1, i2, i3, i4, i5, i6, i7, i8, i9⟩ := foldT_inv L (stepT y c) hn.2 (fun z hz => hc z (by simp [hz])) hb' h
    rw [List.flatMap_cons, List.append_assoc, ← i2]
    have hy := hb.1
    rcases hc c (by simp) with rfl | rfl | rfl | rfl | rfl | rfl
    · have e : stepT y 115 = { y with sen := (oneR 1 y.st).1, st := (oneR 1 y.st).2 } := by unfold stepT; rw [if_pos rfl]
      have hs := i3 hn.1
      rw [e] at i1 hs i4 i5 i6 i7 i8 i9 ⊢
      obtain ⟨a, b, -⟩ := oneR_inv (.inl rfl) hy i1
      refine ⟨a, ?_, fun h => absurd (by simp) h, fun h => i4 fun h2 => h (by simp [h2]), fun h => i5 fun h2 => h (by simp [h2]), fun h => i6 fun h2 => h (by simp [h2]), fun h => i7 fun h2 => h (by simp [h2]), fun h => i8 fun h2 => h (by simp [h2]), i9⟩
      have el : letP (tvN (L.foldl stepT { y with sen := (oneR 1 y.st).1, st := (oneR 1 y.st).2 })) (L.foldl stepT { y with sen := (oneR 1 y.st).1, st := (oneR 1 y.st).2 }).nl (L.foldl stepT { y with sen := (oneR 1 y.st).1, st := (oneR 1 y.st).2 }).b.xl (L.foldl stepT { y with sen := (oneR 1 y.st).1, st := (oneR 1 y.st).2 }).b.pl 115 = be 1 (L.foldl stepT { y with sen := (oneR 1 y.st).1, st := (oneR 1 y.st).2 }).sen := rfl
      rw [el, hs]; exact b
    · have e : stepT y 113 = { y with seq := (oneR 4 y.st).1, st := (oneR 4 y.st).2 } := by unfold stepT; rw [if_neg (by decide), if_pos rfl]
      have hs := i4 hn.1
      rw [e] at i1 hs i3 i5 i6 i7 i8 i9 ⊢
      obtain ⟨a, b, -⟩ := oneR_inv (.inr (.inr (.inl rfl))) hy i1
      refine ⟨a, ?_, fun h => i3 fun h2 => h (by simp [h2]), fun h => absurd (by simp) h, fun h => i5 fun h2 => h (by simp [h2]), fun h => i6 fun h2 => h (by simp [h2]), fun h => i7 fun h2 => h (by simp [h2]), fun h => i8 fun h2 => h (by simp [h2]), i9⟩
      have el : ∀ z : ET, letP (tvN z) z.nl z.b.xl z.b.pl 113 = be 4 z.seq := fun _ => rfl
      rw [el, hs]; exact b
    · have e : stepT y 101 = { y with err := (oneR 1 y.st).1, st := (oneR 1 y.st).2 } := by unfold stepT; rw [if_neg (by decide), if_neg (by decide), if_pos rfl]
      have hs := i5 hn.1
      rw [e] at i1 hs i3 i4 i6 i7 i8 i9 ⊢
      obtain ⟨a, b, -⟩ := oneR_inv (.inl rfl) hy i1
      refine ⟨a, ?_, fun h => i3 fun h2 => h (by simp [h2]), fun h => i4 fun h2 => h (by simp [h2]), fun h => absurd (by simp) h, fun h => i6 fun h2 => h (by simp [h2]), fun h => i7 fun h2 => h (by simp [h2]), fun h => i8 fun h2 => h (by simp [h2]), i9⟩
      have el : ∀ z : ET, letP (tvN z) z.nl z.b.xl z.b.pl 101 = be 1 z.err := fun _ => rfl
      rw [el, hs]; exact b
    · have e : stepT y 110 = { y with nl := (listR y.st).1, st := (listR y.st).2 } := by unfold stepT; rw [if_neg (by decide), if_neg (by decide), if_neg (by decide), if_pos rfl]
      have hs := i6 hn.1
      rw [e] at i1 hs i3 i4 i5 i7 i8 i9 ⊢
      obtain ⟨a, b, w, -⟩ := listR_inv hy i1
      refine ⟨a, ?_, fun h => i3 fun h2 => h (by simp [h2]), fun h => i4 fun h2 => h (by simp [h2]), fun h => i5 fun h2 => h (by simp [h2]), fun h => absurd (by simp) h, fun h => i7 fun h2 => h (by simp [h2]), fun h => i8 fun h2 => h (by simp [h2]), fun _ q => i9 w q⟩
      have el : ∀ z : ET, letP (tvN z) z.nl z.b.xl z.b.pl 110 = lis z.nl := fun _ => rfl
      rw [el, hs]; exact b
    · have e : stepT y 120 = { y with ex := (truthR y.st).1, st := (truthR y.st).2 } := by unfold stepT; rw [if_neg (by decide), if_neg (by decide), if_neg (by decide), if_neg (by decide), if_pos rfl]
      have hs := i7 hn.1
      rw [e] at i1 hs i3 i4 i5 i6 i8 i9 ⊢
      obtain ⟨a, b⟩ := truthR_inv hy i1
      refine ⟨a, ?_, fun h => i3 fun h2 => h (by simp [h2]), fun h => i4 fun h2 => h (by simp [h2]), fun h => i5 fun h2 => h (by simp [h2]), fun h => i6 fun h2 => h (by simp [h2]), fun h => absurd (by simp) h, fun h => i8 fun h2 => h (by simp [h2]), i9⟩
      have el : ∀ z : ET, letP (tvN z) z.nl z.b.xl z.b.pl 120 = be 1 (bit z.ex) := fun _ => rfl
      rw [el, hs]; exact b
    · have e : stepT y 98 = { y with b := (belP y.st).1, st := (belP y.st).2 } := by unfold stepT; rw [if_neg (by decide), if_neg (by decide), if_neg (by decide), if_neg (by decide), if_neg (by decide)]
      have hs := i8 hn.1
      rw [e] at i1 hs i3 i4 i5 i6 i7 i9 ⊢
      obtain ⟨a, b, w⟩ := belP_inv hy i1 none none
      refine ⟨a, ?_, fun h => i3 fun h2 => h (by simp [h2]), fun h => i4 fun h2 => h (by simp [h2]), fun h => i5 fun h2 => h (by simp [h2]), fun h => i6 fun h2 => h (by simp [h2]), fun h => i7 fun h2 => h (by simp [h2]), fun h => absurd (by simp) h, fun q _ => i9 q w⟩
      have el : ∀ z : ET, letP (tvN z) z.nl z.b.xl z.b.pl 98 = belB (bvD z.b none none) z.b.xl z.b.pl := fun _ => rfl
      rw [el, hs]; exact b
theorem tel_nodup (k : Int) : (telT k).Nodup := by
  by_cases hk : 1 ≤ k ∧ k ≤ 6
  · rcases kinds6 hk with rfl | rfl | rfl | rfl | rfl | rfl <;> decide
  · unfold telT
    rw [if_neg (by omega), if_neg (by omega), if_neg (by omega), if_neg (by omega), if_neg (by omega), if_neg (by omega)]
    exact List.nodup_nil
/-- What is got is put as it was. -/
theorem enc_decT {b : List Int} (hb : allBytes b) (h : badG b = false) (p1 p2 p3 : Option Addr) : badT (tvD (kindD b) (decT b) p1 p2 p3) (decT b).b.pl = false ∧ encT (tvD (kindD b) (decT b) p1 p2 p3) (decT b).nl (decT b).b.xl (decT b).b.pl = b ∧ Nums (tvD (kindD b) (decT b) p1 p2 p3) (decT b).nl (decT b).b.xl (decT b).b.pl := by
  unfold badG at h
  simp only [Bool.or_eq_false_iff, Bool.not_eq_false', List.isEmpty_iff] at h
  obtain ⟨h1, h2, h3⟩ := h
  obtain ⟨a, c, -, -, -, -, -, -, d⟩ := foldT_inv (telT (kindD b)) (startT b) (tel_nodup _) (fun c hc => tel_mem hc) (startT_small hb) h1
  obtain ⟨e, f, -⟩ := oneR_inv (w := 1) (.inl rfl) (x := (b, false)) hb a
  have d : (∀ z ∈ (decT b).nl, In64 z) ∧ InB (decT b).b := d (fun z hz => by cases hz) bd0_in
  refine ⟨h3, ?_, ⟨rfl, rfl, rfl, d.2.1, d.2.2.1, d.2.2.2.1, d.1, d.2.2.2.2.1, d.2.2.2.2.2⟩⟩
  unfold encT
  have c : (startT b).st.1 = (telT (kindD b)).flatMap (letP (tvN (decT b)) (decT b).nl (decT b).b.xl (decT b).b.pl) ++ (decT b).st.1 := c
  rw [h2, List.append_nil] at c
  show be 1 (kindD b) ++ (telT (kindD b)).flatMap (letP (tvN (decT b)) (decT b).nl (decT b).b.xl (decT b).b.pl) = b
  rw [← c]
  exact f.symm
theorem badG_more {b : List Int} (hb : allBytes b) (h : badG b = false) {m : Int} (hm : isByte m) : badG (b ++ [m]) = true := by
  cases hh : badG (b ++ [m]) with
  | true => rfl
  | false =>
    have hb2 : allBytes (b ++ [m]) := allBytes_append hb fun z hz => by rw [List.mem_singleton.1 hz]; exact hm
    obtain ⟨a1, a2, a3⟩ := enc_decT hb h none none none
    obtain ⟨c1, c2, c3⟩ := enc_decT hb2 hh none none none
    have := (enc_injT c1 c3 a1 a3 (r := [m]) (by rw [a2, c2])).1
    cases this
theorem badG_less {b : List Int} (hb : allBytes b) (h : badG b = false) : badG (b.take (b.length - 1)) = true ∧ b ≠ [] := by
  have hne : b ≠ [] := by
    rintro rfl
    obtain ⟨a1, a2, -⟩ := enc_decT hb h none none none
    have := congrArg List.length a2
    unfold encT at this
    simp [be_len] at this
  refine ⟨?_, hne⟩
  cases hh : badG (b.take (b.length - 1)) with
  | true => rfl
  | false =>
    obtain ⟨a1, a2, a3⟩ := enc_decT hb h none none none
    obtain ⟨c1, c2, c3⟩ := enc_decT (allBytes_take hb _) hh none none none
    have := (enc_injT a1 a3 c1 c3 (r := b.drop (b.length - 1)) (by rw [a2, c2, List.take_append_drop])).1
    have h2 := congrArg List.length this
    rw [List.length_drop] at h2
    have : b.length ≠ 0 := fun h0 => hne (List.eq_nil_of_length_eq_zero h0)
    simp at h2; omega
end Go.Ev.R
namespace Go.Ev.R
open Go Go.RowKit
section
variable {N d : Nat} (hN : N = 100000) {h : T} {s : Nat} (hf : ∀ n, s ≤ n → h.get n = none)
include hf
theorem s76 {p : Option Addr} {len cap : Nat} {l : List Int} (r : Sl EB h p len cap l) (hl : len ≤ 100000) : PureS (D N (d + 1)) 76 [.slice p len cap] h s (fun v h' s' => ∃ p', v = .slice p' len len ∧ OwnG EB 5 h' s p' len l) := by
  refine PureS.of hf fun K pw Z g hp hk => ?_
  rw [D_76]; unfold F76; rw [app1_eq]
  try simp (disch := first | assumption | omega | (simp only [Int.ofNat_eq_natCast, neg_one]; done) | (simp only [Int.ofNat_eq_natCast, neg_one]; omega)) only [tysW, wB, mB, Nat.reduceAdd, Nat.reduceMul, List.length_cons, List.length_nil]
  refine wp_newF g hp fun h1 g1 c1 b1 => ?_
  try simp (disch := first | assumption | omega | (simp only [Int.ofNat_eq_natCast, neg_one]; done) | (simp only [Int.ofNat_eq_natCast, neg_one]; omega)) only [tysW, wB, mB, Nat.reduceAdd, Nat.reduceMul, List.length_cons, List.length_nil]
  refine apG (E := EB) (l := []) (len := 0) (t := s) g1 hp ⟨rfl, .inr ⟨s, 0, rfl, Nat.le_refl _, b1, .inl rfl⟩⟩ (Nat.le_refl _) (by omega) (r.from hf g1).row (fun _ => rfl) (by omega) fun p' h2 s2 g2 _ o2 e2 => ?_
  rw [Nat.zero_add] at *
  exact hk _ _ _ g2 ⟨p', rfl, o2⟩
include hN
theorem s35 {p : Option Addr} {len cap : Nat} {b : List Int} (r : Sl EB h p len cap b) (hl : len ≤ 50000) (hb : allBytes b) : ValS (D N (d + 13)) 35 [.slice p len cap] h s (.bool (badD b)) := by
  refine ValS.of hf fun K pw Z g hp hk => ?_
  rw [D_35]; unfold F35; rw [app1_eq]
  refine PureS.go g hp (s37 (d := d) hN hf r hl hb) fun v h1 s1 g1 c1 hv => ?_
  unfold Got at hv
  cases hbad : badD b with
  | true =>
    rw [hbad, if_pos rfl] at hv
    subst hv
    try simp (disch := first | assumption | omega | (simp only [Int.ofNat_eq_natCast, neg_one]; done) | (simp only [Int.ofNat_eq_natCast, neg_one]; omega)) only [tysW, wB, mB, Nat.reduceAdd, Nat.reduceMul, List.length_cons, List.length_nil]
    refine wp_boxA g1 hp fun h2 g2 c2 b2 => ?_
    try simp (disch := first | assumption | omega | (simp only [Int.ofNat_eq_natCast, neg_one]; done) | (simp only [Int.ofNat_eq_natCast, neg_one]; omega)) only [tysW, wB, mB, Nat.reduceAdd, Nat.reduceMul, List.length_cons, List.length_nil]
    refine wp_putF g2 hp b2 (by have := g1.le; omega) (by simp) rfl fun h3 g3 b3 e3 => ?_
    simp only [overL] at b3
    try simp (disch := first | assumption | omega | (simp only [Int.ofNat_eq_natCast, neg_one]; done) | (simp only [Int.ofNat_eq_natCast, neg_one]; omega)) only [tysW, wB, mB, Nat.reduceAdd, Nat.reduceMul, List.length_cons, List.length_nil, ldB b3, clB b3, ldBL b3, clBL b3]
    have hk := hk _ _ g3
    rw [hbad] at hk
    exact hk
  | false =>
    rw [hbad, if_neg (by simp)] at hv
    obtain ⟨q, rfl, -⟩ := hv
    try simp (disch := first | assumption | omega | (simp only [Int.ofNat_eq_natCast, neg_one]; done) | (simp only [Int.ofNat_eq_natCast, neg_one]; omega)) only [tysW, wB, mB, Nat.reduceAdd, Nat.reduceMul, List.length_cons, List.length_nil]
    refine wp_boxA g1 hp fun h2 g2 c2 b2 => ?_
    try simp (disch := first | assumption | omega | (simp only [Int.ofNat_eq_natCast, neg_one]; done) | (simp only [Int.ofNat_eq_natCast, neg_one]; omega)) only [tysW, wB, mB, Nat.reduceAdd, Nat.reduceMul, List.length_cons, List.length_nil, svv]
    refine wp_putF g2 hp b2 (by have := g1.le; omega) (by simp) rfl fun h3 g3 b3 e3 => ?_
    try simp (disch := first | assumption | omega | (simp only [Int.ofNat_eq_natCast, neg_one]; done) | (simp only [Int.ofNat_eq_natCast, neg_one]; omega)) only [tysW, wB, mB, Nat.reduceAdd, Nat.reduceMul, List.length_cons, List.length_nil]
    have hk := hk _ _ g3
    rw [hbad] at hk
    exact hk
theorem s15 {p : Option Addr} {len cap : Nat} {b : List Int} (r : Sl EB h p len cap b) (hb : allBytes b) {m : Int} (hm : isByte m) : ValS (D N (d + 14)) 15 [.slice p len cap, u8 m] h s (.bool true) := by
  refine ValS.of hf fun K pw Z g hp hk => ?_
  rw [D_15]; unfold F15; rw [app2_eq]
  unfold X15_5
  rw [D_21]
  have hlen := r.row.1
  have hle := r.le
  by_cases h11 : (1100 : Int) < (len : Int)
  · try simp (disch := first | assumption | omega | (simp only [Int.ofNat_eq_natCast, neg_one]; done) | (simp only [Int.ofNat_eq_natCast, neg_one]; omega)) only [tysW, wB, mB, Nat.reduceAdd, Nat.reduceMul, List.length_cons, List.length_nil]
    exact hk _ _ g
  try simp (disch := first | assumption | omega | (simp only [Int.ofNat_eq_natCast, neg_one]; done) | (simp only [Int.ofNat_eq_natCast, neg_one]; omega)) only [tysW, wB, mB, Nat.reduceAdd, Nat.reduceMul, List.length_cons, List.length_nil]
  have e1 : ((len : Int) - Int.ofNat 1) = ((len - 1 : Nat) : Int) ∨ len = 0 := by
    rcases Nat.eq_zero_or_pos len with h0 | h0
    · exact .inr h0
    · left; simp only [Int.ofNat_eq_natCast]; omega
  have t2 : ∀ {h1 : T} {s1 : Nat} (v : Value), From s h h1 s1 → (X15_2 N (D N (d + 13)) K (.slice p len cap) (.bool true) (u8 m) v s1).wp pw Z h1 := by
    intro h1 s1 v g1
    unfold X15_2
    have l1 := g1.le
    refine PureS.go g1 hp (s71 (d := d + 1) hN g1.fresh (r.from hf g1) (by omega) hb) fun v h2 s2 g2 c2 hv => ?_
    have l2 := c2.le
    unfold GotT at hv
    cases hbad : badG b with
    | true =>
      rw [hbad, if_pos rfl] at hv
      subst hv
      try simp (disch := first | assumption | omega | (simp only [Int.ofNat_eq_natCast, neg_one]; done) | (simp only [Int.ofNat_eq_natCast, neg_one]; omega)) only [tysW, wB, mB, Nat.reduceAdd, Nat.reduceMul, List.length_cons, List.length_nil]
      refine wp_boxA g2 hp fun h3 g3 c3 b3 => ?_
      try simp (disch := first | assumption | omega | (simp only [Int.ofNat_eq_natCast, neg_one]; done) | (simp only [Int.ofNat_eq_natCast, neg_one]; omega)) only [tysW, wB, mB, Nat.reduceAdd, Nat.reduceMul, List.length_cons, List.length_nil]
      refine wp_putF g3 hp b3 (by omega) (by simp) rfl fun h4 g4 b4 e4 => ?_
      simp only [overL] at b4
      try simp (disch := first | assumption | omega | (simp only [Int.ofNat_eq_natCast, neg_one]; done) | (simp only [Int.ofNat_eq_natCast, neg_one]; omega)) only [tysW, wB, mB, Nat.reduceAdd, Nat.reduceMul, List.length_cons, List.length_nil, ldB b4, clB b4, ldBL b4, clBL b4]
      exact hk _ _ g4
    | false =>
      rw [hbad, if_neg (by simp)] at hv
      obtain ⟨p1, p2, p3, rfl, o1, o2, o3⟩ := hv
      have o1l := o1.lt g2.fresh
      have o2l := o2.lt g2.fresh
      have o3l := o3.lt g2.fresh
      obtain ⟨a1, a2, a3⟩ := enc_decT hb hbad p1 p2 p3
      have hsm := decT_small hb
      obtain ⟨y, hy⟩ : ∃ y, y = tvD (kindD b) (decT b) p1 p2 p3 := ⟨_, rfl⟩
      try simp (disch := first | assumption | omega | (simp only [Int.ofNat_eq_natCast, neg_one]; done) | (simp only [Int.ofNat_eq_natCast, neg_one]; omega)) only [tysW, wB, mB, Nat.reduceAdd, Nat.reduceMul, List.length_cons, List.length_nil]
      refine wp_boxA g2 hp fun h3 g3 c3 b3 => ?_
      try simp (disch := first | assumption | omega | (simp only [Int.ofNat_eq_natCast, neg_one]; done) | (simp only [Int.ofNat_eq_natCast, neg_one]; omega)) only [tysW, wB, mB, Nat.reduceAdd, Nat.reduceMul, List.length_cons, List.length_nil, tvv]
      refine wp_putF g3 hp b3 (by omega) (by simp) rfl fun h4 g4 b4 e4 => ?_
      simp only [overL] at b4
      replace o1 := (o1.from g2.fresh c3).but fun hp => e4 _ (by have := o1l hp; omega)
      replace o2 := (o2.from g2.fresh c3).but fun hp => e4 _ (by have := o2l hp; omega)
      replace o3 := (o3.from g2.fresh c3).but fun hp => e4 _ (by have := o3l hp; omega)
      have L : ListsT h4 (tvD (kindD b) (decT b) p1 p2 p3) (decT b).nl (decT b).b.xl (decT b).b.pl := ⟨o1.sl.row, o2.sl.row, o3.sl⟩
      try simp (disch := first | assumption | omega | (simp only [Int.ofNat_eq_natCast, neg_one]; done) | (simp only [Int.ofNat_eq_natCast, neg_one]; omega)) only [tysW, wB, mB, Nat.reduceAdd, Nat.reduceMul, List.length_cons, List.length_nil, ldB b4, clB b4, ldBL b4, clBL b4]
      refine PureS.go g4 hp (s65 (d := d + 1) hN g4.fresh (tvD (kindD b) (decT b) p1 p2 p3) L (by have := hsm.2.2.2; show (decT b).b.pl.length ≤ 1000; omega) (by have := hsm.2.2.1; show (decT b).b.xl.length ≤ 1000; omega)) fun v h5 s5 g5 c5 hv => ?_
      obtain ⟨pc, lc, rfl, oc, -⟩ := hv
      have l5 := c5.le
      have er : errT (tvD (kindD b) (decT b) p1 p2 p3) (decT b).b.pl = 0 := by unfold errT; rw [a1]; simp
      have eb : bytesT (tvD (kindD b) (decT b) p1 p2 p3) (decT b).nl (decT b).b.xl (decT b).b.pl = b := by unfold bytesT; rw [a1, if_neg (by simp), a2]
      rw [eb] at oc
      rw [er]
      obtain ⟨b1, b2⟩ := badG_less hb hbad
      have hne : len ≠ 0 := fun h0 => b2 (List.eq_nil_of_length_eq_zero (by omega))
      have hne' : ¬ (len : Int) = 0 := by omega
      have e1 := e1.resolve_right hne
      try simp (disch := first | assumption | omega | (simp only [Int.ofNat_eq_natCast, neg_one]; done) | (simp only [Int.ofNat_eq_natCast, neg_one]; omega)) only [tysW, wB, mB, Nat.reduceAdd, Nat.reduceMul, List.length_cons, List.length_nil]
      rw [e1]
      have r5 := r.from hf g5
      refine r5.cut (ab_to (i := len - 1) (by omega) .i64) (Nat.zero_le _) (by omega) (by omega) (Nat.le_refl _) fun p6 r6 k6 => ?_
      simp only [Nat.sub_zero, List.drop_zero] at r6 ⊢
      have bless : badG (b.take (len - 1)) = true := by rw [← hlen]; exact b1
      refine PureS.go g5 hp (s71 (d := d + 1) hN g5.fresh r6 (by omega) (allBytes_take hb _)) fun v h7 s7 g7 c7 hv => ?_
      have l7 := c7.le
      unfold GotT at hv
      rw [bless, if_pos rfl] at hv
      subst hv
      replace oc := oc.from g5.fresh c7
      try simp (disch := first | assumption | omega | (simp only [Int.ofNat_eq_natCast, neg_one]; done) | (simp only [Int.ofNat_eq_natCast, neg_one]; omega)) only [tysW, wB, mB, Nat.reduceAdd, Nat.reduceMul, List.length_cons, List.length_nil]
      refine wp_boxA g7 hp fun h8 g8 c8 b8 => ?_
      try simp (disch := first | assumption | omega | (simp only [Int.ofNat_eq_natCast, neg_one]; done) | (simp only [Int.ofNat_eq_natCast, neg_one]; omega)) only [tysW, wB, mB, Nat.reduceAdd, Nat.reduceMul, List.length_cons, List.length_nil]
      refine wp_putF g8 hp b8 (by omega) (by simp) rfl fun h9 g9 b9 e9 => ?_
      have ocl := oc.lt g7.fresh
      replace oc := (oc.from g7.fresh c8).but fun hp => e9 _ (by have := ocl hp; omega)
      refine PureS.go g9 hp (s76 (d := d + 12) g9.fresh (r.from hf g9) (by omega)) fun v h10 s10 g10 c10 hv => ?_
      obtain ⟨p10, rfl, o10⟩ := hv
      have l10 := c10.le
      replace oc := oc.from g9.fresh c10
      try simp (disch := first | assumption | omega | (simp only [Int.ofNat_eq_natCast, neg_one]; done) | (simp only [Int.ofNat_eq_natCast, neg_one]; omega)) only [tysW, wB, mB, Nat.reduceAdd, Nat.reduceMul, List.length_cons, List.length_nil]
      refine wp_newF g10 hp fun h11 g11 c11 b11 => ?_
      replace oc := oc.from g10.fresh c11
      try simp (disch := first | assumption | omega | (simp only [Int.ofNat_eq_natCast, neg_one]; done) | (simp only [Int.ofNat_eq_natCast, neg_one]; omega)) only [tysW, wB, mB, Nat.reduceAdd, Nat.reduceMul, List.length_cons, List.length_nil]
      refine apG (E := EB) (t := s7 + 1) g11 hp (o10.from g10.fresh c11) (by omega) (by omega) (Row.of_cells (E := EB) (l := [m]) b11 rfl) (fun _ => rfl) (by omega) fun p12 h12 s12 g12 l12 o12 e12 => ?_
      have o10l := o10.lt g10.fresh
      replace oc := oc.but fun hp => e12 _ (by have := ocl hp; omega) fun hp2 => by have := ocl hp; have := o10l hp2; omega
      have bmore := badG_more hb hbad hm
      refine PureS.go g12 hp (s71 (d := d + 1) hN g12.fresh o12.sl (by omega) (allBytes_append hb fun z hz => by rw [List.mem_singleton.1 hz]; exact hm)) fun v h13 s13 g13 c13 hv => ?_
      have l13 := c13.le
      unfold GotT at hv
      rw [bmore, if_pos rfl] at hv
      subst hv
      replace oc := oc.from g12.fresh c13
      try simp (disch := first | assumption | omega | (simp only [Int.ofNat_eq_natCast, neg_one]; done) | (simp only [Int.ofNat_eq_natCast, neg_one]; omega)) only [tysW, wB, mB, Nat.reduceAdd, Nat.reduceMul, List.length_cons, List.length_nil]
      refine wp_boxA g13 hp fun h14 g14 c14 b14 => ?_
      replace oc := oc.from g13.fresh c14
      try simp (disch := first | assumption | omega | (simp only [Int.ofNat_eq_natCast, neg_one]; done) | (simp only [Int.ofNat_eq_natCast, neg_one]; omega)) only [tysW, wB, mB, Nat.reduceAdd, Nat.reduceMul, List.length_cons, List.length_nil]
      refine wp_putF g14 hp b14 (by omega) (by simp) rfl fun h15 g15 b15 e15 => ?_
      replace oc := oc.but fun hp => e15 _ (by have := ocl hp; omega)
      try simp (disch := first | assumption | omega | (simp only [Int.ofNat_eq_natCast, neg_one]; done) | (simp only [Int.ofNat_eq_natCast, neg_one]; omega)) only [tysW, wB, mB, Nat.reduceAdd, Nat.reduceMul, List.length_cons, List.length_nil]
      refine ValS.go g15 hp (s19 (d := d + 12) g15.fresh oc.sl.row (r.from hf g15).row hb hb) fun h16 s16 g16 c16 => ?_
      rw [decide_eq_true rfl]
      unfold X15_1
      try simp (disch := first | assumption | omega | (simp only [Int.ofNat_eq_natCast, neg_one]; done) | (simp only [Int.ofNat_eq_natCast, neg_one]; omega)) only [tysW, wB, mB, Nat.reduceAdd, Nat.reduceMul, List.length_cons, List.length_nil]
      exact hk _ _ g16
  refine PureS.go g hp (s37 (d := d + 1) hN hf r (by omega) hb) fun v h1 s1 g1 c1 hv => ?_
  have l1 := c1.le
  unfold Got at hv
  cases hbad : badD b with
  | true =>
    rw [hbad, if_pos rfl] at hv
    subst hv
    try simp (disch := first | assumption | omega | (simp only [Int.ofNat_eq_natCast, neg_one]; done) | (simp only [Int.ofNat_eq_natCast, neg_one]; omega)) only [tysW, wB, mB, Nat.reduceAdd, Nat.reduceMul, List.length_cons, List.length_nil]
    refine wp_boxA g1 hp fun h2 g2 c2 b2 => ?_
    try simp (disch := first | assumption | omega | (simp only [Int.ofNat_eq_natCast, neg_one]; done) | (simp only [Int.ofNat_eq_natCast, neg_one]; omega)) only [tysW, wB, mB, Nat.reduceAdd, Nat.reduceMul, List.length_cons, List.length_nil]
    refine wp_putF g2 hp b2 (by omega) (by simp) rfl fun h3 g3 b3 e3 => ?_
    try simp (disch := first | assumption | omega | (simp only [Int.ofNat_eq_natCast, neg_one]; done) | (simp only [Int.ofNat_eq_natCast, neg_one]; omega)) only [tysW, wB, mB, Nat.reduceAdd, Nat.reduceMul, List.length_cons, List.length_nil]
    exact t2 _ g3
  | false =>
    rw [hbad, if_neg (by simp)] at hv
    obtain ⟨q, rfl, oq⟩ := hv
    have oql := oq.lt g1.fresh
    obtain ⟨a1, a2, a3⟩ := enc_dec hb hbad q
    try simp (disch := first | assumption | omega | (simp only [Int.ofNat_eq_natCast, neg_one]; done) | (simp only [Int.ofNat_eq_natCast, neg_one]; omega)) only [tysW, wB, mB, Nat.reduceAdd, Nat.reduceMul, List.length_cons, List.length_nil]
    refine wp_boxA g1 hp fun h2 g2 c2 b2 => ?_
    try simp (disch := first | assumption | omega | (simp only [Int.ofNat_eq_natCast, neg_one]; done) | (simp only [Int.ofNat_eq_natCast, neg_one]; omega)) only [tysW, wB, mB, Nat.reduceAdd, Nat.reduceMul, List.length_cons, List.length_nil, svv]
    refine wp_putF g2 hp b2 (by omega) (by simp) rfl fun h3 g3 b3 e3 => ?_
    simp only [overL] at b3
    replace oq := (oq.from g1.fresh c2).but fun hp => e3 _ (by have := oql hp; omega)
    try simp (disch := first | assumption | omega | (simp only [Int.ofNat_eq_natCast, neg_one]; done) | (simp only [Int.ofNat_eq_natCast, neg_one]; omega)) only [tysW, wB, mB, Nat.reduceAdd, Nat.reduceMul, List.length_cons, List.length_nil, ldB b3, clB b3, ldBL b3, clBL b3]
    refine PureS.go g3 hp (s23e (d := d + 1) hN g3.fresh (svD (kindD b) (decS b) q) oq.sl.row) fun v h4 s4 g4 c4 hv => ?_
    obtain ⟨pc, lc, rfl, oc, -⟩ := hv
    have l4 := c4.le
    have er : errS (svD (kindD b) (decS b) q) = 0 := by unfold errS; rw [a1]; simp
    have eb : bytesS (svD (kindD b) (decS b) q) (decS b).dat = b := by unfold bytesS; rw [a1, if_neg (by simp), a2]
    rw [eb] at oc
    rw [er]
    try simp (disch := first | assumption | omega | (simp only [Int.ofNat_eq_natCast, neg_one]; done) | (simp only [Int.ofNat_eq_natCast, neg_one]; omega)) only [tysW, wB, mB, Nat.reduceAdd, Nat.reduceMul, List.length_cons, List.length_nil]
    refine ValS.go g4 hp (s19 (d := d + 12) g4.fresh oc.sl.row (r.from hf g4).row hb hb) fun h5 s5 g5 c5 => ?_
    have l5 := c5.le
    rw [decide_eq_true rfl]
    obtain ⟨b1, b2⟩ := badD_less hb hbad
    have hne : len ≠ 0 := fun h0 => b2 (List.eq_nil_of_length_eq_zero (by omega))
    have hne' : ¬ (len : Int) = 0 := by omega
    have e1 := e1.resolve_right hne
    try simp (disch := first | assumption | omega | (simp only [Int.ofNat_eq_natCast, neg_one]; done) | (simp only [Int.ofNat_eq_natCast, neg_one]; omega)) only [tysW, wB, mB, Nat.reduceAdd, Nat.reduceMul, List.length_cons, List.length_nil]
    unfold X15_4
    try simp (disch := first | assumption | omega | (simp only [Int.ofNat_eq_natCast, neg_one]; done) | (simp only [Int.ofNat_eq_natCast, neg_one]; omega)) only [tysW, wB, mB, Nat.reduceAdd, Nat.reduceMul, List.length_cons, List.length_nil]
    rw [e1]
    have r5 := r.from hf g5
    refine r5.cut (ab_to (i := len - 1) (by omega) .i64) (Nat.zero_le _) (by omega) (by omega) (Nat.le_refl _) fun p6 r6 k6 => ?_
    simp only [Nat.sub_zero, List.drop_zero] at r6 ⊢
    have bless : badD (b.take (len - 1)) = true := by rw [← hlen]; exact b1
    refine ValS.go g5 hp (s35 (d := d) hN g5.fresh r6 (by omega) (allBytes_take hb _)) fun h7 s7 g7 c7 => ?_
    have l7 := c7.le
    rw [bless]
    try simp (disch := first | assumption | omega | (simp only [Int.ofNat_eq_natCast, neg_one]; done) | (simp only [Int.ofNat_eq_natCast, neg_one]; omega)) only [tysW, wB, mB, Nat.reduceAdd, Nat.reduceMul, List.length_cons, List.length_nil]
    unfold X15_3
    try simp (disch := first | assumption | omega | (simp only [Int.ofNat_eq_natCast, neg_one]; done) | (simp only [Int.ofNat_eq_natCast, neg_one]; omega)) only [tysW, wB, mB, Nat.reduceAdd, Nat.reduceMul, List.length_cons, List.length_nil]
    refine PureS.go g7 hp (s76 (d := d + 12) g7.fresh (r.from hf g7) (by omega)) fun v h10 s10 g10 c10 hv => ?_
    obtain ⟨p10, rfl, o10⟩ := hv
    have l10 := c10.le
    try simp (disch := first | assumption | omega | (simp only [Int.ofNat_eq_natCast, neg_one]; done) | (simp only [Int.ofNat_eq_natCast, neg_one]; omega)) only [tysW, wB, mB, Nat.reduceAdd, Nat.reduceMul, List.length_cons, List.length_nil]
    refine wp_newF g10 hp fun h11 g11 c11 b11 => ?_
    try simp (disch := first | assumption | omega | (simp only [Int.ofNat_eq_natCast, neg_one]; done) | (simp only [Int.ofNat_eq_natCast, neg_one]; omega)) only [tysW, wB, mB, Nat.reduceAdd, Nat.reduceMul, List.length_cons, List.length_nil]
    refine apG (E := EB) (t := s7) g11 hp (o10.from g10.fresh c11) (by omega) (by omega) (Row.of_cells (E := EB) (l := [m]) b11 rfl) (fun _ => rfl) (by omega) fun p12 h12 s12 g12 l12 o12 e12 => ?_
    have bmore := badD_more hb hbad hm
    refine ValS.go g12 hp (s35 (d := d) hN g12.fresh o12.sl (by omega) (allBytes_append hb fun z hz => by rw [List.mem_singleton.1 hz]; exact hm)) fun h13 s13 g13 c13 => ?_
    rw [bmore]
    try simp (disch := first | assumption | omega | (simp only [Int.ofNat_eq_natCast, neg_one]; done) | (simp only [Int.ofNat_eq_natCast, neg_one]; omega)) only [tysW, wB, mB, Nat.reduceAdd, Nat.reduceMul, List.length_cons, List.length_nil]
    exact t2 _ g13
end
end Go.Ev.R

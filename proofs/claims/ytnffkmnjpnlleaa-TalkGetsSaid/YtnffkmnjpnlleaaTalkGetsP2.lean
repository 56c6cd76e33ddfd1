/- The law TalkGets, part 2: what the functions answer, by their terms. No condition. -/
import Derived.Test.YtnffkmnjpnlleaaTalkGetsP1
set_option linter.unusedVariables false
set_option linter.unusedSimpArgs false
set_option maxRecDepth 100000
namespace Go.Ev.R
open Go Go.RowKit
/-- What is read of a telling. -/
structure ET where
  sen : Int
  seq : Int
  err : Int
  nl : List Int
  ex : Bool
  b : BD
  st : RS
def stepT (y : ET) (c : UInt8) : ET :=
  if c = 115 then { y with sen := (oneR 1 y.st).1, st := (oneR 1 y.st).2 }
  else if c = 113 then { y with seq := (oneR 4 y.st).1, st := (oneR 4 y.st).2 }
  else if c = 101 then { y with err := (oneR 1 y.st).1, st := (oneR 1 y.st).2 }
  else if c = 110 then { y with nl := (listR y.st).1, st := (listR y.st).2 }
  else if c = 120 then { y with ex := (truthR y.st).1, st := (truthR y.st).2 }
  else { y with b := (belP y.st).1, st := (belP y.st).2 }
def startT (b : List Int) : ET := ⟨0, 0, 0, [], false, bd0, (oneR 1 (b, false)).2⟩
def decT (b : List Int) : ET := (telT (kindD b)).foldl stepT (startT b)
def tvD (k : Int) (y : ET) (p1 p2 p3 : Option Addr) : TV := ⟨k, y.sen, y.seq, y.err, p1, y.nl.length, y.nl.length, y.ex, bvD y.b p2 p3⟩
noncomputable def badG (b : List Int) : Bool := (decT b).st.2 || (!(decT b).st.1.isEmpty || badT (tvD (kindD b) (decT b) none none none) (decT b).b.pl)
theorem badT_p (k : Int) (y : ET) (pl : List Int) (p1 p2 p3 q1 q2 q3 : Option Addr) : badT (tvD k y p1 p2 p3) pl = badT (tvD k y q1 q2 q3) pl := rfl
def Small (y : ET) : Prop := allBytes y.st.1 ∧ y.nl.length ≤ 24 ∧ y.b.xl.length ≤ 24 ∧ y.b.pl.length ≤ 576
theorem belP_bytes {x : RS} (hb : allBytes x.1) : allBytes (belP x).2.1 ∧ (belP x).2.1.length ≤ x.1.length ∧ (belP x).1.xl.length ≤ 24 ∧ (belP x).1.pl.length ≤ 576 := by
  have h5 := bytes5 hb
  have h6 := bytes6 hb
  unfold belP
  split
  · exact ⟨h6.1, h6.2.1, by simp [bd0], by simp [bd0]⟩
  · refine ⟨h6.1, h6.2.1, h5.2.2, ?_⟩
    show (fill _ _).length ≤ _
    rw [fill_len]
    calc _ ≤ 24 * 24 := Nat.mul_le_mul h5.2.2 h5.2.2
    _ = 576 := rfl
theorem stepT_small {y : ET} {c : UInt8} (hb : Small y) : Small (stepT y c) ∧ (stepT y c).st.1.length ≤ y.st.1.length := by
  obtain ⟨h1, h2, h3, h4⟩ := hb
  unfold stepT
  split
  · exact ⟨⟨(oneR_bytes h1).1, h2, h3, h4⟩, (oneR_bytes h1).2⟩
  split
  · exact ⟨⟨(oneR_bytes h1).1, h2, h3, h4⟩, (oneR_bytes h1).2⟩
  split
  · exact ⟨⟨(oneR_bytes h1).1, h2, h3, h4⟩, (oneR_bytes h1).2⟩
  split
  · exact ⟨⟨(listR_bytes h1).1, (listR_bytes h1).2.2, h3, h4⟩, (listR_bytes h1).2.1⟩
  split
  · exact ⟨⟨(truthR_bytes h1).1, h2, h3, h4⟩, (truthR_bytes h1).2⟩
  · have := belP_bytes h1
    exact ⟨⟨this.1, h2, this.2.2.1, this.2.2.2⟩, this.2.1⟩
theorem foldT_small : ∀ (l : List UInt8) {y : ET}, Small y → Small (l.foldl stepT y) ∧ (l.foldl stepT y).st.1.length ≤ y.st.1.length
  | [], y, h => ⟨h, Nat.le_refl _⟩
  | c :: l, y, h => by
    have h1 := stepT_small (c := c) h
    have h2 := foldT_small l h1.1
    exact ⟨h2.1, Nat.le_trans h2.2 h1.2⟩
theorem foldT_next {l : List UInt8} {i : Nat} {c : UInt8} (hc : l[i]? = some c) (y : ET) : (l.take (i + 1)).foldl stepT y = stepT ((l.take i).foldl stepT y) c := by
  rw [List.take_add_one, hc, List.foldl_append]; rfl
theorem startT_small {b : List Int} (hb : allBytes b) : Small (startT b) := ⟨(oneR_bytes (w := 1) (x := (b, false)) hb).1, by simp [startT], by simp [startT, bd0], by simp [startT, bd0]⟩
theorem decT_small {b : List Int} (hb : allBytes b) : Small (decT b) := (foldT_small _ (startT_small hb)).1
abbrev tv0 : List Value := [vi 0, vi 0, vi 0, vi 0, .slice none 0 0, .bool false, vi 0, .slice none 0 0, .slice none 0 0, .bool false, vi 0, vi 0]
noncomputable def GotT (h : T) (s : Nat) (v : Value) (b : List Int) : Prop :=
  if badG b = true then v = .tuple ⟨[.agg ⟨tv0⟩, vi 5]⟩
  else ∃ p1 p2 p3, v = .tuple ⟨[.agg ⟨tvv (tvD (kindD b) (decT b) p1 p2 p3)⟩, vi 0]⟩ ∧ OwnG EI 3 h s p1 (decT b).nl.length (decT b).nl ∧ OwnG EI 3 h s p2 (decT b).b.xl.length (decT b).b.xl ∧ OwnG EI 3 h s p3 (decT b).b.pl.length (decT b).b.pl
/-- The lists that were read. -/
structure OwnT (h : T) (s : Nat) (y : ET) (p1 p2 p3 : Option Addr) : Prop where
  n : OwnG EI 3 h s p1 y.nl.length y.nl
  x : OwnG EI 3 h s p2 y.b.xl.length y.b.xl
  p : OwnG EI 3 h s p3 y.b.pl.length y.b.pl
theorem OwnT.but {h h' : T} {s s' : Nat} {y : ET} {p1 p2 p3 : Option Addr} (o : OwnT h s y p1 p2 p3) (hf : ∀ n, s' ≤ n → h.get n = none) (e : ∀ i, s ≤ i → i < s' → (∀ a b, h.get i ≠ some (.stringIter a b)) → h'.get i = h.get i) : OwnT h' s y p1 p2 p3 := by
  have k : ∀ {p : Option Addr} {len : Nat} {l : List Int}, OwnG EI 3 h s p len l → OwnG EI 3 h' s p len l := by
    intro p len l o
    refine o.but fun hp => ?_
    have := o.lt hf hp
    exact e _ this.1 this.2 fun a b hb => o.ne hb hp rfl
  exact ⟨k o.n, k o.x, k o.p⟩
section
variable {N d : Nat} (hN : N = 100000) {h : T} {s : Nat} (hf : ∀ n, s ≤ n → h.get n = none)
include hN hf
theorem s71 {p : Option Addr} {len cap : Nat} {b : List Int} (r : Sl EB h p len cap b) (hl : len ≤ 50000) (hb : allBytes b) : PureS (D N (d + 12)) 71 [.slice p len cap] h s (fun v h' s' => GotT h' s v b) := by
  refine PureS.of hf fun K pw Z g hp hk => ?_
  rw [D_71]; unfold F71; rw [app1_eq]
  unfold X71_4
  have hlen := r.row.1
  try simp (disch := first | assumption | omega | (simp only [Int.ofNat_eq_natCast, neg_one]; done) | (simp only [Int.ofNat_eq_natCast, neg_one]; omega)) only [tysW, wB, mB, Nat.reduceAdd, Nat.reduceMul, List.length_cons, List.length_nil]
  refine wp_boxA g hp fun h1 g1 c1 b1 => ?_
  refine PureS.go g1 hp (s112 (d := d + 10) g1.fresh (r.from hf g1) (by omega)) fun v h2 s2 g2 c2 hv => ?_
  obtain ⟨p2, rfl, o2⟩ := hv
  have l2 := c2.le
  replace b1 := c2.box b1 (by omega)
  try simp (disch := first | assumption | omega | (simp only [Int.ofNat_eq_natCast, neg_one]; done) | (simp only [Int.ofNat_eq_natCast, neg_one]; omega)) only [tysW, wB, mB, Nat.reduceAdd, Nat.reduceMul, List.length_cons, List.length_nil]
  refine wp_boxA g2 hp fun h3 g3 c3 b3 => ?_
  replace b1 := c3.box b1 (by omega)
  have o3 := o2.from g2.fresh c3
  try simp (disch := first | assumption | omega | (simp only [Int.ofNat_eq_natCast, neg_one]; done) | (simp only [Int.ofNat_eq_natCast, neg_one]; omega)) only [tysW, wB, mB, Nat.reduceAdd, Nat.reduceMul, List.length_cons, List.length_nil]
  refine wp_putF g3 hp b3 (by omega) (by simp) rfl fun h4 g4 b4 e4 => ?_
  simp only [overL] at b4
  replace b1 := (e4 s (by omega)).trans b1
  have o4 := o3.but fun hp => e4 _ (by have := o2.lt g2.fresh hp; omega)
  have R4 : RdAt h4 s2 135 (b, false) (eqN s2) := ⟨p2, len, len, b4, o4.sl, fun hc => by
    have hp2 : p2 ≠ none := fun hn => hc (by have := o4.sl.non hn; exact this)
    have := o2.lt g2.fresh hp2; exact ⟨by omega, fun e => by have e : blk p2 = s2 := e; omega⟩⟩
  refine s113 (d := d + 7) (w := 1) hN g4 hp (by omega) hb (by show b.length ≤ 50000; omega) (.inl rfl) (by omega) R4 fun h5 s5 g5 l5 R5 e5 => ?_
  replace b1 := (e5 s (by omega) (by omega)).trans b1
  have hb5 := oneR_bytes (w := 1) (x := (b, false)) hb
  try simp (disch := first | assumption | omega | (simp only [Int.ofNat_eq_natCast, neg_one]; done) | (simp only [Int.ofNat_eq_natCast, neg_one]; omega)) only [tysW, wB, mB, Nat.reduceAdd, Nat.reduceMul, List.length_cons, List.length_nil]
  refine wp_boxA g5 hp fun h6 g6 c6 b6 => ?_
  replace b1 := c6.box b1 (by omega)
  have R6 := (R5.other (h' := h6) g5.fresh (Nat.le_refl s5)).from g5.fresh c6
  try simp (disch := first | assumption | omega | (simp only [Int.ofNat_eq_natCast, neg_one]; done) | (simp only [Int.ofNat_eq_natCast, neg_one]; omega)) only [tysW, wB, mB, Nat.reduceAdd, Nat.reduceMul, List.length_cons, List.length_nil]
  refine wp_putF g6 hp b6 (by omega) (by simp) rfl fun h7 g7 b7 e7 => ?_
  simp only [overL] at b7
  replace b1 := (e7 s (by omega)).trans b1
  have R7 := R6.but (by omega) e7
  refine PureS.goL g7 hp (s108 (d := d + 10) g7.fresh) fun v h8 s8 ts8 ws8 g8 c8 hv hw8 ht8 => ?_
  obtain ⟨m, rfl, hm, bm⟩ := hv
  have l8 := c8.le
  replace b1 := c8.box b1 (by omega)
  replace b7 := c8.box b7 (by omega)
  have R8 := R7.from g7.fresh c8
  try simp (disch := first | assumption | omega | (simp only [Int.ofNat_eq_natCast, neg_one]; done) | (simp only [Int.ofNat_eq_natCast, neg_one]; omega)) only [tysW, wB, mB, Nat.reduceAdd, Nat.reduceMul, List.length_cons, List.length_nil, ldB b7, clB b7, ldBL b7, clBL b7]
  unfold X71_3
  refine log_wp (W := fun _ => False) (Q := fun v h' s' => v = txt (telT (kindD b)) ∧ h' = h8 ∧ s' = s8) ?_ (fun n hn => hn.elim) ?_
  · rw [show (oneR 1 (b, false)).1 = kindD b from rfl, wp_tel bm]
    exact ⟨_, _, rfl, rfl, rfl, rfl⟩
  rintro v h9 s9 ts9 ws9 ⟨rfl, rfl, rfl⟩ hw9 ht9
  replace hw9 : ∀ n ∈ ws9, s9 ≤ n ∧ n < s9 := fun n hn => (hw9 n hn).1.elim
  replace ht9 : ∀ n ∈ ts9, n < s9 := fun n hn => lt_of_some g8.fresh (ht9 n hn)
  try simp (disch := first | assumption | omega | (simp only [Int.ofNat_eq_natCast, neg_one]; done) | (simp only [Int.ofNat_eq_natCast, neg_one]; omega)) only [tysW, wB, mB, Nat.reduceAdd, Nat.reduceMul, List.length_cons, List.length_nil, rng9]
  refine wp_newL (q := fun b => ptr b) g8 hp fun h10 g10 c10 b10 => ?_
  replace b1 := c10.box b1 (by omega)
  replace b7 := c10.box b7 (by omega)
  have R10 := R8.from g8.fresh c10
  rw [wp_guard, if_pos (by repeat' (first | exact dynOk_nil _ _ | refine dyn_skip' ?_ | refine dyn_cons ?_ ?_ | exact allF_nil _ _ | refine allF_cons ?_ ?_ | exact disj_below hw8 (by omega) | exact disjA hw8 (by omega) | exact disjB hw8 (by omega) | exact disjC hw8 (by assumption) | exact disjD (fun m hm => by have := hw8 m hm; omega) | exact disj_below ht8 (by omega) | exact disjA ht8 (by omega) | exact disjB ht8 (by omega) | exact disjC ht8 (by assumption) | exact disjD (fun m hm => by have := ht8 m hm; omega) | exact disj_below hw9 (by omega) | exact disjA hw9 (by omega) | exact disjB hw9 (by omega) | exact disjC hw9 (by assumption) | exact disjD (fun m hm => by have := hw9 m hm; omega) | exact disj_below ht9 (by omega) | exact disjA ht9 (by omega) | exact disjB ht9 (by omega) | exact disjC ht9 (by assumption) | exact disjD (fun m hm => by have := ht9 m hm; omega) | exact disjN _ | exact disj1 (by omega) | exact disj2 (by omega) | exact disj3 (by assumption) | exact disjC hw8 (fun m hm => by have := ht8 m hm; omega) | exact disjC hw8 (fun m hm => by have := hw9 m hm; omega) | exact disjC hw8 (fun m hm => by have := ht9 m hm; omega) | exact disjC ht8 (fun m hm => by have := hw8 m hm; omega) | exact disjC ht8 (fun m hm => by have := hw9 m hm; omega) | exact disjC ht8 (fun m hm => by have := ht9 m hm; omega) | exact disjC hw9 (fun m hm => by have := hw8 m hm; omega) | exact disjC hw9 (fun m hm => by have := ht8 m hm; omega) | exact disjC hw9 (fun m hm => by have := ht9 m hm; omega) | exact disjC ht9 (fun m hm => by have := hw8 m hm; omega) | exact disjC ht9 (fun m hm => by have := ht8 m hm; omega) | exact disjC ht9 (fun m hm => by have := hw9 m hm; omega)))]
  have R10 : RdAt h10 s2 135 (startT b).st (eqN s5) := R10
  have b7 : h10.get s5 = some (.cells ⟨tvv (tvD (kindD b) (startT b) none none none)⟩ 60 (0, 0)) := b7
  have sst := startT_small hb
  have loop : ∀ (J : Nat → AM) (hJ : ∀ p1 p2 p3 h1 s1, From s h h1 s1 → s9 + 1 ≤ s1 → h1.get s = some (.cells ⟨tv0⟩ 60 (0, 0)) → h1.get s5 = some (.cells ⟨tvv (tvD (kindD b) (decT b) p1 p2 p3)⟩ 60 (0, 0)) → OwnT h1 (s5 + 1) (decT b) p1 p2 p3 → RdAt h1 s2 135 (decT b).st (eqN s5) → (J s1).wp pw Z h1) (B : (Nat → AM) → Nat → AM) (hB : ∀ H s', B H s' = X71_2 N (D N (d + 11)) K (ptr s9) (ptr s2) (ptr s5) J H s') (n i : Nat) (p1 p2 p3 : Option Addr) (h1 : T) (s1 : Nat) (y : ET), y = ((telT (kindD b)).take i).foldl stepT (startT b) → (telT (kindD b)).length - i < n → i ≤ (telT (kindD b)).length → From s h h1 s1 → s9 + 1 ≤ s1 → h1.get s = some (.cells ⟨tv0⟩ 60 (0, 0)) → h1.get s5 = some (.cells ⟨tvv (tvD (kindD b) y p1 p2 p3)⟩ 60 (0, 0)) → OwnT h1 (s5 + 1) y p1 p2 p3 → RdAt h1 s2 135 y.st (eqN s5) → h1.get s9 = some (.stringIter ⟨⟨telT (kindD b)⟩⟩ i) →
      (loopJ n 0 (fun _ => AM.fail) B s1).wp pw Z h1 := by
    intro J hJ B hB n
    induction n with
    | zero => intro i p1 p2 p3 h1 s1 y hy hn; omega
    | succ n ih =>
      intro i p1 p2 p3 h1 s1 y hy hn hi g1 hs1 b1 bx o1 R1 bi
      have hle := tel_le (kindD b)
      have hby := foldT_small ((telT (kindD b)).take i) sst
      rw [← hy] at hby
      have hyb := hby.1.1
      have hyl : y.st.1.length ≤ 50000 := by
        have h1 := hby.2
        have h2 : (startT b).st.1.length ≤ b.length := hb5.2
        omega
      rw [loopJ_succ, hB]
      unfold X71_2
      by_cases hlt : i < (telT (kindD b)).length
      · obtain ⟨c, hc⟩ := get_some (l := telT (kindD b)) (i := i) hlt
        have hcm := tel_mem (List.mem_of_getElem? hc)
        refine wp_next g1 hp bi (by omega) hc (by rcases hcm with rfl | rfl | rfl | rfl | rfl | rfl <;> decide) fun h2 g2 bi2 e2 => ?_
        replace b1 := (e2 s (by omega)).trans b1
        replace bx := (e2 s5 (by omega)).trans bx
        replace o1 := o1.but g1.fresh fun j h3 h4 h5 => e2 j fun he => by rw [he] at h5; exact h5 _ _ bi
        replace R1 := R1.iter bi e2
        have hnext : stepT y c = ((telT (kindD b)).take (i + 1)).foldl stepT (startT b) := by rw [foldT_next hc, ← hy]
        have hxb : ∀ n, eqN s5 n → n < s1 := fun n (hn : n = s5) => by omega
        have kp : ∀ {h3 : T} {s3 : Nat}, (∀ i, i < s1 → i ≠ s2 → h3.get i = h2.get i) → h3.get s = some (.cells ⟨tv0⟩ 60 (0, 0)) ∧ h3.get s5 = some (.cells ⟨tvv (tvD (kindD b) y p1 p2 p3)⟩ 60 (0, 0)) ∧ h3.get s9 = some (.stringIter ⟨⟨telT (kindD b)⟩⟩ (i + 1)) ∧ OwnT h3 (s5 + 1) y p1 p2 p3 := fun e3 => ⟨(e3 s (by omega) (by omega)).trans b1, (e3 s5 (by omega) (by omega)).trans bx, (e3 s9 (by omega) (by omega)).trans bi2, o1.but g2.fresh fun j h3 h4 h5 => e3 j h4 (by omega)⟩
        rcases hcm with rfl | rfl | rfl | rfl | rfl | rfl
        · try simp (disch := first | assumption | omega | (simp only [Int.ofNat_eq_natCast, neg_one]; done) | (simp only [Int.ofNat_eq_natCast, neg_one]; omega)) only [tysW, wB, mB, Nat.reduceAdd, Nat.reduceMul, List.length_cons, List.length_nil, eqc32, UInt8.reduceToNat, Nat.reduceBEq]
          refine s113A (d := d + 7) (w := 1) hN g2 hp (by omega) hyb hyl (.inl rfl) hxb R1 fun h3 s3 g3 l3 R3 e3 => ?_
          obtain ⟨b1, bx, bi2, o1⟩ := kp (s3 := s3) e3
          try simp (disch := first | assumption | omega | (simp only [Int.ofNat_eq_natCast, neg_one]; done) | (simp only [Int.ofNat_eq_natCast, neg_one]; omega)) only [tysW, wB, mB, Nat.reduceAdd, Nat.reduceMul, List.length_cons, List.length_nil]
          refine wp_putF g3 hp bx (by omega) (by simp [tvv]) rfl fun h4 g4 b4 e4 => ?_
          simp only [overL, tvv] at b4
          have o4 := o1.but g3.fresh fun j h5 h6 h7 => e4 j (by omega)
          exact ih (i + 1) p1 p2 p3 h4 s3 (stepT y 115) hnext (by omega) (by omega) g4 (by omega) ((e4 s (by omega)).trans b1) b4 ⟨o4.n, o4.x, o4.p⟩ (R3.but (by omega) e4) ((e4 s9 (by omega)).trans bi2)
        · try simp (disch := first | assumption | omega | (simp only [Int.ofNat_eq_natCast, neg_one]; done) | (simp only [Int.ofNat_eq_natCast, neg_one]; omega)) only [tysW, wB, mB, Nat.reduceAdd, Nat.reduceMul, List.length_cons, List.length_nil, eqc32, UInt8.reduceToNat, Nat.reduceBEq]
          refine s113A (d := d + 7) (w := 4) hN g2 hp (by omega) hyb hyl (.inr (.inr (.inl rfl))) hxb R1 fun h3 s3 g3 l3 R3 e3 => ?_
          obtain ⟨b1, bx, bi2, o1⟩ := kp (s3 := s3) e3
          try simp (disch := first | assumption | omega | (simp only [Int.ofNat_eq_natCast, neg_one]; done) | (simp only [Int.ofNat_eq_natCast, neg_one]; omega)) only [tysW, wB, mB, Nat.reduceAdd, Nat.reduceMul, List.length_cons, List.length_nil]
          refine wp_putF g3 hp bx (by omega) (by simp [tvv]) rfl fun h4 g4 b4 e4 => ?_
          simp only [overL, tvv] at b4
          have o4 := o1.but g3.fresh fun j h5 h6 h7 => e4 j (by omega)
          exact ih (i + 1) p1 p2 p3 h4 s3 (stepT y 113) hnext (by omega) (by omega) g4 (by omega) ((e4 s (by omega)).trans b1) b4 ⟨o4.n, o4.x, o4.p⟩ (R3.but (by omega) e4) ((e4 s9 (by omega)).trans bi2)
        · try simp (disch := first | assumption | omega | (simp only [Int.ofNat_eq_natCast, neg_one]; done) | (simp only [Int.ofNat_eq_natCast, neg_one]; omega)) only [tysW, wB, mB, Nat.reduceAdd, Nat.reduceMul, List.length_cons, List.length_nil, eqc32, UInt8.reduceToNat, Nat.reduceBEq]
          refine s113A (d := d + 7) (w := 1) hN g2 hp (by omega) hyb hyl (.inl rfl) hxb R1 fun h3 s3 g3 l3 R3 e3 => ?_
          obtain ⟨b1, bx, bi2, o1⟩ := kp (s3 := s3) e3
          try simp (disch := first | assumption | omega | (simp only [Int.ofNat_eq_natCast, neg_one]; done) | (simp only [Int.ofNat_eq_natCast, neg_one]; omega)) only [tysW, wB, mB, Nat.reduceAdd, Nat.reduceMul, List.length_cons, List.length_nil]
          refine wp_putF g3 hp bx (by omega) (by simp [tvv]) rfl fun h4 g4 b4 e4 => ?_
          simp only [overL, tvv] at b4
          have o4 := o1.but g3.fresh fun j h5 h6 h7 => e4 j (by omega)
          exact ih (i + 1) p1 p2 p3 h4 s3 (stepT y 101) hnext (by omega) (by omega) g4 (by omega) ((e4 s (by omega)).trans b1) b4 ⟨o4.n, o4.x, o4.p⟩ (R3.but (by omega) e4) ((e4 s9 (by omega)).trans bi2)
        · try simp (disch := first | assumption | omega | (simp only [Int.ofNat_eq_natCast, neg_one]; done) | (simp only [Int.ofNat_eq_natCast, neg_one]; omega)) only [tysW, wB, mB, Nat.reduceAdd, Nat.reduceMul, List.length_cons, List.length_nil, eqc32, UInt8.reduceToNat, Nat.reduceBEq]
          refine s114A (d := d + 6) hN g2 hp (by omega) hyb hyl hxb R1 fun q1 h3 s3 g3 l3 R3 oq e3 => ?_
          obtain ⟨b1, bx, bi2, o1⟩ := kp (s3 := s3) e3
          have oql := oq.lt g3.fresh
          try simp (disch := first | assumption | omega | (simp only [Int.ofNat_eq_natCast, neg_one]; done) | (simp only [Int.ofNat_eq_natCast, neg_one]; omega)) only [tysW, wB, mB, Nat.reduceAdd, Nat.reduceMul, List.length_cons, List.length_nil]
          refine wp_putF g3 hp bx (by omega) (by simp [tvv]) rfl fun h4 g4 b4 e4 => ?_
          simp only [overL, tvv] at b4
          have o4 := o1.but g3.fresh fun j h5 h6 h7 => e4 j (by omega)
          exact ih (i + 1) q1 p2 p3 h4 s3 (stepT y 110) hnext (by omega) (by omega) g4 (by omega) ((e4 s (by omega)).trans b1) b4 ⟨(oq.but fun hp => e4 _ (by have := oql hp; omega)).less (by omega), o4.x, o4.p⟩ (R3.but (by omega) e4) ((e4 s9 (by omega)).trans bi2)
        · try simp (disch := first | assumption | omega | (simp only [Int.ofNat_eq_natCast, neg_one]; done) | (simp only [Int.ofNat_eq_natCast, neg_one]; omega)) only [tysW, wB, mB, Nat.reduceAdd, Nat.reduceMul, List.length_cons, List.length_nil, eqc32, UInt8.reduceToNat, Nat.reduceBEq]
          refine s134 (d := d + 6) hN g2 hp (by omega) hyb hyl hxb R1 fun h3 s3 g3 l3 R3 e3 => ?_
          obtain ⟨b1, bx, bi2, o1⟩ := kp (s3 := s3) e3
          try simp (disch := first | assumption | omega | (simp only [Int.ofNat_eq_natCast, neg_one]; done) | (simp only [Int.ofNat_eq_natCast, neg_one]; omega)) only [tysW, wB, mB, Nat.reduceAdd, Nat.reduceMul, List.length_cons, List.length_nil]
          refine wp_putF g3 hp bx (by omega) (by simp [tvv]) rfl fun h4 g4 b4 e4 => ?_
          simp only [overL, tvv] at b4
          have o4 := o1.but g3.fresh fun j h5 h6 h7 => e4 j (by omega)
          exact ih (i + 1) p1 p2 p3 h4 s3 (stepT y 120) hnext (by omega) (by omega) g4 (by omega) ((e4 s (by omega)).trans b1) b4 ⟨o4.n, o4.x, o4.p⟩ (R3.but (by omega) e4) ((e4 s9 (by omega)).trans bi2)
        · try simp (disch := first | assumption | omega | (simp only [Int.ofNat_eq_natCast, neg_one]; done) | (simp only [Int.ofNat_eq_natCast, neg_one]; omega)) only [tysW, wB, mB, Nat.reduceAdd, Nat.reduceMul, List.length_cons, List.length_nil, eqc32, UInt8.reduceToNat, Nat.reduceBEq]
          refine s135 (d := d + 5) hN g2 hp (by omega) hyb hyl hxb R1 fun q2 q3 h3 s3 g3 l3 R3 ox op e3 => ?_
          obtain ⟨b1, bx, bi2, o1⟩ := kp (s3 := s3) e3
          have oxl := ox.lt g3.fresh
          have opl := op.lt g3.fresh
          try simp (disch := first | assumption | omega | (simp only [Int.ofNat_eq_natCast, neg_one]; done) | (simp only [Int.ofNat_eq_natCast, neg_one]; omega)) only [tysW, wB, mB, Nat.reduceAdd, Nat.reduceMul, List.length_cons, List.length_nil, bvv]
          refine wp_putF g3 hp bx (by omega) (by simp [tvv]) rfl fun h4 g4 b4 e4 => ?_
          simp only [overL, tvv] at b4
          have o4 := o1.but g3.fresh fun j h5 h6 h7 => e4 j (by omega)
          exact ih (i + 1) p1 q2 q3 h4 s3 (stepT y 98) hnext (by omega) (by omega) g4 (by omega) ((e4 s (by omega)).trans b1) b4 ⟨o4.n, (ox.but fun hp => e4 _ (by have := oxl hp; omega)).less (by omega), (op.but fun hp => e4 _ (by have := opl hp; omega)).less (by omega)⟩ (R3.but (by omega) e4) ((e4 s9 (by omega)).trans bi2)
      · obtain rfl : i = (telT (kindD b)).length := by omega
        rw [wp_last bi]
        try simp (disch := first | assumption | omega | (simp only [Int.ofNat_eq_natCast, neg_one]; done) | (simp only [Int.ofNat_eq_natCast, neg_one]; omega)) only [tysW, wB, mB, Nat.reduceAdd, Nat.reduceMul, List.length_cons, List.length_nil]
        rw [List.take_of_length_le (Nat.le_refl _)] at hy
        have hy : y = decT b := hy
        subst hy
        exact hJ p1 p2 p3 h1 s1 g1 hs1 b1 bx o1 R1
  have hle := tel_le (kindD b)
  refine loop _ (fun p1 p2 p3 h1 s1 g1 hs1 b1 bx o1 R1 => ?_) _ (fun _ _ => rfl) N 0 none none none h10 (s9 + 1) (startT b) rfl (by omega) (by omega) g10 (Nat.le_refl _) b1 b7 ⟨.nil, .nil, .nil⟩ R10 b10
  have hsm := decT_small hb
  obtain ⟨pr, lr, cr, br, slr, -⟩ := R1
  have hlr := slr.row.1
  simp only [tvv] at bx
  have bad : badG b = true → ∀ {h2 : T} {s2' : Nat}, From s h h2 s2' → (K (.tuple ⟨[.agg ⟨[i64 0, i64 0, i64 0, i64 0, .slice none 0 0, .bool false, i64 0, .slice none 0 0, .slice none 0 0, .bool false, i64 0, i64 0]⟩, i64 5]⟩) s2').wp pw Z h2 := fun hb h2 s2' g2 => hk _ _ _ g2 (by unfold GotT; rw [if_pos hb]; rfl)
  cases hst : (decT b).st.2 with
  | true =>
    rw [hst] at br
    try simp (disch := first | assumption | omega | (simp only [Int.ofNat_eq_natCast, neg_one]; done) | (simp only [Int.ofNat_eq_natCast, neg_one]; omega)) only [tysW, wB, mB, Nat.reduceAdd, Nat.reduceMul, List.length_cons, List.length_nil, ldB br, clB br, ldBL br, clBL br]
    unfold X71_1
    try simp (disch := first | assumption | omega | (simp only [Int.ofNat_eq_natCast, neg_one]; done) | (simp only [Int.ofNat_eq_natCast, neg_one]; omega)) only [tysW, wB, mB, Nat.reduceAdd, Nat.reduceMul, List.length_cons, List.length_nil]
    refine wp_putF g1 hp b1 (by omega) (by simp) rfl fun h2 g2 b2 e2 => ?_
    simp only [overL] at b2
    try simp (disch := first | assumption | omega | (simp only [Int.ofNat_eq_natCast, neg_one]; done) | (simp only [Int.ofNat_eq_natCast, neg_one]; omega)) only [tysW, wB, mB, Nat.reduceAdd, Nat.reduceMul, List.length_cons, List.length_nil, ldB b2, clB b2, ldBL b2, clBL b2]
    exact bad (by unfold badG; rw [hst]; rfl) g2
  | false =>
    rw [hst] at br
    by_cases h0 : (0 : Int) < (lr : Int)
    · try simp (disch := first | assumption | omega | (simp only [Int.ofNat_eq_natCast, neg_one]; done) | (simp only [Int.ofNat_eq_natCast, neg_one]; omega)) only [tysW, wB, mB, Nat.reduceAdd, Nat.reduceMul, List.length_cons, List.length_nil, ldB br, clB br, ldBL br, clBL br]
      unfold X71_1
      try simp (disch := first | assumption | omega | (simp only [Int.ofNat_eq_natCast, neg_one]; done) | (simp only [Int.ofNat_eq_natCast, neg_one]; omega)) only [tysW, wB, mB, Nat.reduceAdd, Nat.reduceMul, List.length_cons, List.length_nil]
      refine wp_putF g1 hp b1 (by omega) (by simp) rfl fun h2 g2 b2 e2 => ?_
      simp only [overL] at b2
      try simp (disch := first | assumption | omega | (simp only [Int.ofNat_eq_natCast, neg_one]; done) | (simp only [Int.ofNat_eq_natCast, neg_one]; omega)) only [tysW, wB, mB, Nat.reduceAdd, Nat.reduceMul, List.length_cons, List.length_nil, ldB b2, clB b2, ldBL b2, clBL b2]
      refine bad ?_ g2
      unfold badG
      have : (decT b).st.1 ≠ [] := fun e => by rw [e] at hlr; simp at hlr; omega
      rw [show (decT b).st.1.isEmpty = false by simpa using this]; simp
    · try simp (disch := first | assumption | omega | (simp only [Int.ofNat_eq_natCast, neg_one]; done) | (simp only [Int.ofNat_eq_natCast, neg_one]; omega)) only [tysW, wB, mB, Nat.reduceAdd, Nat.reduceMul, List.length_cons, List.length_nil, ldB br, clB br, ldBL br, clBL br]
      unfold X71_1
      try simp (disch := first | assumption | omega | (simp only [Int.ofNat_eq_natCast, neg_one]; done) | (simp only [Int.ofNat_eq_natCast, neg_one]; omega)) only [tysW, wB, mB, Nat.reduceAdd, Nat.reduceMul, List.length_cons, List.length_nil, ldB bx, clB bx, ldBL bx, clBL bx]
      refine ValS.go g1 hp (s36 (d := d) hN g1.fresh (tvD (kindD b) (decT b) p1 p2 p3) (pl := (decT b).b.pl) o1.p.sl.row (by have := hsm.2.2.2; show (decT b).b.pl.length ≤ 1000; omega) (by have := hsm.2.2.1; show (decT b).b.xl.length ≤ 1000; omega)) fun h2 s2' g2 c2 => ?_
      have lt1 := c2.le
      replace b1 := c2.box b1 (by omega)
      replace bx := c2.box bx (by omega)
      have o2 := o1.but g1.fresh fun j h5 h6 h7 => c2.keep j h6
      rw [badT_p _ _ _ p1 p2 p3 none none none]
      have he : (decT b).st.1 = [] := List.eq_nil_of_length_eq_zero (by omega)
      cases hbs : badT (tvD (kindD b) (decT b) none none none) (decT b).b.pl with
      | true =>
        try simp (disch := first | assumption | omega | (simp only [Int.ofNat_eq_natCast, neg_one]; done) | (simp only [Int.ofNat_eq_natCast, neg_one]; omega)) only [tysW, wB, mB, Nat.reduceAdd, Nat.reduceMul, List.length_cons, List.length_nil, if_true]
        refine wp_putF g2 hp b1 (by omega) (by simp) rfl fun h3 g3 b3 e3 => ?_
        simp only [overL] at b3
        try simp (disch := first | assumption | omega | (simp only [Int.ofNat_eq_natCast, neg_one]; done) | (simp only [Int.ofNat_eq_natCast, neg_one]; omega)) only [tysW, wB, mB, Nat.reduceAdd, Nat.reduceMul, List.length_cons, List.length_nil, ldB b3, clB b3, ldBL b3, clBL b3]
        exact bad (by unfold badG; rw [hbs]; simp) g3
      | false =>
        try simp (disch := first | assumption | omega | (simp only [Int.ofNat_eq_natCast, neg_one]; done) | (simp only [Int.ofNat_eq_natCast, neg_one]; omega)) only [tysW, wB, mB, Nat.reduceAdd, Nat.reduceMul, List.length_cons, List.length_nil, ldB bx, clB bx, ldBL bx, clBL bx, Bool.false_eq_true, if_false]
        refine wp_putF g2 hp b1 (by omega) (by simp) rfl fun h3 g3 b3 e3 => ?_
        simp only [overL] at b3
        try simp (disch := first | assumption | omega | (simp only [Int.ofNat_eq_natCast, neg_one]; done) | (simp only [Int.ofNat_eq_natCast, neg_one]; omega)) only [tysW, wB, mB, Nat.reduceAdd, Nat.reduceMul, List.length_cons, List.length_nil, ldB b3, clB b3, ldBL b3, clBL b3]
        have o3 := o2.but g2.fresh fun j h5 h6 h7 => e3 j (by omega)
        refine hk _ _ _ g3 ?_
        unfold GotT
        rw [if_neg (by unfold badG; rw [hst, he, hbs]; simp)]
        exact ⟨p1, p2, p3, rfl, o3.n.less (by omega), o3.x.less (by omega), o3.p.less (by omega)⟩
end
end Go.Ev.R
namespace Go.Ev.R
open Go Go.RowKit
section
variable {N : Nat} (hN : N = 100000) {C : CallT} {h0 h : T} {s0 s1 bb pb : Nat} {K : KV} {pw : Nat → Prop} {Z : Value → T → Prop} (g : From s0 h0 h s1) (hp : ∀ n, s0 ≤ n → pw n) {a p q : Int} {f : Bool} {sx : Value} {n : Nat} (h6 : n ≤ 6) (hbx : h.get bb = some (.cells ⟨[vi a, sx, .slice (some ⟨pb, 0, none⟩) (n * n) (n * n), .bool f, vi p, vi q]⟩ 58 (0, 0))) (hpb : s0 ≤ pb) {P0 : List Int} (hP : h.get pb = some (.cells ⟨P0.flatMap EI.f⟩ 3 (0, 0))) (hPl : P0.length = n * n) {pu : Option Addr} {cu : Nat} {u0 : List Int} (su : Sl EI h pu u0.length cu u0) (hpu : cu ≠ 0 → blk pu ≠ pb) (hu : u0.length = triR n)
include hN g hp h6 hbx hpb hP hPl su hpu hu
theorem fill137 {J : Nat → AM} (hk : ∀ h', From s0 h0 h' s1 → h'.get pb = some (.cells ⟨(fillI n n 0 P0 u0).1.flatMap EI.f⟩ 3 (0, 0)) → (∀ i, i ≠ pb → h'.get i = h.get i) → (J s1).wp pw Z h') :
    ((loopJ N 2 (fun _ _ _ => AM.fail) (X137_4 N C K (vi n) (ptr bb) (.slice pu u0.length cu) J) : Value → Value → Nat → AM) (vi 0) (vi 0) s1).wp pw Z h := by
  have hbp : bb ≠ pb := fun e => by rw [e, hP] at hbx; simp at hbx
  have hsq : n * n ≤ 36 := by
    calc n * n ≤ 6 * 6 := Nat.mul_le_mul h6 h6
    _ = 36 := rfl
  have htr : triR n ≤ 21 := by rw [← tri_triR h6]; exact tri_le n
  have outer : ∀ (B : (Value → Value → Nat → AM) → Value → Value → Nat → AM) (hB : ∀ H u v s', B H u v s' = X137_4 N C K (vi n) (ptr bb) (.slice pu u0.length cu) J H u v s') (m i at_ : Nat) (PP u : List Int) (h2 : T), n - i < m → i ≤ n → From s0 h0 h2 s1 → h2.get pb = some (.cells ⟨PP.flatMap EI.f⟩ 3 (0, 0)) → PP.length = n * n → u = u0.drop at_ → at_ + triR (n - i) = u0.length → fillI n (n - i) i PP u = fillI n n 0 P0 u0 → (∀ i, i ≠ pb → h2.get i = h.get i) →
      (loopJ m 2 (fun _ _ _ => AM.fail) B (vi at_) (vi i) s1).wp pw Z h2 := by
    intro B hB m
    induction m with
    | zero => intro i at_ PP u h2 hm; omega
    | succ m ih =>
      intro i at_ PP u h2 hm hi g2 hP hPl hud hat hT e2
      rw [loopJ_succ, hB]
      unfold X137_4
      by_cases hlt : i < n
      · try simp (disch := first | assumption | omega | (simp only [Int.ofNat_eq_natCast, neg_one]; done) | (simp only [Int.ofNat_eq_natCast, neg_one]; omega)) only [tysW, wB, mB, Nat.reduceAdd, Nat.reduceMul, List.length_cons, List.length_nil]
        obtain ⟨r, hr⟩ : ∃ r, n - i = r + 1 := ⟨n - i - 1, by omega⟩
        have inner : ∀ (J2 : Value → Nat → AM) (hJ2 : ∀ u s', J2 u s' = addX P 3 3 false true (vi i) (i64 1) (fun v45 s => loopJ m 2 (fun _ _ _ => AM.fail) B u v45 s) s') (B2 : (Value → Value → Nat → AM) → Value → Value → Nat → AM) (hB2 : ∀ H u v s', B2 H u v s' = X137_3 N C K (vi n) (ptr bb) (vi i) (.slice pu u0.length cu) J2 H u v s') (m2 k a2 : Nat) (P1 u1 : List Int) (h3 : T), n - k < m2 → k ≤ n → From s0 h0 h3 s1 → h3.get pb = some (.cells ⟨P1.flatMap EI.f⟩ 3 (0, 0)) → P1.length = n * n → u1 = u0.drop a2 → a2 + ((n - k) + triR r) = u0.length → fillK n i (n - k) k P1 u1 = fillK n i (n - i) i PP u → (∀ i, i ≠ pb → h3.get i = h.get i) →
            (loopJ m2 2 (fun _ _ _ => AM.fail) B2 (vi a2) (vi k) s1).wp pw Z h3 := by
          intro J2 hJ2 B2 hB2 m2
          induction m2 with
          | zero => intro k a2 P1 u1 h3 hm2; omega
          | succ m2 ih2 =>
            intro k a2 P1 u1 h3 hm2 hk g3 hP3 hPl3 hu3 ha3 hT3 e3
            rw [loopJ_succ, hB2]
            unfold X137_3
            by_cases hlk : k < n
            · have halt : a2 < u0.length := by omega
              obtain ⟨y, hy⟩ := get_some (l := u0) (i := a2) halt
              have hud2 : u1 = y :: u0.drop (a2 + 1) := by
                rw [hu3, List.drop_eq_getElem_cons halt]
                congr 1
                have := List.getElem?_eq_getElem halt
                rw [hy] at this; exact (Option.some.inj this).symm
              have bx3 := (e3 bb hbp).trans hbx
              have i1 := idx_lt hlt hlk
              have i2 := idx_lt hlk hlt
              have su3 : Sl EI h3 pu u0.length cu u0 := su.but fun hc => e3 _ (hpu hc)
              have r3 := su3.row
              have x0 : ∀ (kk : KV) (s : Nat), xa 31 (.slice pu u0.length cu) (vi a2) kk s = kk (.pointer (some ⟨blk pu, off pu + a2, none⟩)) s := fun kk s => xaI r3 (j := (a2 : Int)) (by omega) (by omega) cu .i64 kk s
              have ld0 : ∀ (j : LogT) (s : Nat), (AM.log (aload (blk pu) (off pu + a2) (fun v s => .ret (pk v s)) s) (logU j)).wp pw Z h3 = (j (vi y) [blk pu] [] s).wp pw Z h3 := fun j s => intL r3 hy j s
              try simp (disch := first | assumption | omega | (simp only [Int.ofNat_eq_natCast, neg_one]; done) | (simp only [Int.ofNat_eq_natCast, neg_one]; omega)) only [tysW, wB, mB, Nat.reduceAdd, Nat.reduceMul, List.length_cons, List.length_nil, ldB bx3, clB bx3, ldBL bx3, clBL bx3]
              unfold X137_2
              try simp (disch := first | assumption | omega | (simp only [Int.ofNat_eq_natCast, neg_one]; done) | (simp only [Int.ofNat_eq_natCast, neg_one]; omega)) only [tysW, wB, mB, Nat.reduceAdd, Nat.reduceMul, List.length_cons, List.length_nil, mulN _ _ _ _ (show i * n ≤ 1000000 by omega), addN _ _ _ _ (show i * n + k ≤ 1000000 by omega), x0, ld0, xaP i1]
              refine wp_putL g3 hp hP3 hpb (by rw [flatI, List.length_map, hPl3]; simp; omega) rfl fun h4 g4 b4 e4 => ?_
              rw [set_int _ (by omega)] at b4
              have bx4 := (e4 bb hbp).trans bx3
              have su4 : Sl EI h4 pu u0.length cu u0 := su3.but fun hc => e4 _ (hpu hc)
              have ld1 : ∀ (j : LogT) (s : Nat), (AM.log (aload (blk pu) (off pu + a2) (fun v s => .ret (pk v s)) s) (logU j)).wp pw Z h4 = (j (vi y) [blk pu] [] s).wp pw Z h4 := fun j s => intL su4.row hy j s
              try simp (disch := first | assumption | omega | (simp only [Int.ofNat_eq_natCast, neg_one]; done) | (simp only [Int.ofNat_eq_natCast, neg_one]; omega)) only [tysW, wB, mB, Nat.reduceAdd, Nat.reduceMul, List.length_cons, List.length_nil, ldB bx4, clB bx4, ldBL bx4, clBL bx4]
              unfold X137_1
              try simp (disch := first | assumption | omega | (simp only [Int.ofNat_eq_natCast, neg_one]; done) | (simp only [Int.ofNat_eq_natCast, neg_one]; omega)) only [tysW, wB, mB, Nat.reduceAdd, Nat.reduceMul, List.length_cons, List.length_nil, mulN _ _ _ _ (show k * n ≤ 1000000 by omega), addN _ _ _ _ (show k * n + i ≤ 1000000 by omega), x0, ld1, xaP i2]
              refine wp_putL g4 hp b4 hpb (by rw [flatI, List.length_map, List.length_set, hPl3]; simp; omega) rfl fun h5 g5 b5 e5 => ?_
              rw [set_int _ (by rw [List.length_set]; omega)] at b5
              have e35 : ∀ i, i ≠ pb → h5.get i = h3.get i := fun i hi => by rw [e5 i hi, e4 i hi]
              try simp (disch := first | assumption | omega | (simp only [Int.ofNat_eq_natCast, neg_one]; done) | (simp only [Int.ofNat_eq_natCast, neg_one]; omega)) only [tysW, wB, mB, Nat.reduceAdd, Nat.reduceMul, List.length_cons, List.length_nil]
              refine ih2 (k + 1) (a2 + 1) _ (u0.drop (a2 + 1)) h5 (by omega) (by omega) g5 b5 (by simp [hPl3]) rfl (by omega) ?_ fun i hi => (e35 i hi).trans (e3 i hi)
              rw [← hT3, show n - k = (n - (k + 1)) + 1 by omega, hud2]
              rfl
            · obtain rfl : k = n := by omega
              try simp (disch := first | assumption | omega | (simp only [Int.ofNat_eq_natCast, neg_one]; done) | (simp only [Int.ofNat_eq_natCast, neg_one]; omega)) only [tysW, wB, mB, Nat.reduceAdd, Nat.reduceMul, List.length_cons, List.length_nil]
              rw [hJ2]
              try simp (disch := first | assumption | omega | (simp only [Int.ofNat_eq_natCast, neg_one]; done) | (simp only [Int.ofNat_eq_natCast, neg_one]; omega)) only [tysW, wB, mB, Nat.reduceAdd, Nat.reduceMul, List.length_cons, List.length_nil]
              rw [Nat.sub_self] at hT3 ha3
              have hT3 : (P1, u1) = _ := hT3
              have hP1 : P1 = (fillK k i (k - i) i PP u).1 := by rw [← hT3]
              have hu1 : u1 = (fillK k i (k - i) i PP u).2 := by rw [← hT3]
              refine ih (i + 1) a2 P1 u1 h3 (by omega) (by omega) g3 hP3 hPl3 hu3 (by rw [show k - (i + 1) = r by omega]; omega) ?_ e3
              rw [← hT, show k - (i + 1) = r by omega, hr]
              show fillI k r (i + 1) P1 u1 = fillI k r (i + 1) (fillK k i (r + 1) i PP u).1 (fillK k i (r + 1) i PP u).2
              rw [hP1, hu1, hr]
        refine inner _ (fun _ _ => rfl) _ (fun _ _ _ _ => rfl) N i at_ PP u h2 (by omega) (by omega) g2 hP hPl hud ?_ rfl e2
        rw [hr] at hat ⊢
        have : triR (r + 1) = triR r + (r + 1) := rfl
        omega
      · obtain rfl : i = n := by omega
        try simp (disch := first | assumption | omega | (simp only [Int.ofNat_eq_natCast, neg_one]; done) | (simp only [Int.ofNat_eq_natCast, neg_one]; omega)) only [tysW, wB, mB, Nat.reduceAdd, Nat.reduceMul, List.length_cons, List.length_nil]
        rw [Nat.sub_self] at hT
        have hT : (PP, u) = _ := hT
        refine hk h2 g2 ?_ e2
        rw [← hT]; exact hP
  exact outer _ (fun _ _ _ _ => rfl) N 0 0 P0 u0 h (by omega) (by omega) g hP hPl rfl (by rw [Nat.sub_zero, hu]; omega) rfl fun _ _ => rfl
end
end Go.Ev.R
namespace Go.Ev.R
open Go Go.RowKit
def belF (x : RS) : BD × RS := if wrongR (m5 x).1.length (m6 x).1.length = true then (⟨(m1 x).1, (m5 x).1, [], (m2 x).1, (m3 x).1, (m4 x).1⟩, ((m6 x).2.1, true)) else (belD x, (m6 x).2)
theorem belF_st (x : RS) : (belF x).2 = (belP x).2 := by
  unfold belF belP
  cases h1 : wrongR (m5 x).1.length (m6 x).1.length with
  | true => rw [if_pos rfl, if_pos (by simp)]
  | false =>
    rw [if_neg (by simp)]
    cases h2 : (m6 x).2.2 with
    | true => rw [if_pos (by rfl)]; exact Prod.ext rfl h2
    | false => rw [if_neg (by simp)]
theorem belF_eq {x : RS} (h : (belP x).2.2 = false) : belF x = belP x := by
  unfold belF belP at *
  cases h1 : wrongR (m5 x).1.length (m6 x).1.length with
  | true => rw [h1, if_pos (by simp)] at h; cases h
  | false =>
    cases h2 : (m6 x).2.2 with
    | true => rw [h1, h2, if_pos (by rfl)] at h; cases h
    | false => rw [if_neg (by simp), if_neg (by simp)]
section
variable {N d : Nat} (hN : N = 100000) {h0 h : T} {s0 s : Nat} {K : KV} {pw : Nat → Prop} {Z : Value → T → Prop} (g : From s0 h0 h s) (hp : ∀ n, s0 ≤ n → pw n) {rb : Nat} (hrb : s0 ≤ rb) {x : RS} (hb : allBytes x.1) (hl : x.1.length ≤ 50000)
include hN g hp hrb hb hl
theorem s137 {A : Nat → Prop} (hA : ∀ n, A n → n < s) (R : RdAt h rb 146 x A) (hk : ∀ p2 p3 h' s', From s0 h0 h' s' → s ≤ s' → RdAt h' rb 146 (belF x).2 A → OwnG EI 3 h' s p2 (belF x).1.xl.length (belF x).1.xl → OwnG EI 3 h' s p3 (belF x).1.pl.length (belF x).1.pl → (∀ i, i < s → i ≠ rb → h'.get i = h.get i) → (K (.agg ⟨bvv (bvD (belF x).1 p2 p3)⟩) s').wp pw Z h') :
    (D N (d + 6) 137 [ptr rb] K s).wp pw Z h := by
  have hrs : rb < s := by obtain ⟨p, len, cap, bx, -⟩ := R; exact lt_of_some g.fresh ⟨_, bx⟩
  have gl := g.le
  rw [D_137]; unfold F137; rw [app1_eq]
  unfold X137_6
  try simp (disch := first | assumption | omega | (simp only [Int.ofNat_eq_natCast, neg_one]; done) | (simp only [Int.ofNat_eq_natCast, neg_one]; omega)) only [tysW, wB, mB, Nat.reduceAdd, Nat.reduceMul, List.length_cons, List.length_nil]
  refine wp_boxA g hp fun h1 g1 c1 bz => ?_
  have hB : ∀ n, (A n ∨ n = s) → n < s + 1 := fun n hn => hn.elim (fun h => by have := hA n h; omega) fun h => by omega
  have R1 : RdAt h1 rb 146 x (fun n => A n ∨ n = s) := ((R.more g.fresh).from g.fresh c1).less fun n hn => hn.imp_right fun h => by omega
  refine s132A (d := d + 1) (w := 8) hN g1 hp hrb hb hl (.inr (.inr (.inr rfl))) hB R1 fun h2 s2 g2 l2 R2 e2 => ?_
  have hb1 := bytes1 hb
  replace bz := (e2 s (by omega) (by omega)).trans bz
  have R2 : RdAt h2 rb 146 (m1 x).2 (fun n => A n ∨ n = s) := R2
  refine s136 (d := d) hN g2 hp hrb hb1.1 (by omega) (fun n hn => by have := hB n hn; omega) R2 fun h4 s4 g4 l4 R4 e4 => ?_
  have hb2 := bytes2 hb
  replace bz := (e4 s (by omega) (by omega)).trans bz
  try simp (disch := first | assumption | omega | (simp only [Int.ofNat_eq_natCast, neg_one]; done) | (simp only [Int.ofNat_eq_natCast, neg_one]; omega)) only [tysW, wB, mB, Nat.reduceAdd, Nat.reduceMul, List.length_cons, List.length_nil]
  refine wp_boxA g4 hp fun h3 g3 c3 b3 => ?_
  replace bz := c3.box bz (by omega)
  have hB2 : ∀ n, ((A n ∨ n = s) ∨ n = s4) → n < s4 + 1 := fun n hn => hn.elim (fun h => by have := hB n h; omega) fun h => by omega
  have R3 : RdAt h3 rb 146 (m2 x).2 (fun n => (A n ∨ n = s) ∨ n = s4) := ((R4.more g4.fresh).from g4.fresh c3).less fun n hn => hn.imp_right fun h => by omega
  try simp (disch := first | assumption | omega | (simp only [Int.ofNat_eq_natCast, neg_one]; done) | (simp only [Int.ofNat_eq_natCast, neg_one]; omega)) only [tysW, wB, mB, Nat.reduceAdd, Nat.reduceMul, List.length_cons, List.length_nil]
  refine wp_putF g3 hp b3 (by omega) (by simp) rfl fun h5 g5 b5 e5 => ?_
  simp only [overL] at b5
  replace bz := (e5 s (by omega)).trans bz
  have R5 : RdAt h5 rb 146 (m2 x).2 (fun n => (A n ∨ n = s) ∨ n = s4) := R3.butA (.inr rfl) (by omega) e5
  refine s132A (d := d + 1) (w := 8) hN g5 hp hrb hb2.1 (by omega) (.inr (.inr (.inr rfl))) (fun n hn => by have := hB2 n hn; omega) R5 fun h6 s6 g6 l6 R6 e6 => ?_
  have hb3 := bytes3 hb
  replace b5 := (e6 s4 (by omega) (by omega)).trans b5
  replace bz := (e6 s (by omega) (by omega)).trans bz
  try simp (disch := first | assumption | omega | (simp only [Int.ofNat_eq_natCast, neg_one]; done) | (simp only [Int.ofNat_eq_natCast, neg_one]; omega)) only [tysW, wB, mB, Nat.reduceAdd, Nat.reduceMul, List.length_cons, List.length_nil]
  refine wp_putF g6 hp b5 (by omega) (by simp) rfl fun h7 g7 b7 e7 => ?_
  simp only [overL] at b7
  replace bz := (e7 s (by omega)).trans bz
  have R7 : RdAt h7 rb 146 (m3 x).2 (fun n => (A n ∨ n = s) ∨ n = s4) := R6.butA (.inr rfl) (by omega) e7
  refine s132A (d := d + 1) (w := 8) hN g7 hp hrb hb3.1 (by omega) (.inr (.inr (.inr rfl))) (fun n hn => by have := hB2 n hn; omega) R7 fun h8 s8 g8 l8 R8 e8 => ?_
  have hb4 := bytes4 hb
  replace b7 := (e8 s4 (by omega) (by omega)).trans b7
  replace bz := (e8 s (by omega) (by omega)).trans bz
  try simp (disch := first | assumption | omega | (simp only [Int.ofNat_eq_natCast, neg_one]; done) | (simp only [Int.ofNat_eq_natCast, neg_one]; omega)) only [tysW, wB, mB, Nat.reduceAdd, Nat.reduceMul, List.length_cons, List.length_nil]
  refine wp_putF g8 hp b7 (by omega) (by simp) rfl fun h9 g9 b9 e9 => ?_
  simp only [overL] at b9
  replace bz := (e9 s (by omega)).trans bz
  have R9 : RdAt h9 rb 146 (m4 x).2 (fun n => (A n ∨ n = s) ∨ n = s4) := R8.butA (.inr rfl) (by omega) e9
  refine s133A (d := d) hN g9 hp hrb hb4.1 (by omega) (fun n hn => by have := hB2 n hn; omega) R9 fun p2 h10 s10 g10 l10 R10 o2 e10 => ?_
  have hb5 := bytes5 hb
  replace b9 := (e10 s4 (by omega) (by omega)).trans b9
  replace bz := (e10 s (by omega) (by omega)).trans bz
  have o2l := o2.lt g10.fresh
  try simp (disch := first | assumption | omega | (simp only [Int.ofNat_eq_natCast, neg_one]; done) | (simp only [Int.ofNat_eq_natCast, neg_one]; omega)) only [tysW, wB, mB, Nat.reduceAdd, Nat.reduceMul, List.length_cons, List.length_nil]
  refine wp_putF g10 hp b9 (by omega) (by simp) rfl fun h11 g11 b11 e11 => ?_
  simp only [overL] at b11
  replace bz := (e11 s (by omega)).trans bz
  replace o2 := o2.but fun hp => e11 _ (by have := o2l hp; omega)
  have R11 : RdAt h11 rb 146 (m5 x).2 (fun n => (A n ∨ n = s) ∨ n = s4) := R10.butA (.inr rfl) (by omega) e11
  refine s133A (d := d) hN g11 hp hrb hb5.1 (by omega) (fun n hn => by have := hB2 n hn; omega) R11 fun p3 h12 s12 g12 l12 R12 o3 e12 => ?_
  have hb6 := bytes6 hb
  replace b11 := (e12 s4 (by omega) (by omega)).trans b11
  replace bz := (e12 s (by omega) (by omega)).trans bz
  have o3l := o3.lt g12.fresh
  replace o2 := o2.but fun hp => e12 _ (by have := o2l hp; omega) (by have := o2l hp; omega)
  obtain ⟨pr, lr, cr, br, slr, hnr⟩ := R12
  obtain ⟨sb, hsb⟩ : ∃ sb, sb = s4 := ⟨_, rfl⟩
  obtain ⟨n, hn⟩ : ∃ n, n = (m5 x).1.length := ⟨_, rfl⟩
  obtain ⟨L, hL⟩ : ∃ L, L = (m6 x).1.length := ⟨_, rfl⟩
  obtain ⟨bd, hbd⟩ : ∃ bd, bd = (m6 x).2.2 := ⟨_, rfl⟩
  have keep : ∀ i, i < s → i ≠ rb → h12.get i = h.get i := fun i h1 h2 => by rw [e12 i (by omega) h2, e11 i (by omega), e10 i (by omega) h2, e9 i (by omega), e8 i (by omega) h2, e7 i (by omega), e6 i (by omega) h2, e5 i (by omega), c3.keep i (by omega), e4 i (by omega) h2, e2 i (by omega) h2, c1.keep i h1]
  have n24 : n ≤ 24 := by rw [hn]; exact hb5.2.2
  have L24 : L ≤ 24 := by rw [hL]; exact hb6.2.2
  replace b11 : h12.get s4 = some (.cells ⟨[vi (m1 x).1, .slice p2 n n, .slice none 0 0, .bool (m2 x).1, vi (m3 x).1, vi (m4 x).1]⟩ 58 (0, 0)) := by subst hn; exact b11
  replace br : h12.get rb = some (.cells ⟨[.slice pr lr cr, .bool bd]⟩ 146 (0, 0)) := by subst hbd; exact br
  replace slr : Sl EB h12 pr lr cr (m6 x).2.1 := slr
  replace o2 : OwnG EI 3 h12 s8 p2 n (m5 x).1 := by subst hn; exact o2
  replace o3 : OwnG EI 3 h12 s10 p3 L (m6 x).1 := by subst hL; exact o3
  rw [show (listR (m5 x).2).1.length = L from hL.symm]
  have srb : s4 ≠ rb := by omega
  -- what comes last: the belief is copied into the result
  have fin : ∀ {h13 : T} (q3 : Option Addr) (l3 : Nat) {s13 : Nat}, From s0 h0 h13 s13 → h13.get sb = some (.cells ⟨[vi (m1 x).1, .slice p2 n n, .slice q3 l3 l3, .bool (m2 x).1, vi (m3 x).1, vi (m4 x).1]⟩ 58 (0, 0)) → h13.get s = some (.cells ⟨[vi 0, .slice none 0 0, .slice none 0 0, .bool false, vi 0, vi 0]⟩ 58 (0, 0)) → (∀ h14, From s0 h0 h14 s13 → (∀ i, i ≠ s → h14.get i = h13.get i) → (K (.agg ⟨[vi (m1 x).1, .slice p2 n n, .slice q3 l3 l3, .bool (m2 x).1, vi (m3 x).1, vi (m4 x).1]⟩) s13).wp pw Z h14) → ((ld 58 (ptr sb) (fun v22 s' => st 58 (ptr s) v22 (fun _ s' => aloadAt P 58 (ptr s) (fun v23 s' => K v23 s') s') s') s13).wp pw Z h13) := by
    intro h13 q3 l3 s13 g13 b13 bz13 hk
    try simp (disch := first | assumption | omega | (simp only [Int.ofNat_eq_natCast, neg_one]; done) | (simp only [Int.ofNat_eq_natCast, neg_one]; omega)) only [tysW, wB, mB, Nat.reduceAdd, Nat.reduceMul, List.length_cons, List.length_nil, ldB b13, clB b13, ldBL b13, clBL b13]
    refine wp_putF g13 hp bz13 (by omega) (by simp) rfl fun h14 g14 b14 e14 => ?_
    simp only [overL] at b14
    try simp (disch := first | assumption | omega | (simp only [Int.ofNat_eq_natCast, neg_one]; done) | (simp only [Int.ofNat_eq_natCast, neg_one]; omega)) only [tysW, wB, mB, Nat.reduceAdd, Nat.reduceMul, List.length_cons, List.length_nil, ldB b14, clB b14, ldBL b14, clBL b14]
    exact hk h14 g14 e14
  have hA2 : ∀ {h13 : T}, (∀ i, i < s12 → i ≠ rb → i ≠ s → i ≠ s4 → h13.get i = h12.get i) → ∀ {bd'}, h13.get rb = some (.cells ⟨[.slice pr lr cr, .bool bd']⟩ 146 (0, 0)) → RdAt h13 rb 146 ((m6 x).2.1, bd') A := fun {h13} e {bd1} b => ⟨pr, lr, cr, b, slr.but fun hc => e _ (slr.lt g12.fresh hc) (hnr hc).1 (fun he => (hnr hc).2 (.inl (.inr he))) (fun he => (hnr hc).2 (.inr he)), fun hc => ⟨(hnr hc).1, fun ha => (hnr hc).2 (.inl (.inl ha))⟩⟩
  have badK : wrongR n L = true → ∀ {h13 : T}, From s0 h0 h13 s12 → h13.get rb = some (.cells ⟨[.slice pr lr cr, .bool true]⟩ 146 (0, 0)) → (∀ i, i ≠ rb → h13.get i = h12.get i) → ((ld 58 (ptr sb) (fun v22 s' => st 58 (ptr s) v22 (fun _ s' => aloadAt P 58 (ptr s) (fun v23 s' => K v23 s') s') s') s12).wp pw Z h13) := by
    intro hw h13 g13 b13 e13
    have eb : belF x = (⟨(m1 x).1, (m5 x).1, [], (m2 x).1, (m3 x).1, (m4 x).1⟩, ((m6 x).2.1, true)) := by
      unfold belF
      rw [← hn, ← hL, if_pos hw]
    rw [eb] at hk
    subst hsb
    refine fin none 0 g13 ((e13 sb srb).trans b11) ((e13 s (by omega)).trans bz) fun h14 g14 e14 => ?_
    have ev : bvv (bvD ⟨(m1 x).1, (m5 x).1, [], (m2 x).1, (m3 x).1, (m4 x).1⟩ p2 none) = [vi (m1 x).1, .slice p2 n n, .slice none 0 0, .bool (m2 x).1, vi (m3 x).1, vi (m4 x).1] := by
      unfold bvv bvD
      dsimp only
      rw [← hn]; rfl
    rw [← ev]
    refine hk p2 none h14 s12 g14 (by omega) (hA2 (fun i h1 h2 h3 h4 => by rw [e14 i h3, e13 i h2]) ((e14 rb (by omega)).trans b13)) ?_ .nil fun i h1 h2 => by rw [e14 i (by omega), e13 i h2, keep i h1 h2]
    show OwnG EI 3 h14 s p2 (m5 x).1.length (m5 x).1
    rw [← hn]
    exact (o2.but fun hp => by have := o2l hp; rw [e14 _ (by omega), e13 _ (by omega)]).less (by omega)
  by_cases h6 : (6 : Int) < (n : Int)
  · subst hsb
    try simp (disch := first | assumption | omega | (simp only [Int.ofNat_eq_natCast, neg_one]; done) | (simp only [Int.ofNat_eq_natCast, neg_one]; omega)) only [tysW, wB, mB, Nat.reduceAdd, Nat.reduceMul, List.length_cons, List.length_nil, ldB b11, clB b11, ldBL b11, clBL b11]
    unfold X137_5
    try simp (disch := first | assumption | omega | (simp only [Int.ofNat_eq_natCast, neg_one]; done) | (simp only [Int.ofNat_eq_natCast, neg_one]; omega)) only [tysW, wB, mB, Nat.reduceAdd, Nat.reduceMul, List.length_cons, List.length_nil]
    refine wp_putF g12 hp br hrb (by simp) rfl fun h13 g13 b13 e13 => ?_
    simp only [overL] at b13
    exact badK (by unfold wrongR; rw [decide_eq_true (by omega)]; rfl) g13 b13 e13
  have hq : n * (n + 1) ≤ 1000000 := by
    calc n * (n + 1) ≤ 24 * 25 := Nat.mul_le_mul n24 (by omega)
    _ ≤ 1000000 := by decide
  have quo2 : ∀ (kk : KV) (s : Nat), quoX P 3 3 false true (vi ((n * (n + 1) : Nat) : Int)) (i64 2) kk s = kk (vi ((n * (n + 1) / 2 : Nat) : Int)) s := fun kk s => quoN false true (n := 2) (by decide) hq kk s
  by_cases hLn : (L : Int) = ((n * (n + 1) / 2 : Nat) : Int)
  · have hw : wrongR n L = false := by
      unfold wrongR
      rw [decide_eq_false (by omega), decide_eq_true (show L = n * (n + 1) / 2 by omega)]; rfl
    have eb : belF x = (belD x, (m6 x).2) := by
      unfold belF
      rw [← hn, ← hL, if_neg (by rw [hw]; simp)]
    rw [eb] at hk
    have h6' : n ≤ 6 := by omega
    have hLt : L = triR n := by rw [← triR_eq h6']; omega
    have hsq : n * n ≤ 1000000 := by
      calc n * n ≤ 6 * 6 := Nat.mul_le_mul h6' h6'
      _ ≤ 1000000 := by decide
    subst hsb
    try simp (disch := first | assumption | omega | (simp only [Int.ofNat_eq_natCast, neg_one]; done) | (simp only [Int.ofNat_eq_natCast, neg_one]; omega)) only [tysW, wB, mB, Nat.reduceAdd, Nat.reduceMul, List.length_cons, List.length_nil, ldB b11, clB b11, ldBL b11, clBL b11, mulN _ _ _ _ hq, quo2]
    unfold X137_5
    try simp (disch := first | assumption | omega | (simp only [Int.ofNat_eq_natCast, neg_one]; done) | (simp only [Int.ofNat_eq_natCast, neg_one]; omega)) only [tysW, wB, mB, Nat.reduceAdd, Nat.reduceMul, List.length_cons, List.length_nil, mulN _ _ _ _ hsq]
    rw [mkN h6']
    refine wp_newF g12 hp fun h14 g14 c14 b14 => ?_
    have b11' := c14.box b11 (by omega)
    try simp (disch := first | assumption | omega | (simp only [Int.ofNat_eq_natCast, neg_one]; done) | (simp only [Int.ofNat_eq_natCast, neg_one]; omega)) only [tysW, wB, mB, Nat.reduceAdd, Nat.reduceMul, List.length_cons, List.length_nil]
    refine wp_putF g14 hp b11' (by omega) (by simp) rfl fun h15 g15 b15 e15 => ?_
    simp only [overL] at b15
    have b14' := (e15 s12 (by omega)).trans b14
    have k15 : ∀ i, i < s12 → i ≠ sb → h15.get i = h12.get i := fun i h1 h3 => by rw [e15 i h3, c14.keep i h1]
    have o3' := o3.but fun hp => k15 _ (by have := o3l hp; omega) (by have := o3l hp; omega)
    have e3 : (m6 x).1.length = L := hL.symm
    try simp (disch := first | assumption | omega | (simp only [Int.ofNat_eq_natCast, neg_one]; done) | (simp only [Int.ofNat_eq_natCast, neg_one]; omega)) only [tysW, wB, mB, Nat.reduceAdd, Nat.reduceMul, List.length_cons, List.length_nil]
    rw [← e3]
    have su := o3'.sl
    rw [← e3] at su
    refine fill137 hN (bb := sb) (pb := s12) g15 hp h6' b15 (by omega) b14' (by simp) su (fun hc => by
      have hp3 : p3 ≠ none := fun hn => hc (by have := o3.sl.non hn; omega)
      have := o3l hp3; omega) (by omega) fun h16 g16 b16 e16 => ?_
    have b15' := (e16 sb (by omega)).trans b15
    refine fin (some ⟨s12, 0, none⟩) (n * n) g16 b15' (by rw [e16 s (by omega), k15 s (by omega) (by omega)]; exact bz) fun h17 g17 e17 => ?_
    have hfl : (fill n (m6 x).1).length = n * n := fill_len n _
    have b16' := (e17 s12 (by omega)).trans b16
    have k17 : ∀ i, i < s12 → i ≠ s → i ≠ sb → h17.get i = h12.get i := fun i h1 h2 h3 => by rw [e17 i h2, e16 i (by omega), k15 i h1 h3]
    have hk := hk p2 (some ⟨s12, 0, none⟩) h17 (s12 + 1) g17 (by omega) (by
      have := hA2 (h13 := h17) (fun i h1 h2 h3 h4 => k17 i h1 h3 h4) ((k17 rb (by omega) (by omega) (by omega)).trans br)
      rw [hbd] at this; exact this) ?_ ?_ fun i h1 h2 => ?_
    · have ev : bvv (bvD (belD x) p2 (some ⟨s12, 0, none⟩)) = [vi (m1 x).1, .slice p2 n n, .slice (some ⟨s12, 0, none⟩) (n * n) (n * n), .bool (m2 x).1, vi (m3 x).1, vi (m4 x).1] := by
        unfold bvv bvD belD
        dsimp only
        rw [← hn, hfl]
      rw [ev] at hk
      exact hk
    · show OwnG EI 3 h17 s p2 (m5 x).1.length (m5 x).1
      rw [← hn]
      exact (o2.but fun hp => by have := o2l hp; rw [k17 _ (by omega) (by omega) (by omega)]).less (by omega)
    · show OwnG EI 3 h17 s _ (fill (m5 x).1.length (m6 x).1).length (fill (m5 x).1.length (m6 x).1)
      rw [← hn, hfl]
      exact ⟨hfl, .inr ⟨s12, 0, rfl, by omega, b16', .inl rfl⟩⟩
    · rw [k17 i (by omega) (by omega) (by omega), keep i h1 h2]
  · subst hsb
    try simp (disch := first | assumption | omega | (simp only [Int.ofNat_eq_natCast, neg_one]; done) | (simp only [Int.ofNat_eq_natCast, neg_one]; omega)) only [tysW, wB, mB, Nat.reduceAdd, Nat.reduceMul, List.length_cons, List.length_nil, ldB b11, clB b11, ldBL b11, clBL b11, mulN _ _ _ _ hq, quo2]
    unfold X137_5
    try simp (disch := first | assumption | omega | (simp only [Int.ofNat_eq_natCast, neg_one]; done) | (simp only [Int.ofNat_eq_natCast, neg_one]; omega)) only [tysW, wB, mB, Nat.reduceAdd, Nat.reduceMul, List.length_cons, List.length_nil]
    refine wp_putF g12 hp br hrb (by simp) rfl fun h13 g13 b13 e13 => ?_
    simp only [overL] at b13
    exact badK (by unfold wrongR; rw [decide_eq_false (show ¬ L = n * (n + 1) / 2 by omega)]; simp) g13 b13 e13
end
end Go.Ev.R
namespace Go.Ev.R
open Go Go.RowKit
theorem say_in {k : Int} {i : Nat} {c : UInt8} (h : (sayT k)[i]? = some c) : 1 ≤ k ∧ k ≤ 7 := by
  by_cases hk : 1 ≤ k ∧ k ≤ 7
  · exact hk
  · rw [sayT_no hk] at h; cases h
section
variable {N d : Nat} (hN : N = 100000) {h : T} {s : Nat} (hf : ∀ n, s ≤ n → h.get n = none)
include hN hf
theorem s70 {p : Option Addr} {len cap : Nat} {b : List Int} (r : Sl EB h p len cap b) (hl : len ≤ 50000) (hb : allBytes b) : PureS (D N (d + 12)) 70 [.slice p len cap] h s (fun v h' s' => Got h' s v b) := by
  refine PureS.of hf fun K pw Z g hp hk => ?_
  rw [D_70]; unfold F70; rw [app1_eq]
  unfold X70_3
  have hlen := r.row.1
  try simp (disch := first | assumption | omega | (simp only [Int.ofNat_eq_natCast, neg_one]; done) | (simp only [Int.ofNat_eq_natCast, neg_one]; omega)) only [tysW, wB, mB, Nat.reduceAdd, Nat.reduceMul, List.length_cons, List.length_nil]
  refine wp_boxA g hp fun h1 g1 c1 b1 => ?_
  try simp (disch := first | assumption | omega | (simp only [Int.ofNat_eq_natCast, neg_one]; done) | (simp only [Int.ofNat_eq_natCast, neg_one]; omega)) only [tysW, wB, mB, Nat.reduceAdd, Nat.reduceMul, List.length_cons, List.length_nil]
  refine wp_boxA g1 hp fun h3 g3 c3 b3 => ?_
  replace b1 := c3.box b1 (by omega)
  have o3 := (r.from hf g1).from g1.fresh c3
  have R4 : RdAt h3 (s + 1) 146 (b, false) (eqN (s + 1)) := ⟨p, len, cap, b3, o3, fun hc => by
    have := r.lt hf hc; exact ⟨by omega, fun e => by have e : blk p = s + 1 := e; omega⟩⟩
  refine s132 (d := d + 7) (w := 1) hN g3 hp (by omega) hb (by show b.length ≤ 50000; omega) (.inl rfl) (by omega) R4 fun h5 s5 g5 l5 R5 e5 => ?_
  replace b1 := (e5 s (by omega) (by omega)).trans b1
  have hb5 := oneR_bytes (w := 1) (x := (b, false)) hb
  try simp (disch := first | assumption | omega | (simp only [Int.ofNat_eq_natCast, neg_one]; done) | (simp only [Int.ofNat_eq_natCast, neg_one]; omega)) only [tysW, wB, mB, Nat.reduceAdd, Nat.reduceMul, List.length_cons, List.length_nil]
  refine wp_boxA g5 hp fun h6 g6 c6 b6 => ?_
  replace b1 := c6.box b1 (by omega)
  have R6 := (R5.other (h' := h6) g5.fresh (Nat.le_refl s5)).from g5.fresh c6
  try simp (disch := first | assumption | omega | (simp only [Int.ofNat_eq_natCast, neg_one]; done) | (simp only [Int.ofNat_eq_natCast, neg_one]; omega)) only [tysW, wB, mB, Nat.reduceAdd, Nat.reduceMul, List.length_cons, List.length_nil]
  refine wp_putF g6 hp b6 (by omega) (by simp) rfl fun h7 g7 b7 e7 => ?_
  simp only [overL] at b7
  replace b1 := (e7 s (by omega)).trans b1
  have R7 := R6.but (by omega) e7
  have hk0 : kindD b = (oneR 1 (b, false)).1 := rfl
  rw [← hk0] at b7
  try simp (disch := first | assumption | omega | (simp only [Int.ofNat_eq_natCast, neg_one]; done) | (simp only [Int.ofNat_eq_natCast, neg_one]; omega)) only [tysW, wB, mB, Nat.reduceAdd, Nat.reduceMul, List.length_cons, List.length_nil, ldB b7, clB b7, ldBL b7, clBL b7]
  refine ValS.go g7 hp (s90 (d := d + 10) g7.fresh (kindD b)) fun h8 s8 g8 c8 => ?_
  have l8 := c8.le
  replace b1 := c8.box b1 (by omega)
  replace b7 := c8.box b7 (by omega)
  have R8 := R7.from g7.fresh c8
  try simp (disch := first | assumption | omega | (simp only [Int.ofNat_eq_natCast, neg_one]; done) | (simp only [Int.ofNat_eq_natCast, neg_one]; omega)) only [tysW, wB, mB, Nat.reduceAdd, Nat.reduceMul, List.length_cons, List.length_nil]
  have R10 : RdAt h8 (s + 1) 146 (startD b).st (eqN s5) := R8
  have loop : ∀ (J : Nat → AM) (hJ : ∀ p1 h1 s1, From s h h1 s1 → s8 ≤ s1 → h1.get s = some (.cells ⟨[i64 0, i64 0, i64 0, i64 0, .slice none 0 0]⟩ 33 (0, 0)) → h1.get s5 = some (.cells ⟨[vi (kindD b), vi (decS b).sen, vi (decS b).seq, vi (decS b).time, .slice p1 (decS b).dat.length (decS b).dat.length]⟩ 33 (0, 0)) → OwnG EI 3 h1 (s5 + 1) p1 (decS b).dat.length (decS b).dat → RdAt h1 (s + 1) 146 (decS b).st (eqN s5) → (J s1).wp pw Z h1) (B : (Value → Nat → AM) → Value → Nat → AM) (hB : ∀ H u s', B H u s' = X70_2 N (D N (d + 11)) K (str (sayT (kindD b))) (ptr (s + 1)) (ptr s5) J H u s') (n i : Nat) (p1 : Option Addr) (h1 : T) (s1 : Nat) (y : DS), y = ((sayT (kindD b)).take i).foldl stepD (startD b) → (sayT (kindD b)).length - i < n → i ≤ (sayT (kindD b)).length → From s h h1 s1 → s8 ≤ s1 → h1.get s = some (.cells ⟨[i64 0, i64 0, i64 0, i64 0, .slice none 0 0]⟩ 33 (0, 0)) → h1.get s5 = some (.cells ⟨[vi (kindD b), vi y.sen, vi y.seq, vi y.time, .slice p1 y.dat.length y.dat.length]⟩ 33 (0, 0)) → OwnG EI 3 h1 (s5 + 1) p1 y.dat.length y.dat → RdAt h1 (s + 1) 146 y.st (eqN s5) →
      (loopJ n 1 (fun _ _ => AM.fail) B (vi i) s1).wp pw Z h1 := by
    intro J hJ B hB n
    induction n with
    | zero => intro i p1 h1 s1 y hy hn; omega
    | succ n ih =>
      intro i p1 h1 s1 y hy hn hi g1 hs1 b1 bx o1 R1
      have hle := say_le (kindD b)
      have hby := fold_bytes ((sayT (kindD b)).take i) (y := startD b) hb5.1
      rw [← hy] at hby
      have hyl : y.st.1.length ≤ 50000 := by
        have h1 := hby.2
        have h2 : (startD b).st.1.length ≤ b.length := hb5.2
        omega
      rw [loopJ_succ, hB]
      unfold X70_2
      by_cases hlt : i < (sayT (kindD b)).length
      · obtain ⟨c, hc⟩ := get_some (l := sayT (kindD b)) (i := i) hlt
        have hcm := say_mem (List.mem_of_getElem? hc)
        have hnext : stepD y c = ((sayT (kindD b)).take (i + 1)).foldl stepD (startD b) := by rw [fold_next hc, ← hy]
        have ol := o1.lt g1.fresh
        try simp (disch := first | assumption | omega | (simp only [Int.ofNat_eq_natCast, neg_one]; done) | (simp only [Int.ofNat_eq_natCast, neg_one]; omega)) only [tysW, wB, mB, Nat.reduceAdd, Nat.reduceMul, List.length_cons, List.length_nil, len_say, ix_say (say_in hc) hc]
        rcases hcm with rfl | rfl | rfl | rfl
        · try simp (disch := first | assumption | omega | (simp only [Int.ofNat_eq_natCast, neg_one]; done) | (simp only [Int.ofNat_eq_natCast, neg_one]; omega)) only [tysW, wB, mB, Nat.reduceAdd, Nat.reduceMul, List.length_cons, List.length_nil, eqc8, UInt8.reduceToNat, Nat.reduceBEq]
          refine s132 (d := d + 7) (w := 1) hN g1 hp (by omega) hby.1 hyl (.inl rfl) (by omega) R1 fun h3 s3 g3 l3 R3 e3 => ?_
          replace b1 := (e3 s (by omega) (by omega)).trans b1
          replace bx := (e3 s5 (by omega) (by omega)).trans bx
          try simp (disch := first | assumption | omega | (simp only [Int.ofNat_eq_natCast, neg_one]; done) | (simp only [Int.ofNat_eq_natCast, neg_one]; omega)) only [tysW, wB, mB, Nat.reduceAdd, Nat.reduceMul, List.length_cons, List.length_nil]
          refine wp_putF g3 hp bx (by omega) (by simp) rfl fun h4 g4 b4 e4 => ?_
          simp only [overL] at b4
          try simp (disch := first | assumption | omega | (simp only [Int.ofNat_eq_natCast, neg_one]; done) | (simp only [Int.ofNat_eq_natCast, neg_one]; omega)) only [tysW, wB, mB, Nat.reduceAdd, Nat.reduceMul, List.length_cons, List.length_nil]
          exact ih (i + 1) p1 h4 s3 (stepD y 115) hnext (by omega) (by omega) g4 (by omega) ((e4 s (by omega)).trans b1) b4 (o1.but fun hp => by have := ol hp; rw [e4 _ (by omega), e3 _ (by omega) (by omega)]) (R3.but (by omega) e4)
        · try simp (disch := first | assumption | omega | (simp only [Int.ofNat_eq_natCast, neg_one]; done) | (simp only [Int.ofNat_eq_natCast, neg_one]; omega)) only [tysW, wB, mB, Nat.reduceAdd, Nat.reduceMul, List.length_cons, List.length_nil, eqc8, UInt8.reduceToNat, Nat.reduceBEq]
          refine s132 (d := d + 7) (w := 4) hN g1 hp (by omega) hby.1 hyl (.inr (.inr (.inl rfl))) (by omega) R1 fun h3 s3 g3 l3 R3 e3 => ?_
          replace b1 := (e3 s (by omega) (by omega)).trans b1
          replace bx := (e3 s5 (by omega) (by omega)).trans bx
          try simp (disch := first | assumption | omega | (simp only [Int.ofNat_eq_natCast, neg_one]; done) | (simp only [Int.ofNat_eq_natCast, neg_one]; omega)) only [tysW, wB, mB, Nat.reduceAdd, Nat.reduceMul, List.length_cons, List.length_nil]
          refine wp_putF g3 hp bx (by omega) (by simp) rfl fun h4 g4 b4 e4 => ?_
          simp only [overL] at b4
          try simp (disch := first | assumption | omega | (simp only [Int.ofNat_eq_natCast, neg_one]; done) | (simp only [Int.ofNat_eq_natCast, neg_one]; omega)) only [tysW, wB, mB, Nat.reduceAdd, Nat.reduceMul, List.length_cons, List.length_nil]
          exact ih (i + 1) p1 h4 s3 (stepD y 113) hnext (by omega) (by omega) g4 (by omega) ((e4 s (by omega)).trans b1) b4 (o1.but fun hp => by have := ol hp; rw [e4 _ (by omega), e3 _ (by omega) (by omega)]) (R3.but (by omega) e4)
        · try simp (disch := first | assumption | omega | (simp only [Int.ofNat_eq_natCast, neg_one]; done) | (simp only [Int.ofNat_eq_natCast, neg_one]; omega)) only [tysW, wB, mB, Nat.reduceAdd, Nat.reduceMul, List.length_cons, List.length_nil, eqc8, UInt8.reduceToNat, Nat.reduceBEq]
          refine s132 (d := d + 7) (w := 8) hN g1 hp (by omega) hby.1 hyl (.inr (.inr (.inr rfl))) (by omega) R1 fun h3 s3 g3 l3 R3 e3 => ?_
          replace b1 := (e3 s (by omega) (by omega)).trans b1
          replace bx := (e3 s5 (by omega) (by omega)).trans bx
          try simp (disch := first | assumption | omega | (simp only [Int.ofNat_eq_natCast, neg_one]; done) | (simp only [Int.ofNat_eq_natCast, neg_one]; omega)) only [tysW, wB, mB, Nat.reduceAdd, Nat.reduceMul, List.length_cons, List.length_nil]
          refine wp_putF g3 hp bx (by omega) (by simp) rfl fun h4 g4 b4 e4 => ?_
          simp only [overL] at b4
          try simp (disch := first | assumption | omega | (simp only [Int.ofNat_eq_natCast, neg_one]; done) | (simp only [Int.ofNat_eq_natCast, neg_one]; omega)) only [tysW, wB, mB, Nat.reduceAdd, Nat.reduceMul, List.length_cons, List.length_nil]
          exact ih (i + 1) p1 h4 s3 (stepD y 116) hnext (by omega) (by omega) g4 (by omega) ((e4 s (by omega)).trans b1) b4 (o1.but fun hp => by have := ol hp; rw [e4 _ (by omega), e3 _ (by omega) (by omega)]) (R3.but (by omega) e4)
        · try simp (disch := first | assumption | omega | (simp only [Int.ofNat_eq_natCast, neg_one]; done) | (simp only [Int.ofNat_eq_natCast, neg_one]; omega)) only [tysW, wB, mB, Nat.reduceAdd, Nat.reduceMul, List.length_cons, List.length_nil, eqc8, UInt8.reduceToNat, Nat.reduceBEq]
          refine s133 (d := d + 6) hN g1 hp (by omega) hby.1 hyl (by omega) R1 fun p3 h3 s3 g3 l3 R3 o3 e3 => ?_
          replace b1 := (e3 s (by omega) (by omega)).trans b1
          replace bx := (e3 s5 (by omega) (by omega)).trans bx
          have ol3 := o3.lt g3.fresh
          try simp (disch := first | assumption | omega | (simp only [Int.ofNat_eq_natCast, neg_one]; done) | (simp only [Int.ofNat_eq_natCast, neg_one]; omega)) only [tysW, wB, mB, Nat.reduceAdd, Nat.reduceMul, List.length_cons, List.length_nil]
          refine wp_putF g3 hp bx (by omega) (by simp) rfl fun h4 g4 b4 e4 => ?_
          simp only [overL] at b4
          try simp (disch := first | assumption | omega | (simp only [Int.ofNat_eq_natCast, neg_one]; done) | (simp only [Int.ofNat_eq_natCast, neg_one]; omega)) only [tysW, wB, mB, Nat.reduceAdd, Nat.reduceMul, List.length_cons, List.length_nil]
          exact ih (i + 1) p3 h4 s3 (stepD y 100) hnext (by omega) (by omega) g4 (by omega) ((e4 s (by omega)).trans b1) b4 ((o3.but fun hp => by have := ol3 hp; rw [e4 _ (by omega)]).less (by omega)) (R3.but (by omega) e4)
      · obtain rfl : i = (sayT (kindD b)).length := by omega
        try simp (disch := first | assumption | omega | (simp only [Int.ofNat_eq_natCast, neg_one]; done) | (simp only [Int.ofNat_eq_natCast, neg_one]; omega)) only [tysW, wB, mB, Nat.reduceAdd, Nat.reduceMul, List.length_cons, List.length_nil, len_say]
        rw [List.take_of_length_le (Nat.le_refl _)] at hy
        have hy : y = decS b := hy
        subst hy
        exact hJ p1 h1 s1 g1 hs1 b1 bx o1 R1
  have hle := say_le (kindD b)
  refine loop _ (fun p1 h1 s1 g1 hs1 b1 bx o1 R1 => ?_) _ (fun _ _ _ => rfl) N 0 none h8 s8 (startD b) rfl (by omega) (by omega) g8 (Nat.le_refl _) b1 b7 .nil R10
  obtain ⟨pr, lr, cr, br, slr, -⟩ := R1
  have hlr := slr.row.1
  have bad : badD b = true → ∀ {h2 : T} {s2' : Nat}, From s h h2 s2' → (K (.tuple ⟨[.agg ⟨[i64 0, i64 0, i64 0, i64 0, .slice none 0 0]⟩, i64 5]⟩) s2').wp pw Z h2 := fun hb h2 s2' g2 => hk _ _ _ g2 (by unfold Got; rw [if_pos hb]; rfl)
  cases hst : (decS b).st.2 with
  | true =>
    rw [hst] at br
    try simp (disch := first | assumption | omega | (simp only [Int.ofNat_eq_natCast, neg_one]; done) | (simp only [Int.ofNat_eq_natCast, neg_one]; omega)) only [tysW, wB, mB, Nat.reduceAdd, Nat.reduceMul, List.length_cons, List.length_nil, ldB br, clB br, ldBL br, clBL br]
    unfold X70_1
    try simp (disch := first | assumption | omega | (simp only [Int.ofNat_eq_natCast, neg_one]; done) | (simp only [Int.ofNat_eq_natCast, neg_one]; omega)) only [tysW, wB, mB, Nat.reduceAdd, Nat.reduceMul, List.length_cons, List.length_nil]
    refine wp_putF g1 hp b1 (by omega) (by simp) rfl fun h2 g2 b2 e2 => ?_
    simp only [overL] at b2
    try simp (disch := first | assumption | omega | (simp only [Int.ofNat_eq_natCast, neg_one]; done) | (simp only [Int.ofNat_eq_natCast, neg_one]; omega)) only [tysW, wB, mB, Nat.reduceAdd, Nat.reduceMul, List.length_cons, List.length_nil, ldB b2, clB b2, ldBL b2, clBL b2]
    exact bad (by unfold badD; rw [hst]; rfl) g2
  | false =>
    rw [hst] at br
    by_cases h0 : (0 : Int) < (lr : Int)
    · try simp (disch := first | assumption | omega | (simp only [Int.ofNat_eq_natCast, neg_one]; done) | (simp only [Int.ofNat_eq_natCast, neg_one]; omega)) only [tysW, wB, mB, Nat.reduceAdd, Nat.reduceMul, List.length_cons, List.length_nil, ldB br, clB br, ldBL br, clBL br]
      unfold X70_1
      try simp (disch := first | assumption | omega | (simp only [Int.ofNat_eq_natCast, neg_one]; done) | (simp only [Int.ofNat_eq_natCast, neg_one]; omega)) only [tysW, wB, mB, Nat.reduceAdd, Nat.reduceMul, List.length_cons, List.length_nil]
      refine wp_putF g1 hp b1 (by omega) (by simp) rfl fun h2 g2 b2 e2 => ?_
      simp only [overL] at b2
      try simp (disch := first | assumption | omega | (simp only [Int.ofNat_eq_natCast, neg_one]; done) | (simp only [Int.ofNat_eq_natCast, neg_one]; omega)) only [tysW, wB, mB, Nat.reduceAdd, Nat.reduceMul, List.length_cons, List.length_nil, ldB b2, clB b2, ldBL b2, clBL b2]
      refine bad ?_ g2
      unfold badD
      have : (decS b).st.1 ≠ [] := fun e => by rw [e] at hlr; simp at hlr; omega
      rw [show (decS b).st.1.isEmpty = false by simpa using this]; simp
    · try simp (disch := first | assumption | omega | (simp only [Int.ofNat_eq_natCast, neg_one]; done) | (simp only [Int.ofNat_eq_natCast, neg_one]; omega)) only [tysW, wB, mB, Nat.reduceAdd, Nat.reduceMul, List.length_cons, List.length_nil, ldB br, clB br, ldBL br, clBL br]
      unfold X70_1
      try simp (disch := first | assumption | omega | (simp only [Int.ofNat_eq_natCast, neg_one]; done) | (simp only [Int.ofNat_eq_natCast, neg_one]; omega)) only [tysW, wB, mB, Nat.reduceAdd, Nat.reduceMul, List.length_cons, List.length_nil, ldB bx, clB bx, ldBL bx, clBL bx]
      refine ValS.go g1 hp (s26 (d := d) hN g1.fresh (svD (kindD b) (decS b) p1)) fun h2 s2' g2 c2 => ?_
      have lt1 := c2.le
      replace b1 := c2.box b1 (by omega)
      replace bx := c2.box bx (by omega)
      have o2 := o1.from g1.fresh c2
      rw [badS_p _ _ p1 none]
      have he : (decS b).st.1 = [] := List.eq_nil_of_length_eq_zero (by omega)
      cases hbs : badS (svD (kindD b) (decS b) none) with
      | true =>
        try simp (disch := first | assumption | omega | (simp only [Int.ofNat_eq_natCast, neg_one]; done) | (simp only [Int.ofNat_eq_natCast, neg_one]; omega)) only [tysW, wB, mB, Nat.reduceAdd, Nat.reduceMul, List.length_cons, List.length_nil, if_true]
        refine wp_putF g2 hp b1 (by omega) (by simp) rfl fun h3 g3 b3 e3 => ?_
        simp only [overL] at b3
        try simp (disch := first | assumption | omega | (simp only [Int.ofNat_eq_natCast, neg_one]; done) | (simp only [Int.ofNat_eq_natCast, neg_one]; omega)) only [tysW, wB, mB, Nat.reduceAdd, Nat.reduceMul, List.length_cons, List.length_nil, ldB b3, clB b3, ldBL b3, clBL b3]
        exact bad (by unfold badD; rw [hbs]; simp) g3
      | false =>
        try simp (disch := first | assumption | omega | (simp only [Int.ofNat_eq_natCast, neg_one]; done) | (simp only [Int.ofNat_eq_natCast, neg_one]; omega)) only [tysW, wB, mB, Nat.reduceAdd, Nat.reduceMul, List.length_cons, List.length_nil, ldB bx, clB bx, ldBL bx, clBL bx, Bool.false_eq_true, if_false]
        refine wp_putF g2 hp b1 (by omega) (by simp) rfl fun h3 g3 b3 e3 => ?_
        simp only [overL] at b3
        try simp (disch := first | assumption | omega | (simp only [Int.ofNat_eq_natCast, neg_one]; done) | (simp only [Int.ofNat_eq_natCast, neg_one]; omega)) only [tysW, wB, mB, Nat.reduceAdd, Nat.reduceMul, List.length_cons, List.length_nil, ldB b3, clB b3, ldBL b3, clBL b3]
        refine hk _ _ _ g3 ?_
        unfold Got
        rw [if_neg (by unfold badD; rw [hst, he, hbs]; simp)]
        exact ⟨p1, rfl, (o2.but fun hp => e3 _ (by have := (o2.lt g2.fresh hp).1; omega)).less (by omega)⟩
end
end Go.Ev.R
namespace Go.Ev.R
open Go Go.RowKit
def stepX (y : ET) : ET := { y with ex := (truthR y.st).1, b := (belF (truthR y.st).2).1, st := (belF (truthR y.st).2).2 }
def stepF (y : ET) (c : UInt8) : ET :=
  if c = 115 then { y with sen := (oneR 1 y.st).1, st := (oneR 1 y.st).2 }
  else if c = 113 then { y with seq := (oneR 4 y.st).1, st := (oneR 4 y.st).2 }
  else if c = 101 then { y with err := (oneR 1 y.st).1, st := (oneR 1 y.st).2 }
  else if c = 110 then { y with nl := (listR y.st).1, st := (listR y.st).2 }
  else stepX y
theorem stepF_s (y : ET) : stepF y 115 = { y with sen := (oneR 1 y.st).1, st := (oneR 1 y.st).2 } := if_pos rfl
theorem stepF_q (y : ET) : stepF y 113 = { y with seq := (oneR 4 y.st).1, st := (oneR 4 y.st).2 } := (if_neg (by decide)).trans (if_pos rfl)
theorem stepF_e (y : ET) : stepF y 101 = { y with err := (oneR 1 y.st).1, st := (oneR 1 y.st).2 } := (if_neg (by decide)).trans ((if_neg (by decide)).trans (if_pos rfl))
theorem stepF_n (y : ET) : stepF y 110 = { y with nl := (listR y.st).1, st := (listR y.st).2 } := (if_neg (by decide)).trans ((if_neg (by decide)).trans ((if_neg (by decide)).trans (if_pos rfl)))
theorem stepF_x (y : ET) : stepF y 120 = stepX y := (if_neg (by decide)).trans ((if_neg (by decide)).trans ((if_neg (by decide)).trans (if_neg (by decide))))
theorem stepT_s (y : ET) : stepT y 115 = { y with sen := (oneR 1 y.st).1, st := (oneR 1 y.st).2 } := if_pos rfl
theorem stepT_q (y : ET) : stepT y 113 = { y with seq := (oneR 4 y.st).1, st := (oneR 4 y.st).2 } := (if_neg (by decide)).trans (if_pos rfl)
theorem stepT_e (y : ET) : stepT y 101 = { y with err := (oneR 1 y.st).1, st := (oneR 1 y.st).2 } := (if_neg (by decide)).trans ((if_neg (by decide)).trans (if_pos rfl))
theorem stepT_n (y : ET) : stepT y 110 = { y with nl := (listR y.st).1, st := (listR y.st).2 } := (if_neg (by decide)).trans ((if_neg (by decide)).trans ((if_neg (by decide)).trans (if_pos rfl)))
theorem stepT_x (y : ET) : stepT y 120 = { y with ex := (truthR y.st).1, st := (truthR y.st).2 } := (if_neg (by decide)).trans ((if_neg (by decide)).trans ((if_neg (by decide)).trans ((if_neg (by decide)).trans (if_pos rfl))))
theorem stepT_b (y : ET) : stepT y 98 = { y with b := (belP y.st).1, st := (belP y.st).2 } := (if_neg (by decide)).trans ((if_neg (by decide)).trans ((if_neg (by decide)).trans ((if_neg (by decide)).trans (if_neg (by decide)))))
def decF (b : List Int) : ET := (mrkT (kindD b)).foldl stepF (startT b)
theorem belF_bytes {x : RS} (hb : allBytes x.1) : allBytes (belF x).2.1 ∧ (belF x).2.1.length ≤ x.1.length ∧ (belF x).1.xl.length ≤ 24 ∧ (belF x).1.pl.length ≤ 576 := by
  have h5 := bytes5 hb
  have h6 := bytes6 hb
  unfold belF
  split
  · exact ⟨h6.1, h6.2.1, h5.2.2, by simp⟩
  · refine ⟨h6.1, h6.2.1, h5.2.2, ?_⟩
    show (fill _ _).length ≤ _
    rw [fill_len]
    calc _ ≤ 24 * 24 := Nat.mul_le_mul h5.2.2 h5.2.2
    _ = 576 := rfl
theorem stepF_small {y : ET} {c : UInt8} (hb : Small y) : Small (stepF y c) ∧ (stepF y c).st.1.length ≤ y.st.1.length := by
  obtain ⟨h1, h2, h3, h4⟩ := hb
  unfold stepF
  split
  · exact ⟨⟨(oneR_bytes h1).1, h2, h3, h4⟩, (oneR_bytes h1).2⟩
  split
  · exact ⟨⟨(oneR_bytes h1).1, h2, h3, h4⟩, (oneR_bytes h1).2⟩
  split
  · exact ⟨⟨(oneR_bytes h1).1, h2, h3, h4⟩, (oneR_bytes h1).2⟩
  split
  · exact ⟨⟨(listR_bytes h1).1, (listR_bytes h1).2.2, h3, h4⟩, (listR_bytes h1).2.1⟩
  · have ht := truthR_bytes h1
    obtain ⟨a1, a2, a3, a4⟩ := belF_bytes ht.1
    unfold stepX Small
    dsimp only
    exact ⟨⟨a1, h2, a3, a4⟩, Nat.le_trans a2 ht.2⟩
theorem foldF_small : ∀ (l : List UInt8) {y : ET}, Small y → Small (l.foldl stepF y) ∧ (l.foldl stepF y).st.1.length ≤ y.st.1.length
  | [], y, h => ⟨h, Nat.le_refl _⟩
  | c :: l, y, h => by
    have h1 := stepF_small (c := c) h
    have h2 := foldF_small l h1.1
    exact ⟨h2.1, Nat.le_trans h2.2 h1.2⟩
theorem foldF_next {l : List UInt8} {i : Nat} {c : UInt8} (hc : l[i]? = some c) (y : ET) : (l.take (i + 1)).foldl stepF y = stepF ((l.take i).foldl stepF y) c := by
  rw [List.take_add_one, hc, List.foldl_append]; rfl
theorem decF_5 (z : ET) : (stepX z).st = (stepT (stepT z 120) 98).st ∧ ((stepT (stepT z 120) 98).st.2 = false → stepX z = stepT (stepT z 120) 98) := by
  rw [stepT_x, stepT_b]
  unfold stepX
  refine ⟨belF_st _, fun h => ?_⟩
  have h := belF_eq (x := (truthR z.st).2) h
  rw [h]
theorem decF_both (b : List Int) : (decF b).st = (decT b).st ∧ ((decT b).st.2 = false → decF b = decT b) := by
  unfold decF decT
  obtain ⟨k, hk⟩ : ∃ k, k = kindD b := ⟨_, rfl⟩
  obtain ⟨y, hy⟩ : ∃ y, y = startT b := ⟨_, rfl⟩
  rw [← hk, ← hy]
  have t : ∀ l, mrkT k = l → telT k = l → l.foldl stepF y = l.foldl stepT y → (((mrkT k).foldl stepF y).st = ((telT k).foldl stepT y).st ∧ (((telT k).foldl stepT y).st.2 = false → (mrkT k).foldl stepF y = (telT k).foldl stepT y)) := fun l h1 h2 h3 => by
    rw [h1, h2, h3]; exact ⟨rfl, fun _ => rfl⟩
  have e1 : [115, 101].foldl stepF y = [115, 101].foldl stepT y := by simp only [List.foldl, stepF_s, stepF_e, stepT_s, stepT_e]
  have e2 : [115, 113, 101, 110].foldl stepF y = [115, 113, 101, 110].foldl stepT y := by simp only [List.foldl, stepF_s, stepF_q, stepF_e, stepF_n, stepT_s, stepT_q, stepT_e, stepT_n]
  have e3 : [113, 101, 110].foldl stepF y = [113, 101, 110].foldl stepT y := by simp only [List.foldl, stepF_q, stepF_e, stepF_n, stepT_q, stepT_e, stepT_n]
  by_cases h : 1 ≤ k ∧ k ≤ 6
  · rcases kinds6 h with rfl | rfl | rfl | rfl | rfl | rfl
    · exact t _ rfl rfl e1
    · exact t _ rfl rfl e2
    · exact t _ rfl rfl e2
    · exact t _ rfl rfl e2
    · have e5 := decF_5 (stepT (stepT y 113) 101)
      have a1 : (mrkT 5).foldl stepF y = stepX (stepT (stepT y 113) 101) := by
        rw [show mrkT 5 = [113, 101, 120] from rfl]
        simp only [List.foldl]
        rw [stepF_x]
        simp only [stepF_q, stepF_e, stepT_q, stepT_e]
      have a2 : (telT 5).foldl stepT y = stepT (stepT (stepT (stepT y 113) 101) 120) 98 := by
        rw [show telT 5 = [113, 101, 120, 98] from rfl]
        simp only [List.foldl]
      rw [a1, a2]
      exact e5
    · exact t _ rfl rfl e3
  · refine t [] (mrkT_no h) ?_ rfl
    unfold telT
    rw [if_neg (by omega), if_neg (by omega), if_neg (by omega), if_neg (by omega), if_neg (by omega), if_neg (by omega)]
theorem mrk_in {k : Int} {i : Nat} {c : UInt8} (h : (mrkT k)[i]? = some c) : 1 ≤ k ∧ k ≤ 6 := by
  by_cases hk : 1 ≤ k ∧ k ≤ 6
  · exact hk
  · rw [mrkT_no hk] at h; cases h
section
variable {N d : Nat} (hN : N = 100000) {h : T} {s : Nat} (hf : ∀ n, s ≤ n → h.get n = none)
include hN hf
theorem s72 {p : Option Addr} {len cap : Nat} {b : List Int} (r : Sl EB h p len cap b) (hl : len ≤ 50000) (hb : allBytes b) : PureS (D N (d + 12)) 72 [.slice p len cap] h s (fun v h' s' => GotT h' s v b) := by
  refine PureS.of hf fun K pw Z g hp hk => ?_
  rw [D_72]; unfold F72; rw [app1_eq]
  unfold X72_3
  have hlen := r.row.1
  try simp (disch := first | assumption | omega | (simp only [Int.ofNat_eq_natCast, neg_one]; done) | (simp only [Int.ofNat_eq_natCast, neg_one]; omega)) only [tysW, wB, mB, Nat.reduceAdd, Nat.reduceMul, List.length_cons, List.length_nil]
  refine wp_boxA g hp fun h1 g1 c1 b1 => ?_
  try simp (disch := first | assumption | omega | (simp only [Int.ofNat_eq_natCast, neg_one]; done) | (simp only [Int.ofNat_eq_natCast, neg_one]; omega)) only [tysW, wB, mB, Nat.reduceAdd, Nat.reduceMul, List.length_cons, List.length_nil]
  refine wp_boxA g1 hp fun h3 g3 c3 b3 => ?_
  replace b1 := c3.box b1 (by omega)
  have o3 := (r.from hf g1).from g1.fresh c3
  have R4 : RdAt h3 (s + 1) 146 (b, false) (eqN (s + 1)) := ⟨p, len, cap, b3, o3, fun hc => by
    have := r.lt hf hc; exact ⟨by omega, fun e => by have e : blk p = s + 1 := e; omega⟩⟩
  refine s132 (d := d + 7) (w := 1) hN g3 hp (by omega) hb (by show b.length ≤ 50000; omega) (.inl rfl) (by omega) R4 fun h5 s5 g5 l5 R5 e5 => ?_
  replace b1 := (e5 s (by omega) (by omega)).trans b1
  have hb5 := oneR_bytes (w := 1) (x := (b, false)) hb
  try simp (disch := first | assumption | omega | (simp only [Int.ofNat_eq_natCast, neg_one]; done) | (simp only [Int.ofNat_eq_natCast, neg_one]; omega)) only [tysW, wB, mB, Nat.reduceAdd, Nat.reduceMul, List.length_cons, List.length_nil]
  refine wp_boxA g5 hp fun h6 g6 c6 b6 => ?_
  replace b1 := c6.box b1 (by omega)
  have R6 := (R5.other (h' := h6) g5.fresh (Nat.le_refl s5)).from g5.fresh c6
  try simp (disch := first | assumption | omega | (simp only [Int.ofNat_eq_natCast, neg_one]; done) | (simp only [Int.ofNat_eq_natCast, neg_one]; omega)) only [tysW, wB, mB, Nat.reduceAdd, Nat.reduceMul, List.length_cons, List.length_nil]
  refine wp_putF g6 hp b6 (by omega) (by simp) rfl fun h7 g7 b7 e7 => ?_
  simp only [overL] at b7
  replace b1 := (e7 s (by omega)).trans b1
  have R7 := R6.but (by omega) e7
  have hk0 : kindD b = (oneR 1 (b, false)).1 := rfl
  rw [← hk0] at b7
  try simp (disch := first | assumption | omega | (simp only [Int.ofNat_eq_natCast, neg_one]; done) | (simp only [Int.ofNat_eq_natCast, neg_one]; omega)) only [tysW, wB, mB, Nat.reduceAdd, Nat.reduceMul, List.length_cons, List.length_nil, ldB b7, clB b7, ldBL b7, clBL b7]
  refine ValS.go g7 hp (s126 (d := d + 10) g7.fresh (kindD b)) fun h8 s8 g8 c8 => ?_
  have l8 := c8.le
  replace b1 := c8.box b1 (by omega)
  replace b7 := c8.box b7 (by omega)
  have R8 := R7.from g7.fresh c8
  try simp (disch := first | assumption | omega | (simp only [Int.ofNat_eq_natCast, neg_one]; done) | (simp only [Int.ofNat_eq_natCast, neg_one]; omega)) only [tysW, wB, mB, Nat.reduceAdd, Nat.reduceMul, List.length_cons, List.length_nil]
  have R10 : RdAt h8 (s + 1) 146 (startT b).st (eqN s5) := R8
  have b7 : h8.get s5 = some (.cells ⟨tvv (tvD (kindD b) (startT b) none none none)⟩ 60 (0, 0)) := b7
  have sst := startT_small hb
  have loop : ∀ (J : Nat → AM) (hJ : ∀ p1 p2 p3 h1 s1, From s h h1 s1 → s8 ≤ s1 → h1.get s = some (.cells ⟨tv0⟩ 60 (0, 0)) → h1.get s5 = some (.cells ⟨tvv (tvD (kindD b) (decF b) p1 p2 p3)⟩ 60 (0, 0)) → OwnT h1 (s5 + 1) (decF b) p1 p2 p3 → RdAt h1 (s + 1) 146 (decF b).st (eqN s5) → (J s1).wp pw Z h1) (B : (Value → Nat → AM) → Value → Nat → AM) (hB : ∀ H u s', B H u s' = X72_2 N (D N (d + 11)) K (str (mrkT (kindD b))) (ptr (s + 1)) (ptr s5) J H u s') (n i : Nat) (p1 p2 p3 : Option Addr) (h1 : T) (s1 : Nat) (y : ET), y = ((mrkT (kindD b)).take i).foldl stepF (startT b) → (mrkT (kindD b)).length - i < n → i ≤ (mrkT (kindD b)).length → From s h h1 s1 → s8 ≤ s1 → h1.get s = some (.cells ⟨tv0⟩ 60 (0, 0)) → h1.get s5 = some (.cells ⟨tvv (tvD (kindD b) y p1 p2 p3)⟩ 60 (0, 0)) → OwnT h1 (s5 + 1) y p1 p2 p3 → RdAt h1 (s + 1) 146 y.st (eqN s5) →
      (loopJ n 1 (fun _ _ => AM.fail) B (vi i) s1).wp pw Z h1 := by
    intro J hJ B hB n
    induction n with
    | zero => intro i p1 p2 p3 h1 s1 y hy hn; omega
    | succ n ih =>
      intro i p1 p2 p3 h1 s1 y hy hn hi g1 hs1 b1 bx o1 R1
      have hle := mrk_le (kindD b)
      have hby := foldF_small ((mrkT (kindD b)).take i) sst
      rw [← hy] at hby
      have hyb := hby.1.1
      have hyl : y.st.1.length ≤ 50000 := by
        have h1 := hby.2
        have h2 : (startT b).st.1.length ≤ b.length := hb5.2
        omega
      rw [loopJ_succ, hB]
      unfold X72_2
      by_cases hlt : i < (mrkT (kindD b)).length
      · obtain ⟨c, hc⟩ := get_some (l := mrkT (kindD b)) (i := i) hlt
        have hcm := mrk_mem (List.mem_of_getElem? hc)
        have hnext : stepF y c = ((mrkT (kindD b)).take (i + 1)).foldl stepF (startT b) := by rw [foldF_next hc, ← hy]
        have hxb : s5 < s1 := by omega
        have kp : ∀ {h3 : T} {s3 : Nat}, (∀ i, i < s1 → i ≠ s + 1 → h3.get i = h1.get i) → h3.get s = some (.cells ⟨tv0⟩ 60 (0, 0)) ∧ h3.get s5 = some (.cells ⟨tvv (tvD (kindD b) y p1 p2 p3)⟩ 60 (0, 0)) ∧ OwnT h3 (s5 + 1) y p1 p2 p3 := fun e3 => ⟨(e3 s (by omega) (by omega)).trans b1, (e3 s5 (by omega) (by omega)).trans bx, o1.but g1.fresh fun j h3 h4 h5 => e3 j h4 (by omega)⟩
        try simp (disch := first | assumption | omega | (simp only [Int.ofNat_eq_natCast, neg_one]; done) | (simp only [Int.ofNat_eq_natCast, neg_one]; omega)) only [tysW, wB, mB, Nat.reduceAdd, Nat.reduceMul, List.length_cons, List.length_nil, len_mrk, ix_mrk (mrk_in hc) hc]
        rcases hcm with rfl | rfl | rfl | rfl | rfl
        · rw [stepF_s] at hnext
          try simp (disch := first | assumption | omega | (simp only [Int.ofNat_eq_natCast, neg_one]; done) | (simp only [Int.ofNat_eq_natCast, neg_one]; omega)) only [tysW, wB, mB, Nat.reduceAdd, Nat.reduceMul, List.length_cons, List.length_nil, eqc8, UInt8.reduceToNat, Nat.reduceBEq]
          refine s132A (d := d + 7) (w := 1) hN g1 hp (by omega) hyb hyl (.inl rfl) (A := eqN s5) (fun n (hn : n = s5) => by omega) R1 fun h3 s3 g3 l3 R3 e3 => ?_
          obtain ⟨b1, bx, o1⟩ := kp (s3 := s3) e3
          try simp (disch := first | assumption | omega | (simp only [Int.ofNat_eq_natCast, neg_one]; done) | (simp only [Int.ofNat_eq_natCast, neg_one]; omega)) only [tysW, wB, mB, Nat.reduceAdd, Nat.reduceMul, List.length_cons, List.length_nil]
          refine wp_putF g3 hp bx (by omega) (by simp [tvv]) rfl fun h4 g4 b4 e4 => ?_
          simp only [overL, tvv] at b4
          have o4 := o1.but g3.fresh fun j h5 h6 h7 => e4 j (by omega)
          try simp (disch := first | assumption | omega | (simp only [Int.ofNat_eq_natCast, neg_one]; done) | (simp only [Int.ofNat_eq_natCast, neg_one]; omega)) only [tysW, wB, mB, Nat.reduceAdd, Nat.reduceMul, List.length_cons, List.length_nil]
          exact ih (i + 1) p1 p2 p3 h4 s3 _ hnext (by omega) (by omega) g4 (by omega) ((e4 s (by omega)).trans b1) b4 ⟨o4.n, o4.x, o4.p⟩ (R3.but (by omega) e4)
        · rw [stepF_q] at hnext
          try simp (disch := first | assumption | omega | (simp only [Int.ofNat_eq_natCast, neg_one]; done) | (simp only [Int.ofNat_eq_natCast, neg_one]; omega)) only [tysW, wB, mB, Nat.reduceAdd, Nat.reduceMul, List.length_cons, List.length_nil, eqc8, UInt8.reduceToNat, Nat.reduceBEq]
          refine s132A (d := d + 7) (w := 4) hN g1 hp (by omega) hyb hyl (.inr (.inr (.inl rfl))) (A := eqN s5) (fun n (hn : n = s5) => by omega) R1 fun h3 s3 g3 l3 R3 e3 => ?_
          obtain ⟨b1, bx, o1⟩ := kp (s3 := s3) e3
          try simp (disch := first | assumption | omega | (simp only [Int.ofNat_eq_natCast, neg_one]; done) | (simp only [Int.ofNat_eq_natCast, neg_one]; omega)) only [tysW, wB, mB, Nat.reduceAdd, Nat.reduceMul, List.length_cons, List.length_nil]
          refine wp_putF g3 hp bx (by omega) (by simp [tvv]) rfl fun h4 g4 b4 e4 => ?_
          simp only [overL, tvv] at b4
          have o4 := o1.but g3.fresh fun j h5 h6 h7 => e4 j (by omega)
          try simp (disch := first | assumption | omega | (simp only [Int.ofNat_eq_natCast, neg_one]; done) | (simp only [Int.ofNat_eq_natCast, neg_one]; omega)) only [tysW, wB, mB, Nat.reduceAdd, Nat.reduceMul, List.length_cons, List.length_nil]
          exact ih (i + 1) p1 p2 p3 h4 s3 _ hnext (by omega) (by omega) g4 (by omega) ((e4 s (by omega)).trans b1) b4 ⟨o4.n, o4.x, o4.p⟩ (R3.but (by omega) e4)
        · rw [stepF_e] at hnext
          try simp (disch := first | assumption | omega | (simp only [Int.ofNat_eq_natCast, neg_one]; done) | (simp only [Int.ofNat_eq_natCast, neg_one]; omega)) only [tysW, wB, mB, Nat.reduceAdd, Nat.reduceMul, List.length_cons, List.length_nil, eqc8, UInt8.reduceToNat, Nat.reduceBEq]
          refine s132A (d := d + 7) (w := 1) hN g1 hp (by omega) hyb hyl (.inl rfl) (A := eqN s5) (fun n (hn : n = s5) => by omega) R1 fun h3 s3 g3 l3 R3 e3 => ?_
          obtain ⟨b1, bx, o1⟩ := kp (s3 := s3) e3
          try simp (disch := first | assumption | omega | (simp only [Int.ofNat_eq_natCast, neg_one]; done) | (simp only [Int.ofNat_eq_natCast, neg_one]; omega)) only [tysW, wB, mB, Nat.reduceAdd, Nat.reduceMul, List.length_cons, List.length_nil]
          refine wp_putF g3 hp bx (by omega) (by simp [tvv]) rfl fun h4 g4 b4 e4 => ?_
          simp only [overL, tvv] at b4
          have o4 := o1.but g3.fresh fun j h5 h6 h7 => e4 j (by omega)
          try simp (disch := first | assumption | omega | (simp only [Int.ofNat_eq_natCast, neg_one]; done) | (simp only [Int.ofNat_eq_natCast, neg_one]; omega)) only [tysW, wB, mB, Nat.reduceAdd, Nat.reduceMul, List.length_cons, List.length_nil]
          exact ih (i + 1) p1 p2 p3 h4 s3 _ hnext (by omega) (by omega) g4 (by omega) ((e4 s (by omega)).trans b1) b4 ⟨o4.n, o4.x, o4.p⟩ (R3.but (by omega) e4)
        · rw [stepF_n] at hnext
          try simp (disch := first | assumption | omega | (simp only [Int.ofNat_eq_natCast, neg_one]; done) | (simp only [Int.ofNat_eq_natCast, neg_one]; omega)) only [tysW, wB, mB, Nat.reduceAdd, Nat.reduceMul, List.length_cons, List.length_nil, eqc8, UInt8.reduceToNat, Nat.reduceBEq]
          refine s133A (d := d + 6) hN g1 hp (by omega) hyb hyl (A := eqN s5) (fun n (hn : n = s5) => by omega) R1 fun q1 h3 s3 g3 l3 R3 oq e3 => ?_
          obtain ⟨b1, bx, o1⟩ := kp (s3 := s3) e3
          have oql := oq.lt g3.fresh
          try simp (disch := first | assumption | omega | (simp only [Int.ofNat_eq_natCast, neg_one]; done) | (simp only [Int.ofNat_eq_natCast, neg_one]; omega)) only [tysW, wB, mB, Nat.reduceAdd, Nat.reduceMul, List.length_cons, List.length_nil]
          refine wp_putF g3 hp bx (by omega) (by simp [tvv]) rfl fun h4 g4 b4 e4 => ?_
          simp only [overL, tvv] at b4
          have o4 := o1.but g3.fresh fun j h5 h6 h7 => e4 j (by omega)
          try simp (disch := first | assumption | omega | (simp only [Int.ofNat_eq_natCast, neg_one]; done) | (simp only [Int.ofNat_eq_natCast, neg_one]; omega)) only [tysW, wB, mB, Nat.reduceAdd, Nat.reduceMul, List.length_cons, List.length_nil]
          exact ih (i + 1) q1 p2 p3 h4 s3 _ hnext (by omega) (by omega) g4 (by omega) ((e4 s (by omega)).trans b1) b4 ⟨(oq.but fun hp => e4 _ (by have := oql hp; omega)).less (by omega), o4.x, o4.p⟩ (R3.but (by omega) e4)
        · rw [stepF_x] at hnext
          try simp (disch := first | assumption | omega | (simp only [Int.ofNat_eq_natCast, neg_one]; done) | (simp only [Int.ofNat_eq_natCast, neg_one]; omega)) only [tysW, wB, mB, Nat.reduceAdd, Nat.reduceMul, List.length_cons, List.length_nil, eqc8, UInt8.reduceToNat, Nat.reduceBEq]
          refine s136 (d := d + 6) hN g1 hp (by omega) hyb hyl (A := eqN s5) (fun n (hn : n = s5) => by omega) R1 fun h3 s3 g3 l3 R3 e3 => ?_
          obtain ⟨b1, bx, o1⟩ := kp (s3 := s3) e3
          try simp (disch := first | assumption | omega | (simp only [Int.ofNat_eq_natCast, neg_one]; done) | (simp only [Int.ofNat_eq_natCast, neg_one]; omega)) only [tysW, wB, mB, Nat.reduceAdd, Nat.reduceMul, List.length_cons, List.length_nil]
          refine wp_putF g3 hp bx (by omega) (by simp [tvv]) rfl fun h4 g4 b4 e4 => ?_
          simp only [overL, tvv] at b4
          have o4 := o1.but g3.fresh fun j h5 h6 h7 => e4 j (by omega)
          have ht := truthR_bytes hyb
          have o4l : ∀ j, s5 + 1 ≤ j → j < s3 → s5 ≠ j := fun j h1 h2 => by omega
          try simp (disch := first | assumption | omega | (simp only [Int.ofNat_eq_natCast, neg_one]; done) | (simp only [Int.ofNat_eq_natCast, neg_one]; omega)) only [tysW, wB, mB, Nat.reduceAdd, Nat.reduceMul, List.length_cons, List.length_nil]
          refine s137 (d := d + 5) hN g4 hp (by omega) ht.1 (by omega) (A := eqN s5) (fun n (hn : n = s5) => by omega) (R3.but (by omega) e4) fun q2 q3 h5 s5' g5 l5 R5 ox op e5 => ?_
          unfold stepX at hnext
          obtain ⟨z, hz⟩ : ∃ z, z = belF (truthR y.st).2 := ⟨_, rfl⟩
          rw [← hz] at hnext R5 ox op ⊢
          have b5 := (e5 s5 (by omega) (by omega)).trans b4
          have b1' := (e5 s (by omega) (by omega)).trans ((e4 s (by omega)).trans b1)
          have o5 := o4.but g4.fresh fun j h5 h6 h7 => e5 j h6 (by omega)
          have oxl := ox.lt g5.fresh
          have opl := op.lt g5.fresh
          try simp (disch := first | assumption | omega | (simp only [Int.ofNat_eq_natCast, neg_one]; done) | (simp only [Int.ofNat_eq_natCast, neg_one]; omega)) only [tysW, wB, mB, Nat.reduceAdd, Nat.reduceMul, List.length_cons, List.length_nil, bvv]
          refine wp_putF g5 hp b5 (by omega) (by simp) rfl fun h6 g6 b6 e6 => ?_
          simp only [overL] at b6
          have o6 := o5.but g5.fresh fun j h5 h6 h7 => e6 j (by omega)
          try simp (disch := first | assumption | omega | (simp only [Int.ofNat_eq_natCast, neg_one]; done) | (simp only [Int.ofNat_eq_natCast, neg_one]; omega)) only [tysW, wB, mB, Nat.reduceAdd, Nat.reduceMul, List.length_cons, List.length_nil]
          exact ih (i + 1) p1 q2 q3 h6 s5' _ hnext (by omega) (by omega) g6 (by omega) ((e6 s (by omega)).trans b1') b6 ⟨o6.n, (ox.but fun hp => e6 _ (by have := oxl hp; omega)).less (by omega), (op.but fun hp => e6 _ (by have := opl hp; omega)).less (by omega)⟩ (R5.but (by omega) e6)
      · obtain rfl : i = (mrkT (kindD b)).length := by omega
        try simp (disch := first | assumption | omega | (simp only [Int.ofNat_eq_natCast, neg_one]; done) | (simp only [Int.ofNat_eq_natCast, neg_one]; omega)) only [tysW, wB, mB, Nat.reduceAdd, Nat.reduceMul, List.length_cons, List.length_nil, len_mrk]
        rw [List.take_of_length_le (Nat.le_refl _)] at hy
        have hy : y = decF b := hy
        subst hy
        exact hJ p1 p2 p3 h1 s1 g1 hs1 b1 bx o1 R1
  have hle := mrk_le (kindD b)
  refine loop _ (fun p1 p2 p3 h1 s1 g1 hs1 b1 bx o1 R1 => ?_) _ (fun _ _ _ => rfl) N 0 none none none h8 s8 (startT b) rfl (by omega) (by omega) g8 (Nat.le_refl _) b1 b7 ⟨.nil, .nil, .nil⟩ R10
  obtain ⟨hst1, hst2⟩ := decF_both b
  rw [hst1] at R1
  have hsm := decT_small hb
  obtain ⟨pr, lr, cr, br, slr, -⟩ := R1
  have hlr := slr.row.1
  simp only [tvv] at bx
  have bad : badG b = true → ∀ {h2 : T} {s2' : Nat}, From s h h2 s2' → (K (.tuple ⟨[.agg ⟨[i64 0, i64 0, i64 0, i64 0, .slice none 0 0, .bool false, i64 0, .slice none 0 0, .slice none 0 0, .bool false, i64 0, i64 0]⟩, i64 5]⟩) s2').wp pw Z h2 := fun hb h2 s2' g2 => hk _ _ _ g2 (by unfold GotT; rw [if_pos hb]; rfl)
  cases hst : (decT b).st.2 with
  | true =>
    rw [hst] at br
    try simp (disch := first | assumption | omega | (simp only [Int.ofNat_eq_natCast, neg_one]; done) | (simp only [Int.ofNat_eq_natCast, neg_one]; omega)) only [tysW, wB, mB, Nat.reduceAdd, Nat.reduceMul, List.length_cons, List.length_nil, ldB br, clB br, ldBL br, clBL br]
    unfold X72_1
    try simp (disch := first | assumption | omega | (simp only [Int.ofNat_eq_natCast, neg_one]; done) | (simp only [Int.ofNat_eq_natCast, neg_one]; omega)) only [tysW, wB, mB, Nat.reduceAdd, Nat.reduceMul, List.length_cons, List.length_nil]
    refine wp_putF g1 hp b1 (by omega) (by simp) rfl fun h2 g2 b2 e2 => ?_
    simp only [overL] at b2
    try simp (disch := first | assumption | omega | (simp only [Int.ofNat_eq_natCast, neg_one]; done) | (simp only [Int.ofNat_eq_natCast, neg_one]; omega)) only [tysW, wB, mB, Nat.reduceAdd, Nat.reduceMul, List.length_cons, List.length_nil, ldB b2, clB b2, ldBL b2, clBL b2]
    exact bad (by unfold badG; rw [hst]; rfl) g2
  | false =>
    rw [hst2 hst] at bx o1
    rw [hst] at br
    by_cases h0 : (0 : Int) < (lr : Int)
    · try simp (disch := first | assumption | omega | (simp only [Int.ofNat_eq_natCast, neg_one]; done) | (simp only [Int.ofNat_eq_natCast, neg_one]; omega)) only [tysW, wB, mB, Nat.reduceAdd, Nat.reduceMul, List.length_cons, List.length_nil, ldB br, clB br, ldBL br, clBL br]
      unfold X72_1
      try simp (disch := first | assumption | omega | (simp only [Int.ofNat_eq_natCast, neg_one]; done) | (simp only [Int.ofNat_eq_natCast, neg_one]; omega)) only [tysW, wB, mB, Nat.reduceAdd, Nat.reduceMul, List.length_cons, List.length_nil]
      refine wp_putF g1 hp b1 (by omega) (by simp) rfl fun h2 g2 b2 e2 => ?_
      simp only [overL] at b2
      try simp (disch := first | assumption | omega | (simp only [Int.ofNat_eq_natCast, neg_one]; done) | (simp only [Int.ofNat_eq_natCast, neg_one]; omega)) only [tysW, wB, mB, Nat.reduceAdd, Nat.reduceMul, List.length_cons, List.length_nil, ldB b2, clB b2, ldBL b2, clBL b2]
      refine bad ?_ g2
      unfold badG
      have : (decT b).st.1 ≠ [] := fun e => by rw [e] at hlr; simp at hlr; omega
      rw [show (decT b).st.1.isEmpty = false by simpa using this]; simp
    · try simp (disch := first | assumption | omega | (simp only [Int.ofNat_eq_natCast, neg_one]; done) | (simp only [Int.ofNat_eq_natCast, neg_one]; omega)) only [tysW, wB, mB, Nat.reduceAdd, Nat.reduceMul, List.length_cons, List.length_nil, ldB br, clB br, ldBL br, clBL br]
      unfold X72_1
      try simp (disch := first | assumption | omega | (simp only [Int.ofNat_eq_natCast, neg_one]; done) | (simp only [Int.ofNat_eq_natCast, neg_one]; omega)) only [tysW, wB, mB, Nat.reduceAdd, Nat.reduceMul, List.length_cons, List.length_nil, ldB bx, clB bx, ldBL bx, clBL bx]
      refine ValS.go g1 hp (s67 (d := d) hN g1.fresh (tvD (kindD b) (decT b) p1 p2 p3) (pl := (decT b).b.pl) o1.p.sl.row (by have := hsm.2.2.2; show (decT b).b.pl.length ≤ 1000; omega) (by have := hsm.2.2.1; show (decT b).b.xl.length ≤ 1000; omega)) fun h2 s2' g2 c2 => ?_
      have lt1 := c2.le
      replace b1 := c2.box b1 (by omega)
      replace bx := c2.box bx (by omega)
      have o2 := o1.but g1.fresh fun j h5 h6 h7 => c2.keep j h6
      rw [badT_p _ _ _ p1 p2 p3 none none none]
      have he : (decT b).st.1 = [] := List.eq_nil_of_length_eq_zero (by omega)
      cases hbs : badT (tvD (kindD b) (decT b) none none none) (decT b).b.pl with
      | true =>
        try simp (disch := first | assumption | omega | (simp only [Int.ofNat_eq_natCast, neg_one]; done) | (simp only [Int.ofNat_eq_natCast, neg_one]; omega)) only [tysW, wB, mB, Nat.reduceAdd, Nat.reduceMul, List.length_cons, List.length_nil, if_true]
        refine wp_putF g2 hp b1 (by omega) (by simp) rfl fun h3 g3 b3 e3 => ?_
        simp only [overL] at b3
        try simp (disch := first | assumption | omega | (simp only [Int.ofNat_eq_natCast, neg_one]; done) | (simp only [Int.ofNat_eq_natCast, neg_one]; omega)) only [tysW, wB, mB, Nat.reduceAdd, Nat.reduceMul, List.length_cons, List.length_nil, ldB b3, clB b3, ldBL b3, clBL b3]
        exact bad (by unfold badG; rw [hbs]; simp) g3
      | false =>
        try simp (disch := first | assumption | omega | (simp only [Int.ofNat_eq_natCast, neg_one]; done) | (simp only [Int.ofNat_eq_natCast, neg_one]; omega)) only [tysW, wB, mB, Nat.reduceAdd, Nat.reduceMul, List.length_cons, List.length_nil, ldB bx, clB bx, ldBL bx, clBL bx, Bool.false_eq_true, if_false]
        refine wp_putF g2 hp b1 (by omega) (by simp) rfl fun h3 g3 b3 e3 => ?_
        simp only [overL] at b3
        try simp (disch := first | assumption | omega | (simp only [Int.ofNat_eq_natCast, neg_one]; done) | (simp only [Int.ofNat_eq_natCast, neg_one]; omega)) only [tysW, wB, mB, Nat.reduceAdd, Nat.reduceMul, List.length_cons, List.length_nil, ldB b3, clB b3, ldBL b3, clBL b3]
        have o3 := o2.but g2.fresh fun j h5 h6 h7 => e3 j (by omega)
        refine hk _ _ _ g3 ?_
        unfold GotT
        rw [if_neg (by unfold badG; rw [hst, he, hbs]; simp)]
        exact ⟨p1, p2, p3, rfl, o3.n.less (by omega), o3.x.less (by omega), o3.p.less (by omega)⟩
end
end Go.Ev.R
namespace Go.Ev.R
open Go Go.RowKit
abbrev four : List Int := [201, 202, 203, 204]
section
variable {N d : Nat} (hN : N = 100000) {h : T} {s : Nat} (hf : ∀ n, s ≤ n → h.get n = none)
include hf
theorem s69 {p : Option Addr} {len cap : Nat} {b : List Int} (r : Sl EB h p len cap b) (hl : len ≤ 50000) : PureS (D N (d + 1)) 69 [.slice p len cap] h s (fun v h' s' => ∃ m f, v = .slice (some ⟨m, 0, none⟩) len (len + 4) ∧ s ≤ m ∧ h'.get m = some (.cells ⟨(b ++ four).flatMap EB.f⟩ 5 (f, 0)) ∧ (f = 0 ∨ f = EB.z + 1)) := by
  refine PureS.of hf fun K pw Z g hp hk => ?_
  rw [D_69]; unfold F69; rw [app1_eq]
  have hlen := r.row.1
  try simp (disch := first | assumption | omega | (simp only [Int.ofNat_eq_natCast, neg_one]; done) | (simp only [Int.ofNat_eq_natCast, neg_one]; omega)) only [tysW, wB, mB, Nat.reduceAdd, Nat.reduceMul, List.length_cons, List.length_nil]
  refine wp_newF g hp fun h1 g1 c1 b1 => ?_
  have o1 : OwnG EB 5 h1 s (some ⟨s, 0, none⟩) 0 [] := ⟨rfl, .inr ⟨s, 0, rfl, Nat.le_refl _, b1, .inl rfl⟩⟩
  have r1 := r.from hf g1
  try simp (disch := first | assumption | omega | (simp only [Int.ofNat_eq_natCast, neg_one]; done) | (simp only [Int.ofNat_eq_natCast, neg_one]; omega)) only [tysW, wB, mB, Nat.reduceAdd, Nat.reduceMul, List.length_cons, List.length_nil]
  refine apG (E := EB) g1 hp o1 (Nat.le_refl _) (by omega) r1.row (fun _ => rfl) (by omega) fun p2 h2 s2 g2 l2 o2 e2 => ?_
  rw [Nat.zero_add, List.nil_append] at *
  try simp (disch := first | assumption | omega | (simp only [Int.ofNat_eq_natCast, neg_one]; done) | (simp only [Int.ofNat_eq_natCast, neg_one]; omega)) only [tysW, wB, mB, Nat.reduceAdd, Nat.reduceMul, List.length_cons, List.length_nil]
  refine wp_newF g2 hp fun h3 g3 c3 b3 => ?_
  have o3 := o2.from g2.fresh c3
  try simp (disch := first | assumption | omega | (simp only [Int.ofNat_eq_natCast, neg_one]; done) | (simp only [Int.ofNat_eq_natCast, neg_one]; omega)) only [tysW, wB, mB, Nat.reduceAdd, Nat.reduceMul, List.length_cons, List.length_nil]
  refine apG (E := EB) (n := 4) (l2 := four) g3 hp o3 (Nat.le_refl _) (by omega) (.of_cells b3 rfl) (fun _ => rfl) (by omega) fun p4 h4 s4 g4 l4 o4 e4 => ?_
  obtain ⟨hl4, ⟨-, h0⟩ | ⟨m, f, rfl, hm, b4, hf4⟩⟩ := o4
  · omega
  try simp (disch := first | assumption | omega | (simp only [Int.ofNat_eq_natCast, neg_one]; done) | (simp only [Int.ofNat_eq_natCast, neg_one]; omega)) only [tysW, wB, mB, Nat.reduceAdd, Nat.reduceMul, List.length_cons, List.length_nil]
  rw [wp_sl_to (z := 1) b4 hf4 (by omega) (by omega)]
  exact hk _ _ _ g4 ⟨m, f, rfl, hm, b4, hf4⟩
end
section
variable {N d : Nat} (hN : N = 100000) {h0 h : T} {s0 s : Nat} {K : KV} {pw : Nat → Prop} {Z : Value → T → Prop} (g : From s0 h0 h s) (hp : ∀ n, s0 ≤ n → pw n)
include hN g hp
theorem s73 {p : Option Addr} {len cap t : Nat} {l : List Int} (ht : s0 ≤ t) (o : OwnG EI 3 h t p len l) (hl : len ≤ 1000)
    (hk : ∀ h', From s0 h0 h' s → (∀ n, (p ≠ none → n ≠ blk p) → h'.get n = h.get n) → (∃ l', OwnG EI 3 h' t p len l') → (K (.tuple ⟨[]⟩) s).wp pw Z h') : (D N (d + 1) 73 [.slice p len cap] K s).wp pw Z h := by
  rw [D_73]; unfold F73; rw [app1_eq]
  have loop : ∀ (B : (Value → Nat → AM) → Value → Nat → AM) (hB : ∀ H i s', B H i s' = X73_1 N (D N d) K (.slice p len cap) H i s') (m i : Nat) (h1 : T) (l1 : List Int), len - i < m → i ≤ len → From s0 h0 h1 s → (∀ n, (p ≠ none → n ≠ blk p) → h1.get n = h.get n) → OwnG EI 3 h1 t p len l1 →
      (loopJ m 1 (fun _ _ => AM.fail) B (vi i) s).wp pw Z h1 := by
    intro B hB m
    induction m with
    | zero => intro i h1 l1 hm; omega
    | succ m ih =>
      intro i h1 l1 hm hil g1 e1 o1
      rw [loopJ_succ, hB]
      unfold X73_1
      by_cases hlt : i < len
      · try simp (disch := first | assumption | omega | (simp only [Int.ofNat_eq_natCast, neg_one]; done) | (simp only [Int.ofNat_eq_natCast, neg_one]; omega)) only [tysW, wB, mB, Nat.reduceAdd, Nat.reduceMul, List.length_cons, List.length_nil, xaI o1.sl.row (j := (i : Int)) (by omega) (by omega)]
        obtain ⟨hl1, ⟨rfl, h0⟩ | ⟨n, f, rfl, y1, y2, y3⟩⟩ := o1
        · omega
        · have e2 : overL (l1.flatMap EI.f) i [.int .i64 (Int.negSucc 76)] = (l1.set i (-77)).flatMap EI.f := set_int l1 (by omega) (-77)
          simp only [blk, off, Nat.zero_add]
          refine wp_putF g1 hp y2 (by omega) (by rw [flatI, List.length_map]; simp; omega) rfl fun h2 g2 b2 e3 => ?_
          rw [e2] at b2
          try simp (disch := first | assumption | omega | (simp only [Int.ofNat_eq_natCast, neg_one]; done) | (simp only [Int.ofNat_eq_natCast, neg_one]; omega)) only [tysW, wB, mB, Nat.reduceAdd, Nat.reduceMul, List.length_cons, List.length_nil]
          exact ih (i + 1) h2 (l1.set i (-77)) (by omega) (by omega) g2 (fun n' hn' => by rw [e3 n' (hn' (by simp))]; exact e1 n' hn') ⟨by rw [List.length_set]; exact hl1, .inr ⟨n, f, rfl, y1, b2, y3⟩⟩
      · obtain rfl : i = len := by omega
        try simp (disch := first | assumption | omega | (simp only [Int.ofNat_eq_natCast, neg_one]; done) | (simp only [Int.ofNat_eq_natCast, neg_one]; omega)) only [tysW, wB, mB, Nat.reduceAdd, Nat.reduceMul, List.length_cons, List.length_nil]
        exact hk h1 g1 e1 ⟨l1, o1⟩
  exact loop _ (fun _ _ _ => rfl) N 0 h l (by omega) (by omega) g (fun _ _ => rfl) o
theorem s74 {bv : BV} {t : Nat} {xl pl : List Int} (ht : s0 ≤ t) (hts : t ≤ s) (ox : OwnG EI 3 h t bv.xp bv.xn xl) (op : OwnG EI 3 h t bv.pp bv.pn pl) (hx : bv.xn ≤ 1000) (hpn : bv.pn ≤ 1000)
    (hk : ∀ h' s', From s0 h0 h' s' → (∀ n, n < t → h'.get n = h.get n) → (K (.tuple ⟨[]⟩) s').wp pw Z h') : (D N (d + 2) 74 [.agg ⟨bvv bv⟩] K s).wp pw Z h := by
  rw [D_74]; unfold F74; rw [app1_eq]
  refine wp_boxA g hp fun h1 g1 c1 b1 => ?_
  simp only [bvv] at b1
  have ox1 := ox.from g.fresh c1
  have op1 := op.from g.fresh c1
  try simp (disch := first | assumption | omega | (simp only [Int.ofNat_eq_natCast, neg_one]; done) | (simp only [Int.ofNat_eq_natCast, neg_one]; omega)) only [tysW, wB, mB, Nat.reduceAdd, Nat.reduceMul, List.length_cons, List.length_nil, ldB b1, clB b1, ldBL b1, clBL b1]
  refine s73 (d := d) hN g1 hp ht ox1 hx fun h2 g2 e2 ⟨l2, ox2⟩ => ?_
  have b2 : h2.get s = _ := (e2 s fun hp => by have := ox.lt g.fresh hp; omega).trans b1
  have op2 : ∃ l', OwnG EI 3 h2 t bv.pp bv.pn l' := by
    by_cases hb : bv.pp ≠ none ∧ bv.xp ≠ none ∧ blk bv.pp = blk bv.xp
    · obtain ⟨hq1, hq2, hq3⟩ := hb
      obtain ⟨a1, ⟨h5, _⟩ | ⟨n, f, a2, a3, a4, a5⟩⟩ := op1
      · exact absurd h5 hq1
      · obtain ⟨c1', ⟨h5, _⟩ | ⟨n', f', c2, c3, c4, c5⟩⟩ := ox2
        · exact absurd h5 hq2
        · rw [a2, c2] at hq3
          have hq3 : n = n' := hq3
          subst hq3
          obtain ⟨d1, ⟨h5, _⟩ | ⟨n2, f2, d2, d3, d4, d5⟩⟩ := ox1
          · exact absurd h5 hq2
          · rw [c2] at d2
            cases d2
            rw [a4] at d4
            have : pl.length = xl.length := by
              have := congrArg (fun o : Option Obj => match o with | some (.cells c _ _) => c.size | _ => 0) d4
              dsimp only at this
              simp only [List.size_toArray] at this
              rw [flatI, flatI, List.length_map, List.length_map] at this
              exact this
            exact ⟨l2, by omega, .inr ⟨n, f', a2, a3, c4, c5⟩⟩
    · exact ⟨pl, op1.but fun hp => e2 _ fun hx he => hb ⟨hp, hx, he⟩⟩
  obtain ⟨l3, op2⟩ := op2
  try simp (disch := first | assumption | omega | (simp only [Int.ofNat_eq_natCast, neg_one]; done) | (simp only [Int.ofNat_eq_natCast, neg_one]; omega)) only [tysW, wB, mB, Nat.reduceAdd, Nat.reduceMul, List.length_cons, List.length_nil, ldB b2, clB b2, ldBL b2, clBL b2]
  refine s73 (d := d) hN g2 hp ht op2 hpn fun h3 g3 e3 _ => ?_
  try simp (disch := first | assumption | omega | (simp only [Int.ofNat_eq_natCast, neg_one]; done) | (simp only [Int.ofNat_eq_natCast, neg_one]; omega)) only [tysW, wB, mB, Nat.reduceAdd, Nat.reduceMul, List.length_cons, List.length_nil]
  exact hk h3 _ g3 fun n hn => by
    rw [e3 n fun hp => by have := op.lt g.fresh hp; omega, e2 n fun hp => by have := ox.lt g.fresh hp; omega, c1.keep n (by omega)]
end
theorem D_75k (N d : Nat) (args : List Value) (K : KV) (s : Nat) : D N (d + 1) 75 args K s = kept (D N d) args K s := by kernel_rfl
theorem s75 {N d : Nat} {h : T} {s : Nat} {K : KV} {pw : Nat → Prop} {Z : Value → T → Prop} {m n e f : Nat} {q : Option Addr} {b : List Int} (b1 : h.get m = some (.cells ⟨(b ++ four).flatMap EB.f⟩ 5 (f, 0))) (r : Sl EB h q n e b) (hq : e = 0 → q = none ∨ q = some ⟨0, 0, some 0⟩) (hn : n ≤ 2000) (hk : (K (.bool true) s).wp pw Z h) : (D N (d + 1) 75 [.slice (some ⟨m, 0, none⟩) n (n + 4), .slice q n e] K s).wp pw Z h := by
  rw [D_75k]
  have hl := r.row.1
  have row1 : InRow (some (.cells ⟨(b ++ four).flatMap EB.f⟩ 5 (f, 0))) 0 (b ++ [201, 202, 203, 204]) := ⟨_, _, _, rfl, fun i x hx => by
    rw [flatB, Nat.zero_add, List.getElem?_toArray, List.getElem?_map, hx]; rfl⟩
  by_cases he : e = 0
  · subst he
    have hN : keptN [.slice (some ⟨m, 0, none⟩) n (n + 4), .slice q n 0] = [m] := by
      unfold keptN
      cases q <;> rfl
    refine wp_kept (os := [_]) rfl (by rw [hN]; unfold readT; rw [b1]; rfl) ⟨m, 0, q, n, 0, b, rfl, hl, hn, r.le, row1, .inl ⟨rfl, hq rfl⟩⟩ hk
  · obtain ⟨c, t, f2, g2, h2, -⟩ := r.ok he
    cases hqq : q with
    | none => exact absurd (r.non hqq) he
    | some a =>
      obtain ⟨m2, o2, q2⟩ := a
      subst hqq
      have h2 : h.get m2 = _ := h2
      have hN : keptN [.slice (some ⟨m, 0, none⟩) n (n + 4), .slice (some ⟨m2, o2, q2⟩) n e] = [m, m2] := by
        unfold keptN
        dsimp only
        rw [if_neg he]
      refine wp_kept (os := [_, _]) rfl (by rw [hN]; unfold readT; rw [b1]; unfold readT; rw [h2]; rfl) ⟨m, 0, _, n, e, b, rfl, hl, hn, r.le, row1, .inr ⟨he, m2, o2, q2, rfl, c, t, _, rfl, fun i x hx => ?_⟩⟩ hk
      rcases r.row.2.2 with h0 | ⟨-, c', t', f', h3, h4⟩
      · have : i < b.length := (List.getElem?_eq_some_iff.1 hx).1
        have h0 : n * 1 = 0 := h0
        omega
      · have h3 : h.get m2 = _ := h3
        rw [h2] at h3
        cases h3
        have h4 : (c.toList.drop o2).take (n * 1) = b.flatMap EB.f := h4
        have h5 : ((c.toList.drop o2).take (n * 1))[i]? = some (u8 x) := by
          rw [h4, flatB, List.getElem?_map, hx]; rfl
        rw [List.getElem?_take] at h5
        split at h5
        · rw [List.getElem?_drop] at h5
          simpa using h5
        · cases h5
end Go.Ev.R
namespace Go.Ev.R
open Go Go.RowKit
theorem cap_25 (a : Addr) (n c : Nat) (k : Value → Nat → AM) (s : Nat) : acap P ⟨[25]⟩ (.slice (some a) n c) k s = .get a.block fun
      | .cells d _ f => match f.1 with
        | 0 => k (.int .i64 (c : Nat)) s
        | z + 1 => bif !a.spot.isSome && Nat.beq (a.off + c * z) d.size then .fail else k (.int .i64 (c : Nat)) s
      | _ => .fail := by kernel_rfl
theorem strL {h : T} {pw : Nat → Prop} {Z : Value → T → Prop} {s : Nat} {p : Option Addr} {n c : Nat} {l : List Int} (r : Row EB h p n l) {j : LogT} (hk : ∀ ts, (∀ n ∈ ts, ∃ y, h.get n = some y) → (j (str (l.map fun x => UInt8.ofNat x.toNat)) ts [] s).wp pw Z h) :
    (AM.log (convX P 25 9 (.slice p n c) (fun v s => AM.ret (pk v s)) s) (logU j)).wp pw Z h := by
  rw [cst]
  refine log_wp (W := fun _ => False) (Q := fun v h' s' => v = str (l.map fun x => UInt8.ofNat x.toNat) ∧ h' = h ∧ s' = s) ?_ (fun n hn => hn.elim) ?_
  · rw [wp_bst r]
    exact ⟨_, _, rfl, rfl, rfl, rfl⟩
  · rintro v h' s' ts ws ⟨rfl, rfl, rfl⟩ hw ht
    obtain rfl : ws = [] := List.eq_nil_iff_forall_not_mem.2 fun n hn => (hw n hn).1
    exact hk ts ht
theorem cutL {h : T} {pw : Nat → Prop} {Z : Value → T → Prop} {s : Nat} {n o len cap a b : Nat} {c : Array Value} {t : TypeId} {g : Nat} (hg : h.get n = some (.cells c t (0, g))) (hab : a ≤ b) (hb : b ≤ cap) (hc : cap ≠ 0) {j : LogT} (hk : ∀ ts, (∀ n ∈ ts, ∃ y, h.get n = some y) → (j (.slice (some ⟨n, o + a * 1, none⟩) (b - a) (cap - a)) ts [] s).wp pw Z h) :
    (AM.log (slS 1 (some ⟨n, o, none⟩) len cap (some (vi a)) (some (vi b)) none (fun v s => AM.ret (pk v s)) s) (logU j)).wp pw Z h := by
  refine log_wp (W := fun _ => False) (Q := fun v h' s' => v = .slice (some ⟨n, o + a * 1, none⟩) (b - a) (cap - a) ∧ h' = h ∧ s' = s) ?_ (fun n hn => hn.elim) ?_
  · have hbd : abounds len cap (some (vi a)) (some (vi b)) none = some (a, b, cap) := by
      simp [abounds, abound, hab, hb]
      rw [show Nat.ble a b = true by rw [Nat.ble_eq]; exact hab, show Nat.ble b cap = true by rw [Nat.ble_eq]; exact hb]; rfl
    unfold slS
    rw [hbd]
    dsimp only
    rw [show Nat.beq cap 0 = false from beq_no hc]
    simp only [cond_false, wp_get, hg]
    exact ⟨_, _, rfl, rfl, rfl, rfl⟩
  · rintro v h' s' ts ws ⟨rfl, rfl, rfl⟩ hw ht
    obtain rfl : ws = [] := List.eq_nil_iff_forall_not_mem.2 fun n hn => (hw n hn).1
    exact hk ts ht
section
variable {N : Nat} {C : CallT} {h : T} {s : Nat} (hf : ∀ n, s ≤ n → h.get n = none)
include hf
theorem f75 {r n e cap : Nat} {q : Option Addr} {l : List Int} {K : KV} {pw : Nat → Prop} {Z : Value → T → Prop} (hp : ∀ n, s ≤ n → pw n) (hl : l.length = n) (hn : n ≤ 2000) (hc : n + 4 ≤ cap) (h1 : h.get r = some (.cells ⟨(l ++ four).map u8⟩ 0 (0, 1))) (rq : Row EB h q n l) (hk : ∀ h' s', (K (.bool true) s').wp pw Z h') :
    (F75 N C [.slice (some ⟨r, 0, none⟩) n cap, .slice q n e] K s).wp pw Z h := by
  unfold F75; rw [app2_eq]
  rw [cap_25, wp_get, h1]
  dsimp only
  try simp (disch := first | assumption | omega | (simp only [Int.ofNat_eq_natCast, neg_one]; done) | (simp only [Int.ofNat_eq_natCast, neg_one]; omega)) only [tysW, wB, mB, Nat.reduceAdd, Nat.reduceMul, List.length_cons, List.length_nil]
  rw [wp_sl_to (z := 1) h1 (.inl rfl) (Nat.le_refl _) (by omega)]
  try simp (disch := first | assumption | omega | (simp only [Int.ofNat_eq_natCast, neg_one]; done) | (simp only [Int.ofNat_eq_natCast, neg_one]; omega)) only [tysW, wB, mB, Nat.reduceAdd, Nat.reduceMul, List.length_cons, List.length_nil]
  have row4 : Row EB h (some ⟨r, 0, none⟩) (n + 4) (l ++ four) := .of_cells (by rw [h1, flatB]) (by simp [hl])
  have rowk : Row EB h (some ⟨r, 0, none⟩) n l := by
    have := row4.take (k := n) (by omega)
    rwa [List.take_left' hl] at this
  have four4 : Row EB h (some ⟨r, n * 1, none⟩) 4 four := by
    have := Row.cut (q' := none) row4 (a := n) (b := n + 4) (by omega) (Nat.le_refl _)
    rw [show n + 4 - n = 4 by omega, List.drop_left' hl, Nat.zero_add] at this
    exact this
  unfold X75_8
  try simp (disch := first | assumption | omega | (simp only [Int.ofNat_eq_natCast, neg_one]; done) | (simp only [Int.ofNat_eq_natCast, neg_one]; omega)) only [tysW, wB, mB, Nat.reduceAdd, Nat.reduceMul, List.length_cons, List.length_nil]
  refine strL rowk fun ts1 ht1 => ?_
  unfold X75_7
  try simp (disch := first | assumption | omega | (simp only [Int.ofNat_eq_natCast, neg_one]; done) | (simp only [Int.ofNat_eq_natCast, neg_one]; omega)) only [tysW, wB, mB, Nat.reduceAdd, Nat.reduceMul, List.length_cons, List.length_nil]
  refine strL rq fun ts2 ht2 => ?_
  unfold X75_6
  have eqs : ∀ (a : List UInt8) (K : KV) (s : Nat), eqX P 9 9 false false (str a) (str a) K s = K (.bool true) s := fun a K s => by
    rw [eqstr]; simp
  try simp (disch := first | assumption | omega | (simp only [Int.ofNat_eq_natCast, neg_one]; done) | (simp only [Int.ofNat_eq_natCast, neg_one]; omega)) only [tysW, wB, mB, Nat.reduceAdd, Nat.reduceMul, List.length_cons, List.length_nil, eqs, Nat.sub_zero]
  unfold X75_5
  try simp (disch := first | assumption | omega | (simp only [Int.ofNat_eq_natCast, neg_one]; done) | (simp only [Int.ofNat_eq_natCast, neg_one]; omega)) only [tysW, wB, mB, Nat.reduceAdd, Nat.reduceMul, List.length_cons, List.length_nil, eqs, Nat.sub_zero]
  unfold X75_4
  try simp (disch := first | assumption | omega | (simp only [Int.ofNat_eq_natCast, neg_one]; done) | (simp only [Int.ofNat_eq_natCast, neg_one]; omega)) only [tysW, wB, mB, Nat.reduceAdd, Nat.reduceMul, List.length_cons, List.length_nil, eqs, Nat.sub_zero]
  unfold X75_3
  try simp (disch := first | assumption | omega | (simp only [Int.ofNat_eq_natCast, neg_one]; done) | (simp only [Int.ofNat_eq_natCast, neg_one]; omega)) only [tysW, wB, mB, Nat.reduceAdd, Nat.reduceMul, List.length_cons, List.length_nil, eqs, Nat.sub_zero]
  refine cutL h1 (by omega) hc (by omega) fun ts3 ht3 => ?_
  rw [show n + 4 - n = 4 by omega]
  try simp (disch := first | assumption | omega | (simp only [Int.ofNat_eq_natCast, neg_one]; done) | (simp only [Int.ofNat_eq_natCast, neg_one]; omega)) only [tysW, wB, mB, Nat.reduceAdd, Nat.reduceMul, List.length_cons, List.length_nil]
  refine strL four4 fun ts4 ht4 => ?_
  unfold X75_2
  try simp (disch := first | assumption | omega | (simp only [Int.ofNat_eq_natCast, neg_one]; done) | (simp only [Int.ofNat_eq_natCast, neg_one]; omega)) only [tysW, wB, mB, Nat.reduceAdd, Nat.reduceMul, List.length_cons, List.length_nil]
  refine wp_newL (q := fun b => .slice (some ⟨b, 0, none⟩) 4 4) ⟨Nat.le_refl _, fun _ _ => rfl, hf⟩ hp fun h2 g2 c2 b2 => ?_
  try simp (disch := first | assumption | omega | (simp only [Int.ofNat_eq_natCast, neg_one]; done) | (simp only [Int.ofNat_eq_natCast, neg_one]; omega)) only [tysW, wB, mB, Nat.reduceAdd, Nat.reduceMul, List.length_cons, List.length_nil]
  have r2 : Row EB h2 (some ⟨s, 0, none⟩) 4 four := .of_cells b2 rfl
  refine strL r2 fun ts5 ht5 => ?_
  unfold X75_1
  try simp (disch := first | assumption | omega | (simp only [Int.ofNat_eq_natCast, neg_one]; done) | (simp only [Int.ofNat_eq_natCast, neg_one]; omega)) only [tysW, wB, mB, Nat.reduceAdd, Nat.reduceMul, List.length_cons, List.length_nil, eqs]
  have lt : ∀ {ts : List Nat}, (∀ n ∈ ts, ∃ y, h.get n = some y) → ∀ n ∈ ts, n < s := fun h n hn => lt_of_some hf (h n hn)
  replace ht1 := lt ht1
  replace ht2 := lt ht2
  replace ht3 := lt ht3
  replace ht4 := lt ht4
  replace ht5 : ∀ n ∈ ts5, n < s + 1 := fun n hn => lt_of_some g2.fresh (ht5 n hn)
  rw [wp_guard, if_pos (by repeat' (first | exact dynOk_nil _ _ | refine dyn_skip' ?_ | refine dyn_cons ?_ ?_ | exact allF_nil _ _ | refine allF_cons ?_ ?_ | exact disj_below ht1 (by omega) | exact disjA ht1 (by omega) | exact disjB ht1 (by omega) | exact disjC ht1 (by assumption) | exact disjD (fun m hm => by have := ht1 m hm; omega) | exact disj_below ht2 (by omega) | exact disjA ht2 (by omega) | exact disjB ht2 (by omega) | exact disjC ht2 (by assumption) | exact disjD (fun m hm => by have := ht2 m hm; omega) | exact disj_below ht3 (by omega) | exact disjA ht3 (by omega) | exact disjB ht3 (by omega) | exact disjC ht3 (by assumption) | exact disjD (fun m hm => by have := ht3 m hm; omega) | exact disj_below ht4 (by omega) | exact disjA ht4 (by omega) | exact disjB ht4 (by omega) | exact disjC ht4 (by assumption) | exact disjD (fun m hm => by have := ht4 m hm; omega) | exact disj_below ht5 (by omega) | exact disjA ht5 (by omega) | exact disjB ht5 (by omega) | exact disjC ht5 (by assumption) | exact disjD (fun m hm => by have := ht5 m hm; omega) | exact disjN _ | exact disj1 (by omega) | exact disj2 (by omega) | exact disj3 (by assumption) | exact disjC ht1 (fun m hm => by have := ht2 m hm; omega) | exact disjC ht1 (fun m hm => by have := ht3 m hm; omega) | exact disjC ht1 (fun m hm => by have := ht4 m hm; omega) | exact disjC ht1 (fun m hm => by have := ht5 m hm; omega) | exact disjC ht2 (fun m hm => by have := ht1 m hm; omega) | exact disjC ht2 (fun m hm => by have := ht3 m hm; omega) | exact disjC ht2 (fun m hm => by have := ht4 m hm; omega) | exact disjC ht2 (fun m hm => by have := ht5 m hm; omega) | exact disjC ht3 (fun m hm => by have := ht1 m hm; omega) | exact disjC ht3 (fun m hm => by have := ht2 m hm; omega) | exact disjC ht3 (fun m hm => by have := ht4 m hm; omega) | exact disjC ht3 (fun m hm => by have := ht5 m hm; omega) | exact disjC ht4 (fun m hm => by have := ht1 m hm; omega) | exact disjC ht4 (fun m hm => by have := ht2 m hm; omega) | exact disjC ht4 (fun m hm => by have := ht3 m hm; omega) | exact disjC ht4 (fun m hm => by have := ht5 m hm; omega) | exact disjC ht5 (fun m hm => by have := ht1 m hm; omega) | exact disjC ht5 (fun m hm => by have := ht2 m hm; omega) | exact disjC ht5 (fun m hm => by have := ht3 m hm; omega) | exact disjC ht5 (fun m hm => by have := ht4 m hm; omega)))]
  exact hk _ _
end
end Go.Ev.R
namespace Go.Ev.R
open Go Go.RowKit
def keyG (b : List Int) : Int × Int × Int × Int × List Int := if badD b = true then (0, 0, 0, 0, []) else (kindD b, (decS b).sen, (decS b).seq, (decS b).time, (decS b).dat)
def errG (b : List Int) : Int := if badD b = true then 5 else 0
theorem Got.out {h : T} {s : Nat} {v : Value} {b : List Int} (hv : Got h s v b) : ∃ (x : SV) (dt : List Int), v = .tuple ⟨[.agg ⟨svv x⟩, vi (errG b)]⟩ ∧ OwnG EI 3 h s x.p x.n dt ∧ x.n ≤ 24 ∧ (x.kind, x.sen, x.seq, x.time, dt) = keyG b := by
  unfold Got at hv
  unfold errG keyG
  cases hbd : badD b with
  | true =>
    rw [hbd, if_pos rfl] at hv
    rw [if_pos rfl, if_pos rfl]
    exact ⟨⟨0, 0, 0, 0, none, 0, 0⟩, [], hv, .nil, Nat.zero_le _, rfl⟩
  | false =>
    rw [hbd, if_neg (by simp)] at hv
    rw [if_neg (by simp), if_neg (by simp)]
    obtain ⟨p, rfl, o⟩ := hv
    refine ⟨svD (kindD b) (decS b) p, _, rfl, o, ?_, rfl⟩
    have h3 : badS (svD (kindD b) (decS b) none) = false := by
      unfold badD at hbd
      simp only [Bool.or_eq_false_iff] at hbd
      exact hbd.2.2
    obtain ⟨q1, q2, q3, q4, -⟩ := good h3
    exact q4
noncomputable def errGT (b : List Int) : Int := if badG b = true then 5 else 0
noncomputable def keyGT (b : List Int) : (Int × Int × Int × Int × Bool × List Int) × (Int × Bool × Int × Int × List Int × List Int) :=
  if badG b = true then ((0, 0, 0, 0, false, []), (0, false, 0, 0, [], [])) else ((kindD b, (decT b).sen, (decT b).seq, (decT b).err, (decT b).ex, (decT b).nl), ((decT b).b.time, (decT b).b.flag, (decT b).b.pass, (decT b).b.fail, (decT b).b.xl, (decT b).b.pl))
structure OwnTV (h : T) (s : Nat) (x : TV) (nl xl pl : List Int) : Prop where
  on : OwnG EI 3 h s x.np x.nn nl
  ox : OwnG EI 3 h s x.b.xp x.b.xn xl
  op : OwnG EI 3 h s x.b.pp x.b.pn pl
  c : x.b.pc = x.b.pn
  n1 : x.nn ≤ 24
  x1 : x.b.xn ≤ 24
  p1 : x.b.pn ≤ 576
theorem OwnTV.but {h h' : T} {s : Nat} {x : TV} {nl xl pl : List Int} (o : OwnTV h s x nl xl pl) {s' : Nat} (hf : ∀ n, s' ≤ n → h.get n = none) (e : ∀ i, s ≤ i → i < s' → h'.get i = h.get i) : OwnTV h' s x nl xl pl :=
  have k : ∀ {p : Option Addr} {len : Nat} {l : List Int}, OwnG EI 3 h s p len l → OwnG EI 3 h' s p len l := fun o => o.but fun hp => e _ (o.lt hf hp).1 (o.lt hf hp).2
  ⟨k o.on, k o.ox, k o.op, o.c, o.n1, o.x1, o.p1⟩
theorem OwnTV.lists {h : T} {s : Nat} {x : TV} {nl xl pl : List Int} (o : OwnTV h s x nl xl pl) : ListsT h x nl xl pl := ⟨o.on.sl.row, o.ox.sl.row, by rw [o.c]; exact o.op.sl⟩
theorem GotT.out {h : T} {s : Nat} {v : Value} {b : List Int} (hb : allBytes b) (hv : GotT h s v b) : ∃ (x : TV) (nl xl pl : List Int), v = .tuple ⟨[.agg ⟨tvv x⟩, vi (errGT b)]⟩ ∧ OwnTV h s x nl xl pl ∧ ((x.kind, x.sen, x.seq, x.err, x.ex, nl), (x.b.time, x.b.flag, x.b.pass, x.b.fail, xl, pl)) = keyGT b := by
  unfold GotT at hv
  unfold errGT keyGT
  cases hbd : badG b with
  | true =>
    rw [hbd, if_pos rfl] at hv
    rw [if_pos rfl, if_pos rfl]
    exact ⟨⟨0, 0, 0, 0, none, 0, 0, false, ⟨0, none, 0, 0, none, 0, 0, false, 0, 0⟩⟩, [], [], [], hv, ⟨.nil, .nil, .nil, rfl, by simp, by simp, by simp⟩, rfl⟩
  | false =>
    rw [hbd, if_neg (by simp)] at hv
    rw [if_neg (by simp), if_neg (by simp)]
    obtain ⟨p1, p2, p3, rfl, o1, o2, o3⟩ := hv
    have hs := decT_small hb
    exact ⟨tvD (kindD b) (decT b) p1 p2 p3, _, _, _, rfl, ⟨o1, o2, o3, rfl, hs.2.1, hs.2.2.1, hs.2.2.2⟩, rfl⟩
section
variable {N d : Nat} (hN : N = 100000) {h : T} {s : Nat} (hf : ∀ n, s ≤ n → h.get n = none)
include hN hf
theorem s13 {p : Option Addr} {len cap : Nat} {b : List Int} (r : Sl EB h p len cap b) (hp0 : cap = 0 → p = none ∨ p = some ⟨0, 0, some 0⟩) (hb : allBytes b) : ValS (D N (d + 14)) 13 [.slice p len cap] h s (.bool true) := by
  refine ValS.of hf fun K pw Z g hp hk => ?_
  rw [D_13]; unfold F13; rw [app1_eq]
  unfold X13_3
  by_cases hlen : (1100 : Int) < (len : Int)
  · try simp (disch := first | assumption | omega | (simp only [Int.ofNat_eq_natCast, neg_one]; done) | (simp only [Int.ofNat_eq_natCast, neg_one]; omega)) only [tysW, wB, mB, Nat.reduceAdd, Nat.reduceMul, List.length_cons, List.length_nil]
    rw [D_21]
    exact hk _ _ g
  try simp (disch := first | assumption | omega | (simp only [Int.ofNat_eq_natCast, neg_one]; done) | (simp only [Int.ofNat_eq_natCast, neg_one]; omega)) only [tysW, wB, mB, Nat.reduceAdd, Nat.reduceMul, List.length_cons, List.length_nil]
  refine PureS.go g hp (s69 (d := d + 12) hf r (by omega)) fun v h1 s1 g1 c1 hv => ?_
  obtain ⟨m, f, rfl, hm, bm, hff⟩ := hv
  have l1 := c1.le
  have hbl := r.row.1
  have hms := lt_of_some g1.fresh ⟨_, bm⟩
  have lent : ∀ {h' : T}, h'.get m = some (.cells ⟨(b ++ four).flatMap EB.f⟩ 5 (f, 0)) → Sl EB h' (some ⟨m, 0, none⟩) len (len + 4) b := fun {h'} hb' => by
    have r4 : Row EB h' (some ⟨m, 0, none⟩) (len + 4) (b ++ four) := .of_cells hb' (by simp [hbl])
    refine ⟨?_, by omega, fun h => (by cases h), fun _ => ⟨_, _, _, _, hb', hff⟩⟩
    have := r4.take (k := len) (by omega)
    rwa [List.take_left' hbl] at this
  try simp (disch := first | assumption | omega | (simp only [Int.ofNat_eq_natCast, neg_one]; done) | (simp only [Int.ofNat_eq_natCast, neg_one]; omega)) only [tysW, wB, mB, Nat.reduceAdd, Nat.reduceMul, List.length_cons, List.length_nil]
  refine PureS.go g1 hp (s37 (d := d + 1) hN g1.fresh (lent bm) (by omega) hb) fun v h2 s2 g2 c2 hv => ?_
  obtain ⟨x, dx, rfl, ox, hx24, kx⟩ := hv.out
  have l2 := c2.le
  try simp (disch := first | assumption | omega | (simp only [Int.ofNat_eq_natCast, neg_one]; done) | (simp only [Int.ofNat_eq_natCast, neg_one]; omega)) only [tysW, wB, mB, Nat.reduceAdd, Nat.reduceMul, List.length_cons, List.length_nil]
  refine wp_boxA g2 hp fun h3 g3 c3 b3 => ?_
  try simp (disch := first | assumption | omega | (simp only [Int.ofNat_eq_natCast, neg_one]; done) | (simp only [Int.ofNat_eq_natCast, neg_one]; omega)) only [tysW, wB, mB, Nat.reduceAdd, Nat.reduceMul, List.length_cons, List.length_nil, svv]
  refine wp_putF g3 hp b3 (by omega) (by simp) rfl fun h4 g4 b4 e4 => ?_
  simp only [overL] at b4
  have c4 : From s2 h2 h4 (s2 + 1) := ⟨by omega, fun n hn => by rw [e4 n (by omega), c3.keep n hn], g4.fresh⟩
  have ox4 := ox.from g2.fresh c4
  have r4 := r.from hf g4
  have bm4 := c4.box (c2.box bm (by omega)) (by omega)
  refine PureS.go g4 hp (s70 (d := d + 1) hN g4.fresh r4 (by omega) hb) fun v h5 s5 g5 c5 hv => ?_
  obtain ⟨y, dy, rfl, oy, hy24, ky⟩ := hv.out
  have l5 := c5.le
  replace b4 := c5.box b4 (by omega)
  replace ox4 := ox4.from g4.fresh c5
  try simp (disch := first | assumption | omega | (simp only [Int.ofNat_eq_natCast, neg_one]; done) | (simp only [Int.ofNat_eq_natCast, neg_one]; omega)) only [tysW, wB, mB, Nat.reduceAdd, Nat.reduceMul, List.length_cons, List.length_nil]
  refine wp_boxA g5 hp fun h6 g6 c6 b6 => ?_
  try simp (disch := first | assumption | omega | (simp only [Int.ofNat_eq_natCast, neg_one]; done) | (simp only [Int.ofNat_eq_natCast, neg_one]; omega)) only [tysW, wB, mB, Nat.reduceAdd, Nat.reduceMul, List.length_cons, List.length_nil, svv]
  refine wp_putF g6 hp b6 (by omega) (by simp) rfl fun h7 g7 b7 e7 => ?_
  simp only [overL] at b7
  have c7 : From s5 h5 h7 (s5 + 1) := ⟨by omega, fun n hn => by rw [e7 n (by omega), c6.keep n hn], g7.fresh⟩
  replace b4 := c7.box b4 (by omega)
  replace ox4 := ox4.from g5.fresh c7
  have oy7 := oy.from g5.fresh c7
  have bm7 := c7.box (c5.box bm4 (by omega)) (by omega)
  refine PureS.go g7 hp (s71 (d := d + 1) hN g7.fresh (lent bm7) (by omega) hb) fun v h8 s8 g8 c8 hv => ?_
  obtain ⟨t, nt, xt, pt, rfl, ot, kt⟩ := hv.out hb
  have l8 := c8.le
  replace b4 := c8.box b4 (by omega)
  replace b7 := c8.box b7 (by omega)
  replace ox4 := ox4.from g7.fresh c8
  replace oy7 := oy7.from g7.fresh c8
  try simp (disch := first | assumption | omega | (simp only [Int.ofNat_eq_natCast, neg_one]; done) | (simp only [Int.ofNat_eq_natCast, neg_one]; omega)) only [tysW, wB, mB, Nat.reduceAdd, Nat.reduceMul, List.length_cons, List.length_nil]
  refine wp_boxA g8 hp fun h9 g9 c9 b9 => ?_
  try simp (disch := first | assumption | omega | (simp only [Int.ofNat_eq_natCast, neg_one]; done) | (simp only [Int.ofNat_eq_natCast, neg_one]; omega)) only [tysW, wB, mB, Nat.reduceAdd, Nat.reduceMul, List.length_cons, List.length_nil, tvv]
  refine wp_putF g9 hp b9 (by omega) (by simp) rfl fun h10 g10 b10 e10 => ?_
  simp only [overL] at b10
  have c10 : From s8 h8 h10 (s8 + 1) := ⟨by omega, fun n hn => by rw [e10 n (by omega), c9.keep n hn], g10.fresh⟩
  replace b4 := c10.box b4 (by omega)
  replace b7 := c10.box b7 (by omega)
  replace ox4 := ox4.from g8.fresh c10
  replace oy7 := oy7.from g8.fresh c10
  have ot10 := ot.but g8.fresh fun i _ hi => c10.keep i hi
  have bm10 := c10.box (c8.box bm7 (by omega)) (by omega)
  have r10 := r.from hf g10
  refine PureS.go g10 hp (s72 (d := d + 1) hN g10.fresh r10 (by omega) hb) fun v h11 z11 g11 c11 hv => ?_
  obtain ⟨u, nu, xu, pu, rfl, ou, ku⟩ := hv.out hb
  have l11 := c11.le
  replace b4 := c11.box b4 (by omega)
  replace b7 := c11.box b7 (by omega)
  replace b10 := c11.box b10 (by omega)
  replace ox4 := ox4.from g10.fresh c11
  replace oy7 := oy7.from g10.fresh c11
  replace ot10 := ot10.but g10.fresh fun i _ hi => c11.keep i hi
  try simp (disch := first | assumption | omega | (simp only [Int.ofNat_eq_natCast, neg_one]; done) | (simp only [Int.ofNat_eq_natCast, neg_one]; omega)) only [tysW, wB, mB, Nat.reduceAdd, Nat.reduceMul, List.length_cons, List.length_nil]
  refine wp_boxA g11 hp fun h12 g12 c12 b12 => ?_
  try simp (disch := first | assumption | omega | (simp only [Int.ofNat_eq_natCast, neg_one]; done) | (simp only [Int.ofNat_eq_natCast, neg_one]; omega)) only [tysW, wB, mB, Nat.reduceAdd, Nat.reduceMul, List.length_cons, List.length_nil, tvv]
  refine wp_putF g12 hp b12 (by omega) (by simp) rfl fun h13 g13 b13 e13 => ?_
  simp only [overL] at b13
  have c13 : From z11 h11 h13 (z11 + 1) := ⟨by omega, fun n hn => by rw [e13 n (by omega), c12.keep n hn], g13.fresh⟩
  replace b4 := c13.box b4 (by omega)
  replace b7 := c13.box b7 (by omega)
  replace b10 := c13.box b10 (by omega)
  replace ox4 := ox4.from g11.fresh c13
  replace oy7 := oy7.from g11.fresh c13
  replace ot10 := ot10.but g11.fresh fun i _ hi => c13.keep i hi
  have ou13 := ou.but g11.fresh fun i _ hi => c13.keep i hi
  have bm13 := c13.box (c11.box bm10 (by omega)) (by omega)
  try simp (disch := first | assumption | omega | (simp only [Int.ofNat_eq_natCast, neg_one]; done) | (simp only [Int.ofNat_eq_natCast, neg_one]; omega)) only [tysW, wB, mB, Nat.reduceAdd, Nat.reduceMul, List.length_cons, List.length_nil, ldB b4, clB b4, ldBL b4, clBL b4, ldB b7, clB b7, ldBL b7, clBL b7]
  refine ValS.go g13 hp (s28 (d := d + 11) (by omega) g13.fresh x y ox4.sl.row oy7.sl.row (by omega)) fun h14 z14 g14 c14 => ?_
  have hs : sameS x y dx dy = true := by
    have := kx.trans ky.symm
    simp only [Prod.mk.injEq] at this
    exact decide_eq_true this
  rw [hs]
  have l14 := c14.le
  replace b4 := c14.box b4 (by omega)
  replace b10 := c14.box b10 (by omega)
  replace b13 := c14.box b13 (by omega)
  replace ox4 := ox4.from g13.fresh c14
  replace ot10 := ot10.but g13.fresh fun i _ hi => c14.keep i hi
  have ou14 := ou13.but g13.fresh fun i _ hi => c14.keep i hi
  have bm14 := c14.box bm13 (by omega)
  obtain ⟨e1, he1⟩ : ∃ e1, e1 = errG b := ⟨_, rfl⟩
  obtain ⟨e2, he2⟩ : ∃ e2, e2 = errGT b := ⟨_, rfl⟩
  rw [← he1, ← he2]
  try simp (disch := first | assumption | omega | (simp only [Int.ofNat_eq_natCast, neg_one]; done) | (simp only [Int.ofNat_eq_natCast, neg_one]; omega)) only [tysW, wB, mB, Nat.reduceAdd, Nat.reduceMul, List.length_cons, List.length_nil]
  unfold X13_2
  try simp (disch := first | assumption | omega | (simp only [Int.ofNat_eq_natCast, neg_one]; done) | (simp only [Int.ofNat_eq_natCast, neg_one]; omega)) only [tysW, wB, mB, Nat.reduceAdd, Nat.reduceMul, List.length_cons, List.length_nil, ldB b10, clB b10, ldBL b10, clBL b10, ldB b13, clB b13, ldBL b13, clBL b13]
  refine ValS.go g14 hp (s68 (d := d + 10) (by omega) g14.fresh t u ot10.lists ou14.lists (by have := ot.n1; omega) (by have := ot.x1; omega) (by have := ot.p1; omega)) fun h15 z15 g15 c15 => ?_
  have ht : sameT t u nt xt pt nu xu pu = true := by
    have := kt.trans ku.symm
    simp only [Prod.mk.injEq] at this
    obtain ⟨⟨a1, a2, a3, a4, a5, a6⟩, a7, a8, a9, a10, a11, a12⟩ := this
    exact decide_eq_true ⟨a1, a2, a3, a4, a6, a5, decide_eq_true ⟨a7, a11, a12, a8, a9, a10⟩⟩
  rw [ht]
  have l15 := c15.le
  replace b4 := c15.box b4 (by omega)
  replace b10 := c15.box b10 (by omega)
  replace ox4 := ox4.from g14.fresh c15
  replace ot10 := ot10.but g14.fresh fun i _ hi => c15.keep i hi
  have bm15 := c15.box bm14 (by omega)
  try simp (disch := first | assumption | omega | (simp only [Int.ofNat_eq_natCast, neg_one]; done) | (simp only [Int.ofNat_eq_natCast, neg_one]; omega)) only [tysW, wB, mB, Nat.reduceAdd, Nat.reduceMul, List.length_cons, List.length_nil]
  unfold X13_1
  try simp (disch := first | assumption | omega | (simp only [Int.ofNat_eq_natCast, neg_one]; done) | (simp only [Int.ofNat_eq_natCast, neg_one]; omega)) only [tysW, wB, mB, Nat.reduceAdd, Nat.reduceMul, List.length_cons, List.length_nil, ldB b4, clB b4, ldBL b4, clBL b4]
  have oxl := ox.lt g2.fresh
  have otl := fun hp => ot.ox.lt g8.fresh hp
  have opl := fun hp => ot.op.lt g8.fresh hp
  refine s73 (d := d + 12) hN g15 hp (show s ≤ s1 by omega) ox4 (by omega) fun h16 g16 e16 _ => ?_
  have b10' := (e16 s8 fun hp => by have := oxl hp; omega).trans b10
  have bm16 := (e16 m fun hp => by have := oxl hp; omega).trans bm15
  have ox16 := ot10.ox.but fun hp => e16 _ fun hq => by have := otl hp; have := oxl hq; omega
  have op16 := ot10.op.but fun hp => e16 _ fun hq => by have := opl hp; have := oxl hq; omega
  try simp (disch := first | assumption | omega | (simp only [Int.ofNat_eq_natCast, neg_one]; done) | (simp only [Int.ofNat_eq_natCast, neg_one]; omega)) only [tysW, wB, mB, Nat.reduceAdd, Nat.reduceMul, List.length_cons, List.length_nil, ldB b10', clB b10', ldBL b10', clBL b10']
  refine s74 (d := d + 11) (bv := t.b) hN g16 hp (show s ≤ s5 + 1 by omega) (by omega) ox16 op16 (by have := ot.x1; omega) (by have := ot.p1; omega) fun h17 z17 g17 e17 => ?_
  have bm17 := (e17 m (by omega)).trans bm16
  try simp (disch := first | assumption | omega | (simp only [Int.ofNat_eq_natCast, neg_one]; done) | (simp only [Int.ofNat_eq_natCast, neg_one]; omega)) only [tysW, wB, mB, Nat.reduceAdd, Nat.reduceMul, List.length_cons, List.length_nil]
  refine s75 (d := d + 12) bm17 (r.from hf g17) hp0 (by omega) ?_
  try simp (disch := first | assumption | omega | (simp only [Int.ofNat_eq_natCast, neg_one]; done) | (simp only [Int.ofNat_eq_natCast, neg_one]; omega)) only [tysW, wB, mB, Nat.reduceAdd, Nat.reduceMul, List.length_cons, List.length_nil]
  rw [D_21]
  try simp (disch := first | assumption | omega | (simp only [Int.ofNat_eq_natCast, neg_one]; done) | (simp only [Int.ofNat_eq_natCast, neg_one]; omega)) only [tysW, wB, mB, Nat.reduceAdd, Nat.reduceMul, List.length_cons, List.length_nil]
  exact hk _ _ g17
end
end Go.Ev.R

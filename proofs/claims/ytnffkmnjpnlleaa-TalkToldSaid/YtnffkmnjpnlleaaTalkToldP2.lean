/- The law TalkTold, part 2: what the functions answer, by their terms. No condition. -/
import Derived.Test.YtnffkmnjpnlleaaTalkToldP1
set_option linter.unusedVariables false
set_option linter.unusedSimpArgs false
set_option maxRecDepth 100000
namespace Go.Ev.R
open Go Go.RowKit
/-- What is read of a telling. -/
structure ET where
  sen : Int
  seq : Int
  err : Int
  nl : List Int
  ex : Bool
  b : BD
  st : RS
def stepT (y : ET) (c : UInt8) : ET :=
  if c = 115 then { y with sen := (oneR 1 y.st).1, st := (oneR 1 y.st).2 }
  else if c = 113 then { y with seq := (oneR 4 y.st).1, st := (oneR 4 y.st).2 }
  else if c = 101 then { y with err := (oneR 1 y.st).1, st := (oneR 1 y.st).2 }
  else if c = 110 then { y with nl := (listR y.st).1, st := (listR y.st).2 }
  else if c = 120 then { y with ex := (truthR y.st).1, st := (truthR y.st).2 }
  else { y with b := (belP y.st).1, st := (belP y.st).2 }
def startT (b : List Int) : ET := ⟨0, 0, 0, [], false, bd0, (oneR 1 (b, false)).2⟩
def decT (b : List Int) : ET := (telT (kindD b)).foldl stepT (startT b)
def tvD (k : Int) (y : ET) (p1 p2 p3 : Option Addr) : TV := ⟨k, y.sen, y.seq, y.err, p1, y.nl.length, y.nl.length, y.ex, bvD y.b p2 p3⟩
noncomputable def badG (b : List Int) : Bool := (decT b).st.2 || (!(decT b).st.1.isEmpty || badT (tvD (kindD b) (decT b) none none none) (decT b).b.pl)
theorem badT_p (k : Int) (y : ET) (pl : List Int) (p1 p2 p3 q1 q2 q3 : Option Addr) : badT (tvD k y p1 p2 p3) pl = badT (tvD k y q1 q2 q3) pl := rfl
def Small (y : ET) : Prop := allBytes y.st.1 ∧ y.nl.length ≤ 24 ∧ y.b.xl.length ≤ 24 ∧ y.b.pl.length ≤ 576
theorem belP_bytes {x : RS} (hb : allBytes x.1) : allBytes (belP x).2.1 ∧ (belP x).2.1.length ≤ x.1.length ∧ (belP x).1.xl.length ≤ 24 ∧ (belP x).1.pl.length ≤ 576 := by
  have h5 := bytes5 hb
  have h6 := bytes6 hb
  unfold belP
  split
  · exact ⟨h6.1, h6.2.1, by simp [bd0], by simp [bd0]⟩
  · refine ⟨h6.1, h6.2.1, h5.2.2, ?_⟩
    show (fill _ _).length ≤ _
    rw [fill_len]
    calc _ ≤ 24 * 24 := Nat.mul_le_mul h5.2.2 h5.2.2
    _ = 576 := rfl
theorem stepT_small {y : ET} {c : UInt8} (hb : Small y) : Small (stepT y c) ∧ (stepT y c).st.1.length ≤ y.st.1.length := by
  obtain ⟨h1, h2, h3, h4⟩ := hb
  unfold stepT
  split
  · exact ⟨⟨(oneR_bytes h1).1, h2, h3, h4⟩, (oneR_bytes h1).2⟩
  split
  · exact ⟨⟨(oneR_bytes h1).1, h2, h3, h4⟩, (oneR_bytes h1).2⟩
  split
  · exact ⟨⟨(oneR_bytes h1).1, h2, h3, h4⟩, (oneR_bytes h1).2⟩
  split
  · exact ⟨⟨(listR_bytes h1).1, (listR_bytes h1).2.2, h3, h4⟩, (listR_bytes h1).2.1⟩
  split
  · exact ⟨⟨(truthR_bytes h1).1, h2, h3, h4⟩, (truthR_bytes h1).2⟩
  · have := belP_bytes h1
    exact ⟨⟨this.1, h2, this.2.2.1, this.2.2.2⟩, this.2.1⟩
theorem foldT_small : ∀ (l : List UInt8) {y : ET}, Small y → Small (l.foldl stepT y) ∧ (l.foldl stepT y).st.1.length ≤ y.st.1.length
  | [], y, h => ⟨h, Nat.le_refl _⟩
  | c :: l, y, h => by
    have h1 := stepT_small (c := c) h
    have h2 := foldT_small l h1.1
    exact ⟨h2.1, Nat.le_trans h2.2 h1.2⟩
theorem foldT_next {l : List UInt8} {i : Nat} {c : UInt8} (hc : l[i]? = some c) (y : ET) : (l.take (i + 1)).foldl stepT y = stepT ((l.take i).foldl stepT y) c := by
  rw [List.take_add_one, hc, List.foldl_append]; rfl
theorem startT_small {b : List Int} (hb : allBytes b) : Small (startT b) := ⟨(oneR_bytes (w := 1) (x := (b, false)) hb).1, by simp [startT], by simp [startT, bd0], by simp [startT, bd0]⟩
theorem decT_small {b : List Int} (hb : allBytes b) : Small (decT b) := (foldT_small _ (startT_small hb)).1
abbrev tv0 : List Value := [vi 0, vi 0, vi 0, vi 0, .slice none 0 0, .bool false, vi 0, .slice none 0 0, .slice none 0 0, .bool false, vi 0, vi 0]
noncomputable def GotT (h : T) (s : Nat) (v : Value) (b : List Int) : Prop :=
  if badG b = true then v = .tuple ⟨[.agg ⟨tv0⟩, vi 5]⟩
  else ∃ p1 p2 p3, v = .tuple ⟨[.agg ⟨tvv (tvD (kindD b) (decT b) p1 p2 p3)⟩, vi 0]⟩ ∧ OwnG EI 3 h s p1 (decT b).nl.length (decT b).nl ∧ OwnG EI 3 h s p2 (decT b).b.xl.length (decT b).b.xl ∧ OwnG EI 3 h s p3 (decT b).b.pl.length (decT b).b.pl
/-- The lists that were read. -/
structure OwnT (h : T) (s : Nat) (y : ET) (p1 p2 p3 : Option Addr) : Prop where
  n : OwnG EI 3 h s p1 y.nl.length y.nl
  x : OwnG EI 3 h s p2 y.b.xl.length y.b.xl
  p : OwnG EI 3 h s p3 y.b.pl.length y.b.pl
theorem OwnT.but {h h' : T} {s s' : Nat} {y : ET} {p1 p2 p3 : Option Addr} (o : OwnT h s y p1 p2 p3) (hf : ∀ n, s' ≤ n → h.get n = none) (e : ∀ i, s ≤ i → i < s' → (∀ a b, h.get i ≠ some (.stringIter a b)) → h'.get i = h.get i) : OwnT h' s y p1 p2 p3 := by
  have k : ∀ {p : Option Addr} {len : Nat} {l : List Int}, OwnG EI 3 h s p len l → OwnG EI 3 h' s p len l := by
    intro p len l o
    refine o.but fun hp => ?_
    have := o.lt hf hp
    exact e _ this.1 this.2 fun a b hb => o.ne hb hp rfl
  exact ⟨k o.n, k o.x, k o.p⟩
section
variable {N d : Nat} (hN : N = 100000) {h : T} {s : Nat} (hf : ∀ n, s ≤ n → h.get n = none)
include hN hf
theorem s71 {p : Option Addr} {len cap : Nat} {b : List Int} (r : Sl EB h p len cap b) (hl : len ≤ 50000) (hb : allBytes b) : PureS (D N (d + 12)) 71 [.slice p len cap] h s (fun v h' s' => GotT h' s v b) := by
  refine PureS.of hf fun K pw Z g hp hk => ?_
  rw [D_71]; unfold F71; rw [app1_eq]
  unfold X71_4
  have hlen := r.row.1
  try simp (disch := first | assumption | omega | (simp only [Int.ofNat_eq_natCast, neg_one]; done) | (simp only [Int.ofNat_eq_natCast, neg_one]; omega)) only [tysW, wB, mB, Nat.reduceAdd, Nat.reduceMul, List.length_cons, List.length_nil]
  refine wp_boxA g hp fun h1 g1 c1 b1 => ?_
  refine PureS.go g1 hp (s112 (d := d + 10) g1.fresh (r.from hf g1) (by omega)) fun v h2 s2 g2 c2 hv => ?_
  obtain ⟨p2, rfl, o2⟩ := hv
  have l2 := c2.le
  replace b1 := c2.box b1 (by omega)
  try simp (disch := first | assumption | omega | (simp only [Int.ofNat_eq_natCast, neg_one]; done) | (simp only [Int.ofNat_eq_natCast, neg_one]; omega)) only [tysW, wB, mB, Nat.reduceAdd, Nat.reduceMul, List.length_cons, List.length_nil]
  refine wp_boxA g2 hp fun h3 g3 c3 b3 => ?_
  replace b1 := c3.box b1 (by omega)
  have o3 := o2.from g2.fresh c3
  try simp (disch := first | assumption | omega | (simp only [Int.ofNat_eq_natCast, neg_one]; done) | (simp only [Int.ofNat_eq_natCast, neg_one]; omega)) only [tysW, wB, mB, Nat.reduceAdd, Nat.reduceMul, List.length_cons, List.length_nil]
  refine wp_putF g3 hp b3 (by omega) (by simp) rfl fun h4 g4 b4 e4 => ?_
  simp only [overL] at b4
  replace b1 := (e4 s (by omega)).trans b1
  have o4 := o3.but fun hp => e4 _ (by have := o2.lt g2.fresh hp; omega)
  have R4 : RdAt h4 s2 135 (b, false) (eqN s2) := ⟨p2, len, len, b4, o4.sl, fun hc => by
    have hp2 : p2 ≠ none := fun hn => hc (by have := o4.sl.non hn; exact this)
    have := o2.lt g2.fresh hp2; exact ⟨by omega, fun e => by have e : blk p2 = s2 := e; omega⟩⟩
  refine s113 (d := d + 7) (w := 1) hN g4 hp (by omega) hb (by show b.length ≤ 50000; omega) (.inl rfl) (by omega) R4 fun h5 s5 g5 l5 R5 e5 => ?_
  replace b1 := (e5 s (by omega) (by omega)).trans b1
  have hb5 := oneR_bytes (w := 1) (x := (b, false)) hb
  try simp (disch := first | assumption | omega | (simp only [Int.ofNat_eq_natCast, neg_one]; done) | (simp only [Int.ofNat_eq_natCast, neg_one]; omega)) only [tysW, wB, mB, Nat.reduceAdd, Nat.reduceMul, List.length_cons, List.length_nil]
  refine wp_boxA g5 hp fun h6 g6 c6 b6 => ?_
  replace b1 := c6.box b1 (by omega)
  have R6 := (R5.other (h' := h6) g5.fresh (Nat.le_refl s5)).from g5.fresh c6
  try simp (disch := first | assumption | omega | (simp only [Int.ofNat_eq_natCast, neg_one]; done) | (simp only [Int.ofNat_eq_natCast, neg_one]; omega)) only [tysW, wB, mB, Nat.reduceAdd, Nat.reduceMul, List.length_cons, List.length_nil]
  refine wp_putF g6 hp b6 (by omega) (by simp) rfl fun h7 g7 b7 e7 => ?_
  simp only [overL] at b7
  replace b1 := (e7 s (by omega)).trans b1
  have R7 := R6.but (by omega) e7
  refine PureS.goL g7 hp (s108 (d := d + 10) g7.fresh) fun v h8 s8 ts8 ws8 g8 c8 hv hw8 ht8 => ?_
  obtain ⟨m, rfl, hm, bm⟩ := hv
  have l8 := c8.le
  replace b1 := c8.box b1 (by omega)
  replace b7 := c8.box b7 (by omega)
  have R8 := R7.from g7.fresh c8
  try simp (disch := first | assumption | omega | (simp only [Int.ofNat_eq_natCast, neg_one]; done) | (simp only [Int.ofNat_eq_natCast, neg_one]; omega)) only [tysW, wB, mB, Nat.reduceAdd, Nat.reduceMul, List.length_cons, List.length_nil, ldB b7, clB b7, ldBL b7, clBL b7]
  unfold X71_3
  refine log_wp (W := fun _ => False) (Q := fun v h' s' => v = txt (telT (kindD b)) ∧ h' = h8 ∧ s' = s8) ?_ (fun n hn => hn.elim) ?_
  · rw [show (oneR 1 (b, false)).1 = kindD b from rfl, wp_tel bm]
    exact ⟨_, _, rfl, rfl, rfl, rfl⟩
  rintro v h9 s9 ts9 ws9 ⟨rfl, rfl, rfl⟩ hw9 ht9
  replace hw9 : ∀ n ∈ ws9, s9 ≤ n ∧ n < s9 := fun n hn => (hw9 n hn).1.elim
  replace ht9 : ∀ n ∈ ts9, n < s9 := fun n hn => lt_of_some g8.fresh (ht9 n hn)
  try simp (disch := first | assumption | omega | (simp only [Int.ofNat_eq_natCast, neg_one]; done) | (simp only [Int.ofNat_eq_natCast, neg_one]; omega)) only [tysW, wB, mB, Nat.reduceAdd, Nat.reduceMul, List.length_cons, List.length_nil, rng9]
  refine wp_newL (q := fun b => ptr b) g8 hp fun h10 g10 c10 b10 => ?_
  replace b1 := c10.box b1 (by omega)
  replace b7 := c10.box b7 (by omega)
  have R10 := R8.from g8.fresh c10
  rw [wp_guard, if_pos (by repeat' (first | exact dynOk_nil _ _ | refine dyn_skip' ?_ | refine dyn_cons ?_ ?_ | exact allF_nil _ _ | refine allF_cons ?_ ?_ | exact disj_below hw8 (by omega) | exact disjA hw8 (by omega) | exact disjB hw8 (by omega) | exact disjC hw8 (by assumption) | exact disjD (fun m hm => by have := hw8 m hm; omega) | exact disj_below ht8 (by omega) | exact disjA ht8 (by omega) | exact disjB ht8 (by omega) | exact disjC ht8 (by assumption) | exact disjD (fun m hm => by have := ht8 m hm; omega) | exact disj_below hw9 (by omega) | exact disjA hw9 (by omega) | exact disjB hw9 (by omega) | exact disjC hw9 (by assumption) | exact disjD (fun m hm => by have := hw9 m hm; omega) | exact disj_below ht9 (by omega) | exact disjA ht9 (by omega) | exact disjB ht9 (by omega) | exact disjC ht9 (by assumption) | exact disjD (fun m hm => by have := ht9 m hm; omega) | exact disjN _ | exact disj1 (by omega) | exact disj2 (by omega) | exact disj3 (by assumption) | exact disjC hw8 (fun m hm => by have := ht8 m hm; omega) | exact disjC hw8 (fun m hm => by have := hw9 m hm; omega) | exact disjC hw8 (fun m hm => by have := ht9 m hm; omega) | exact disjC ht8 (fun m hm => by have := hw8 m hm; omega) | exact disjC ht8 (fun m hm => by have := hw9 m hm; omega) | exact disjC ht8 (fun m hm => by have := ht9 m hm; omega) | exact disjC hw9 (fun m hm => by have := hw8 m hm; omega) | exact disjC hw9 (fun m hm => by have := ht8 m hm; omega) | exact disjC hw9 (fun m hm => by have := ht9 m hm; omega) | exact disjC ht9 (fun m hm => by have := hw8 m hm; omega) | exact disjC ht9 (fun m hm => by have := ht8 m hm; omega) | exact disjC ht9 (fun m hm => by have := hw9 m hm; omega)))]
  have R10 : RdAt h10 s2 135 (startT b).st (eqN s5) := R10
  have b7 : h10.get s5 = some (.cells ⟨tvv (tvD (kindD b) (startT b) none none none)⟩ 60 (0, 0)) := b7
  have sst := startT_small hb
  have loop : ∀ (J : Nat → AM) (hJ : ∀ p1 p2 p3 h1 s1, From s h h1 s1 → s9 + 1 ≤ s1 → h1.get s = some (.cells ⟨tv0⟩ 60 (0, 0)) → h1.get s5 = some (.cells ⟨tvv (tvD (kindD b) (decT b) p1 p2 p3)⟩ 60 (0, 0)) → OwnT h1 (s5 + 1) (decT b) p1 p2 p3 → RdAt h1 s2 135 (decT b).st (eqN s5) → (J s1).wp pw Z h1) (B : (Nat → AM) → Nat → AM) (hB : ∀ H s', B H s' = X71_2 N (D N (d + 11)) K (ptr s9) (ptr s2) (ptr s5) J H s') (n i : Nat) (p1 p2 p3 : Option Addr) (h1 : T) (s1 : Nat) (y : ET), y = ((telT (kindD b)).take i).foldl stepT (startT b) → (telT (kindD b)).length - i < n → i ≤ (telT (kindD b)).length → From s h h1 s1 → s9 + 1 ≤ s1 → h1.get s = some (.cells ⟨tv0⟩ 60 (0, 0)) → h1.get s5 = some (.cells ⟨tvv (tvD (kindD b) y p1 p2 p3)⟩ 60 (0, 0)) → OwnT h1 (s5 + 1) y p1 p2 p3 → RdAt h1 s2 135 y.st (eqN s5) → h1.get s9 = some (.stringIter ⟨⟨telT (kindD b)⟩⟩ i) →
      (loopJ n 0 (fun _ => AM.fail) B s1).wp pw Z h1 := by
    intro J hJ B hB n
    induction n with
    | zero => intro i p1 p2 p3 h1 s1 y hy hn; omega
    | succ n ih =>
      intro i p1 p2 p3 h1 s1 y hy hn hi g1 hs1 b1 bx o1 R1 bi
      have hle := tel_le (kindD b)
      have hby := foldT_small ((telT (kindD b)).take i) sst
      rw [← hy] at hby
      have hyb := hby.1.1
      have hyl : y.st.1.length ≤ 50000 := by
        have h1 := hby.2
        have h2 : (startT b).st.1.length ≤ b.length := hb5.2
        omega
      rw [loopJ_succ, hB]
      unfold X71_2
      by_cases hlt : i < (telT (kindD b)).length
      · obtain ⟨c, hc⟩ := get_some (l := telT (kindD b)) (i := i) hlt
        have hcm := tel_mem (List.mem_of_getElem? hc)
        refine wp_next g1 hp bi (by omega) hc (by rcases hcm with rfl | rfl | rfl | rfl | rfl | rfl <;> decide) fun h2 g2 bi2 e2 => ?_
        replace b1 := (e2 s (by omega)).trans b1
        replace bx := (e2 s5 (by omega)).trans bx
        replace o1 := o1.but g1.fresh fun j h3 h4 h5 => e2 j fun he => by rw [he] at h5; exact h5 _ _ bi
        replace R1 := R1.iter bi e2
        have hnext : stepT y c = ((telT (kindD b)).take (i + 1)).foldl stepT (startT b) := by rw [foldT_next hc, ← hy]
        have hxb : ∀ n, eqN s5 n → n < s1 := fun n (hn : n = s5) => by omega
        have kp : ∀ {h3 : T} {s3 : Nat}, (∀ i, i < s1 → i ≠ s2 → h3.get i = h2.get i) → h3.get s = some (.cells ⟨tv0⟩ 60 (0, 0)) ∧ h3.get s5 = some (.cells ⟨tvv (tvD (kindD b) y p1 p2 p3)⟩ 60 (0, 0)) ∧ h3.get s9 = some (.stringIter ⟨⟨telT (kindD b)⟩⟩ (i + 1)) ∧ OwnT h3 (s5 + 1) y p1 p2 p3 := fun e3 => ⟨(e3 s (by omega) (by omega)).trans b1, (e3 s5 (by omega) (by omega)).trans bx, (e3 s9 (by omega) (by omega)).trans bi2, o1.but g2.fresh fun j h3 h4 h5 => e3 j h4 (by omega)⟩
        rcases hcm with rfl | rfl | rfl | rfl | rfl | rfl
        · try simp (disch := first | assumption | omega | (simp only [Int.ofNat_eq_natCast, neg_one]; done) | (simp only [Int.ofNat_eq_natCast, neg_one]; omega)) only [tysW, wB, mB, Nat.reduceAdd, Nat.reduceMul, List.length_cons, List.length_nil, eqc32, UInt8.reduceToNat, Nat.reduceBEq]
          refine s113A (d := d + 7) (w := 1) hN g2 hp (by omega) hyb hyl (.inl rfl) hxb R1 fun h3 s3 g3 l3 R3 e3 => ?_
          obtain ⟨b1, bx, bi2, o1⟩ := kp (s3 := s3) e3
          try simp (disch := first | assumption | omega | (simp only [Int.ofNat_eq_natCast, neg_one]; done) | (simp only [Int.ofNat_eq_natCast, neg_one]; omega)) only [tysW, wB, mB, Nat.reduceAdd, Nat.reduceMul, List.length_cons, List.length_nil]
          refine wp_putF g3 hp bx (by omega) (by simp [tvv]) rfl fun h4 g4 b4 e4 => ?_
          simp only [overL, tvv] at b4
          have o4 := o1.but g3.fresh fun j h5 h6 h7 => e4 j (by omega)
          exact ih (i + 1) p1 p2 p3 h4 s3 (stepT y 115) hnext (by omega) (by omega) g4 (by omega) ((e4 s (by omega)).trans b1) b4 ⟨o4.n, o4.x, o4.p⟩ (R3.but (by omega) e4) ((e4 s9 (by omega)).trans bi2)
        · try simp (disch := first | assumption | omega | (simp only [Int.ofNat_eq_natCast, neg_one]; done) | (simp only [Int.ofNat_eq_natCast, neg_one]; omega)) only [tysW, wB, mB, Nat.reduceAdd, Nat.reduceMul, List.length_cons, List.length_nil, eqc32, UInt8.reduceToNat, Nat.reduceBEq]
          refine s113A (d := d + 7) (w := 4) hN g2 hp (by omega) hyb hyl (.inr (.inr (.inl rfl))) hxb R1 fun h3 s3 g3 l3 R3 e3 => ?_
          obtain ⟨b1, bx, bi2, o1⟩ := kp (s3 := s3) e3
          try simp (disch := first | assumption | omega | (simp only [Int.ofNat_eq_natCast, neg_one]; done) | (simp only [Int.ofNat_eq_natCast, neg_one]; omega)) only [tysW, wB, mB, Nat.reduceAdd, Nat.reduceMul, List.length_cons, List.length_nil]
          refine wp_putF g3 hp bx (by omega) (by simp [tvv]) rfl fun h4 g4 b4 e4 => ?_
          simp only [overL, tvv] at b4
          have o4 := o1.but g3.fresh fun j h5 h6 h7 => e4 j (by omega)
          exact ih (i + 1) p1 p2 p3 h4 s3 (stepT y 113) hnext (by omega) (by omega) g4 (by omega) ((e4 s (by omega)).trans b1) b4 ⟨o4.n, o4.x, o4.p⟩ (R3.but (by omega) e4) ((e4 s9 (by omega)).trans bi2)
        · try simp (disch := first | assumption | omega | (simp only [Int.ofNat_eq_natCast, neg_one]; done) | (simp only [Int.ofNat_eq_natCast, neg_one]; omega)) only [tysW, wB, mB, Nat.reduceAdd, Nat.reduceMul, List.length_cons, List.length_nil, eqc32, UInt8.reduceToNat, Nat.reduceBEq]
          refine s113A (d := d + 7) (w := 1) hN g2 hp (by omega) hyb hyl (.inl rfl) hxb R1 fun h3 s3 g3 l3 R3 e3 => ?_
          obtain ⟨b1, bx, bi2, o1⟩ := kp (s3 := s3) e3
          try simp (disch := first | assumption | omega | (simp only [Int.ofNat_eq_natCast, neg_one]; done) | (simp only [Int.ofNat_eq_natCast, neg_one]; omega)) only [tysW, wB, mB, Nat.reduceAdd, Nat.reduceMul, List.length_cons, List.length_nil]
          refine wp_putF g3 hp bx (by omega) (by simp [tvv]) rfl fun h4 g4 b4 e4 => ?_
          simp only [overL, tvv] at b4
          have o4 := o1.but g3.fresh fun j h5 h6 h7 => e4 j (by omega)
          exact ih (i + 1) p1 p2 p3 h4 s3 (stepT y 101) hnext (by omega) (by omega) g4 (by omega) ((e4 s (by omega)).trans b1) b4 ⟨o4.n, o4.x, o4.p⟩ (R3.but (by omega) e4) ((e4 s9 (by omega)).trans bi2)
        · try simp (disch := first | assumption | omega | (simp only [Int.ofNat_eq_natCast, neg_one]; done) | (simp only [Int.ofNat_eq_natCast, neg_one]; omega)) only [tysW, wB, mB, Nat.reduceAdd, Nat.reduceMul, List.length_cons, List.length_nil, eqc32, UInt8.reduceToNat, Nat.reduceBEq]
          refine s114A (d := d + 6) hN g2 hp (by omega) hyb hyl hxb R1 fun q1 h3 s3 g3 l3 R3 oq e3 => ?_
          obtain ⟨b1, bx, bi2, o1⟩ := kp (s3 := s3) e3
          have oql := oq.lt g3.fresh
          try simp (disch := first | assumption | omega | (simp only [Int.ofNat_eq_natCast, neg_one]; done) | (simp only [Int.ofNat_eq_natCast, neg_one]; omega)) only [tysW, wB, mB, Nat.reduceAdd, Nat.reduceMul, List.length_cons, List.length_nil]
          refine wp_putF g3 hp bx (by omega) (by simp [tvv]) rfl fun h4 g4 b4 e4 => ?_
          simp only [overL, tvv] at b4
          have o4 := o1.but g3.fresh fun j h5 h6 h7 => e4 j (by omega)
          exact ih (i + 1) q1 p2 p3 h4 s3 (stepT y 110) hnext (by omega) (by omega) g4 (by omega) ((e4 s (by omega)).trans b1) b4 ⟨(oq.but fun hp => e4 _ (by have := oql hp; omega)).less (by omega), o4.x, o4.p⟩ (R3.but (by omega) e4) ((e4 s9 (by omega)).trans bi2)
        · try simp (disch := first | assumption | omega | (simp only [Int.ofNat_eq_natCast, neg_one]; done) | (simp only [Int.ofNat_eq_natCast, neg_one]; omega)) only [tysW, wB, mB, Nat.reduceAdd, Nat.reduceMul, List.length_cons, List.length_nil, eqc32, UInt8.reduceToNat, Nat.reduceBEq]
          refine s134 (d := d + 6) hN g2 hp (by omega) hyb hyl hxb R1 fun h3 s3 g3 l3 R3 e3 => ?_
          obtain ⟨b1, bx, bi2, o1⟩ := kp (s3 := s3) e3
          try simp (disch := first | assumption | omega | (simp only [Int.ofNat_eq_natCast, neg_one]; done) | (simp only [Int.ofNat_eq_natCast, neg_one]; omega)) only [tysW, wB, mB, Nat.reduceAdd, Nat.reduceMul, List.length_cons, List.length_nil]
          refine wp_putF g3 hp bx (by omega) (by simp [tvv]) rfl fun h4 g4 b4 e4 => ?_
          simp only [overL, tvv] at b4
          have o4 := o1.but g3.fresh fun j h5 h6 h7 => e4 j (by omega)
          exact ih (i + 1) p1 p2 p3 h4 s3 (stepT y 120) hnext (by omega) (by omega) g4 (by omega) ((e4 s (by omega)).trans b1) b4 ⟨o4.n, o4.x, o4.p⟩ (R3.but (by omega) e4) ((e4 s9 (by omega)).trans bi2)
        · try simp (disch := first | assumption | omega | (simp only [Int.ofNat_eq_natCast, neg_one]; done) | (simp only [Int.ofNat_eq_natCast, neg_one]; omega)) only [tysW, wB, mB, Nat.reduceAdd, Nat.reduceMul, List.length_cons, List.length_nil, eqc32, UInt8.reduceToNat, Nat.reduceBEq]
          refine s135 (d := d + 5) hN g2 hp (by omega) hyb hyl hxb R1 fun q2 q3 h3 s3 g3 l3 R3 ox op e3 => ?_
          obtain ⟨b1, bx, bi2, o1⟩ := kp (s3 := s3) e3
          have oxl := ox.lt g3.fresh
          have opl := op.lt g3.fresh
          try simp (disch := first | assumption | omega | (simp only [Int.ofNat_eq_natCast, neg_one]; done) | (simp only [Int.ofNat_eq_natCast, neg_one]; omega)) only [tysW, wB, mB, Nat.reduceAdd, Nat.reduceMul, List.length_cons, List.length_nil, bvv]
          refine wp_putF g3 hp bx (by omega) (by simp [tvv]) rfl fun h4 g4 b4 e4 => ?_
          simp only [overL, tvv] at b4
          have o4 := o1.but g3.fresh fun j h5 h6 h7 => e4 j (by omega)
          exact ih (i + 1) p1 q2 q3 h4 s3 (stepT y 98) hnext (by omega) (by omega) g4 (by omega) ((e4 s (by omega)).trans b1) b4 ⟨o4.n, (ox.but fun hp => e4 _ (by have := oxl hp; omega)).less (by omega), (op.but fun hp => e4 _ (by have := opl hp; omega)).less (by omega)⟩ (R3.but (by omega) e4) ((e4 s9 (by omega)).trans bi2)
      · obtain rfl : i = (telT (kindD b)).length := by omega
        rw [wp_last bi]
        try simp (disch := first | assumption | omega | (simp only [Int.ofNat_eq_natCast, neg_one]; done) | (simp only [Int.ofNat_eq_natCast, neg_one]; omega)) only [tysW, wB, mB, Nat.reduceAdd, Nat.reduceMul, List.length_cons, List.length_nil]
        rw [List.take_of_length_le (Nat.le_refl _)] at hy
        have hy : y = decT b := hy
        subst hy
        exact hJ p1 p2 p3 h1 s1 g1 hs1 b1 bx o1 R1
  have hle := tel_le (kindD b)
  refine loop _ (fun p1 p2 p3 h1 s1 g1 hs1 b1 bx o1 R1 => ?_) _ (fun _ _ => rfl) N 0 none none none h10 (s9 + 1) (startT b) rfl (by omega) (by omega) g10 (Nat.le_refl _) b1 b7 ⟨.nil, .nil, .nil⟩ R10 b10
  have hsm := decT_small hb
  obtain ⟨pr, lr, cr, br, slr, -⟩ := R1
  have hlr := slr.row.1
  simp only [tvv] at bx
  have bad : badG b = true → ∀ {h2 : T} {s2' : Nat}, From s h h2 s2' → (K (.tuple ⟨[.agg ⟨[i64 0, i64 0, i64 0, i64 0, .slice none 0 0, .bool false, i64 0, .slice none 0 0, .slice none 0 0, .bool false, i64 0, i64 0]⟩, i64 5]⟩) s2').wp pw Z h2 := fun hb h2 s2' g2 => hk _ _ _ g2 (by unfold GotT; rw [if_pos hb]; rfl)
  cases hst : (decT b).st.2 with
  | true =>
    rw [hst] at br
    try simp (disch := first | assumption | omega | (simp only [Int.ofNat_eq_natCast, neg_one]; done) | (simp only [Int.ofNat_eq_natCast, neg_one]; omega)) only [tysW, wB, mB, Nat.reduceAdd, Nat.reduceMul, List.length_cons, List.length_nil, ldB br, clB br, ldBL br, clBL br]
    unfold X71_1
    try simp (disch := first | assumption | omega | (simp only [Int.ofNat_eq_natCast, neg_one]; done) | (simp only [Int.ofNat_eq_natCast, neg_one]; omega)) only [tysW, wB, mB, Nat.reduceAdd, Nat.reduceMul, List.length_cons, List.length_nil]
    refine wp_putF g1 hp b1 (by omega) (by simp) rfl fun h2 g2 b2 e2 => ?_
    simp only [overL] at b2
    try simp (disch := first | assumption | omega | (simp only [Int.ofNat_eq_natCast, neg_one]; done) | (simp only [Int.ofNat_eq_natCast, neg_one]; omega)) only [tysW, wB, mB, Nat.reduceAdd, Nat.reduceMul, List.length_cons, List.length_nil, ldB b2, clB b2, ldBL b2, clBL b2]
    exact bad (by unfold badG; rw [hst]; rfl) g2
  | false =>
    rw [hst] at br
    by_cases h0 : (0 : Int) < (lr : Int)
    · try simp (disch := first | assumption | omega | (simp only [Int.ofNat_eq_natCast, neg_one]; done) | (simp only [Int.ofNat_eq_natCast, neg_one]; omega)) only [tysW, wB, mB, Nat.reduceAdd, Nat.reduceMul, List.length_cons, List.length_nil, ldB br, clB br, ldBL br, clBL br]
      unfold X71_1
      try simp (disch := first | assumption | omega | (simp only [Int.ofNat_eq_natCast, neg_one]; done) | (simp only [Int.ofNat_eq_natCast, neg_one]; omega)) only [tysW, wB, mB, Nat.reduceAdd, Nat.reduceMul, List.length_cons, List.length_nil]
      refine wp_putF g1 hp b1 (by omega) (by simp) rfl fun h2 g2 b2 e2 => ?_
      simp only [overL] at b2
      try simp (disch := first | assumption | omega | (simp only [Int.ofNat_eq_natCast, neg_one]; done) | (simp only [Int.ofNat_eq_natCast, neg_one]; omega)) only [tysW, wB, mB, Nat.reduceAdd, Nat.reduceMul, List.length_cons, List.length_nil, ldB b2, clB b2, ldBL b2, clBL b2]
      refine bad ?_ g2
      unfold badG
      have : (decT b).st.1 ≠ [] := fun e => by rw [e] at hlr; simp at hlr; omega
      rw [show (decT b).st.1.isEmpty = false by simpa using this]; simp
    · try simp (disch := first | assumption | omega | (simp only [Int.ofNat_eq_natCast, neg_one]; done) | (simp only [Int.ofNat_eq_natCast, neg_one]; omega)) only [tysW, wB, mB, Nat.reduceAdd, Nat.reduceMul, List.length_cons, List.length_nil, ldB br, clB br, ldBL br, clBL br]
      unfold X71_1
      try simp (disch := first | assumption | omega | (simp only [Int.ofNat_eq_natCast, neg_one]; done) | (simp only [Int.ofNat_eq_natCast, neg_one]; omega)) only [tysW, wB, mB, Nat.reduceAdd, Nat.reduceMul, List.length_cons, List.length_nil, ldB bx, clB bx, ldBL bx, clBL bx]
      refine ValS.go g1 hp (s36 (d := d) hN g1.fresh (tvD (kindD b) (decT b) p1 p2 p3) (pl := (decT b).b.pl) o1.p.sl.row (by have := hsm.2.2.2; show (decT b).b.pl.length ≤ 1000; omega) (by have := hsm.2.2.1; show (decT b).b.xl.length ≤ 1000; omega)) fun h2 s2' g2 c2 => ?_
      have lt1 := c2.le
      replace b1 := c2.box b1 (by omega)
      replace bx := c2.box bx (by omega)
      have o2 := o1.but g1.fresh fun j h5 h6 h7 => c2.keep j h6
      rw [badT_p _ _ _ p1 p2 p3 none none none]
      have he : (decT b).st.1 = [] := List.eq_nil_of_length_eq_zero (by omega)
      cases hbs : badT (tvD (kindD b) (decT b) none none none) (decT b).b.pl with
      | true =>
        try simp (disch := first | assumption | omega | (simp only [Int.ofNat_eq_natCast, neg_one]; done) | (simp only [Int.ofNat_eq_natCast, neg_one]; omega)) only [tysW, wB, mB, Nat.reduceAdd, Nat.reduceMul, List.length_cons, List.length_nil, if_true]
        refine wp_putF g2 hp b1 (by omega) (by simp) rfl fun h3 g3 b3 e3 => ?_
        simp only [overL] at b3
        try simp (disch := first | assumption | omega | (simp only [Int.ofNat_eq_natCast, neg_one]; done) | (simp only [Int.ofNat_eq_natCast, neg_one]; omega)) only [tysW, wB, mB, Nat.reduceAdd, Nat.reduceMul, List.length_cons, List.length_nil, ldB b3, clB b3, ldBL b3, clBL b3]
        exact bad (by unfold badG; rw [hbs]; simp) g3
      | false =>
        try simp (disch := first | assumption | omega | (simp only [Int.ofNat_eq_natCast, neg_one]; done) | (simp only [Int.ofNat_eq_natCast, neg_one]; omega)) only [tysW, wB, mB, Nat.reduceAdd, Nat.reduceMul, List.length_cons, List.length_nil, ldB bx, clB bx, ldBL bx, clBL bx, Bool.false_eq_true, if_false]
        refine wp_putF g2 hp b1 (by omega) (by simp) rfl fun h3 g3 b3 e3 => ?_
        simp only [overL] at b3
        try simp (disch := first | assumption | omega | (simp only [Int.ofNat_eq_natCast, neg_one]; done) | (simp only [Int.ofNat_eq_natCast, neg_one]; omega)) only [tysW, wB, mB, Nat.reduceAdd, Nat.reduceMul, List.length_cons, List.length_nil, ldB b3, clB b3, ldBL b3, clBL b3]
        have o3 := o2.but g2.fresh fun j h5 h6 h7 => e3 j (by omega)
        refine hk _ _ _ g3 ?_
        unfold GotT
        rw [if_neg (by unfold badG; rw [hst, he, hbs]; simp)]
        exact ⟨p1, p2, p3, rfl, o3.n.less (by omega), o3.x.less (by omega), o3.p.less (by omega)⟩
end
end Go.Ev.R
namespace Go.Ev.R
open Go Go.RowKit
theorem ex_cons {l : List Int} {n : Nat} (h : l.length = n + 1) : ∃ x l', l = x :: l' ∧ l'.length = n := by
  cases l with
  | nil => simp at h
  | cons x l => exact ⟨x, l, rfl, by simpa using h⟩
theorem fu_0 (pl : List Int) (hl : pl.length = 0) (hs : Sym 0 pl) : fill 0 (up 0 pl) = pl := by
  obtain rfl := List.eq_nil_of_length_eq_zero hl
  kernel_rfl
theorem fu_1 (pl : List Int) (hl : pl.length = 1) (hs : Sym 1 pl) : fill 1 (up 1 pl) = pl := by
  obtain ⟨x0, l0, rfl, h0⟩ := ex_cons hl
  obtain rfl := List.eq_nil_of_length_eq_zero h0
  kernel_rfl
theorem fu_2 (pl : List Int) (hl : pl.length = 4) (hs : Sym 2 pl) : fill 2 (up 2 pl) = pl := by
  obtain ⟨x0, l0, rfl, h0⟩ := ex_cons hl
  obtain ⟨x1, l1, rfl, h1⟩ := ex_cons h0
  obtain ⟨x2, l2, rfl, h2⟩ := ex_cons h1
  obtain ⟨x3, l3, rfl, h3⟩ := ex_cons h2
  obtain rfl := List.eq_nil_of_length_eq_zero h3
  obtain rfl : x2 = x1 := Option.some.inj (hs 1 (by decide) 0 (by decide))
  kernel_rfl
theorem fu_3 (pl : List Int) (hl : pl.length = 9) (hs : Sym 3 pl) : fill 3 (up 3 pl) = pl := by
  obtain ⟨x0, l0, rfl, h0⟩ := ex_cons hl
  obtain ⟨x1, l1, rfl, h1⟩ := ex_cons h0
  obtain ⟨x2, l2, rfl, h2⟩ := ex_cons h1
  obtain ⟨x3, l3, rfl, h3⟩ := ex_cons h2
  obtain ⟨x4, l4, rfl, h4⟩ := ex_cons h3
  obtain ⟨x5, l5, rfl, h5⟩ := ex_cons h4
  obtain ⟨x6, l6, rfl, h6⟩ := ex_cons h5
  obtain ⟨x7, l7, rfl, h7⟩ := ex_cons h6
  obtain ⟨x8, l8, rfl, h8⟩ := ex_cons h7
  obtain rfl := List.eq_nil_of_length_eq_zero h8
  obtain rfl : x3 = x1 := Option.some.inj (hs 1 (by decide) 0 (by decide))
  obtain rfl : x6 = x2 := Option.some.inj (hs 2 (by decide) 0 (by decide))
  obtain rfl : x7 = x5 := Option.some.inj (hs 2 (by decide) 1 (by decide))
  kernel_rfl
theorem fu_4 (pl : List Int) (hl : pl.length = 16) (hs : Sym 4 pl) : fill 4 (up 4 pl) = pl := by
  obtain ⟨x0, l0, rfl, h0⟩ := ex_cons hl
  obtain ⟨x1, l1, rfl, h1⟩ := ex_cons h0
  obtain ⟨x2, l2, rfl, h2⟩ := ex_cons h1
  obtain ⟨x3, l3, rfl, h3⟩ := ex_cons h2
  obtain ⟨x4, l4, rfl, h4⟩ := ex_cons h3
  obtain ⟨x5, l5, rfl, h5⟩ := ex_cons h4
  obtain ⟨x6, l6, rfl, h6⟩ := ex_cons h5
  obtain ⟨x7, l7, rfl, h7⟩ := ex_cons h6
  obtain ⟨x8, l8, rfl, h8⟩ := ex_cons h7
  obtain ⟨x9, l9, rfl, h9⟩ := ex_cons h8
  obtain ⟨x10, l10, rfl, h10⟩ := ex_cons h9
  obtain ⟨x11, l11, rfl, h11⟩ := ex_cons h10
  obtain ⟨x12, l12, rfl, h12⟩ := ex_cons h11
  obtain ⟨x13, l13, rfl, h13⟩ := ex_cons h12
  obtain ⟨x14, l14, rfl, h14⟩ := ex_cons h13
  obtain ⟨x15, l15, rfl, h15⟩ := ex_cons h14
  obtain rfl := List.eq_nil_of_length_eq_zero h15
  obtain rfl : x4 = x1 := Option.some.inj (hs 1 (by decide) 0 (by decide))
  obtain rfl : x8 = x2 := Option.some.inj (hs 2 (by decide) 0 (by decide))
  obtain rfl : x12 = x3 := Option.some.inj (hs 3 (by decide) 0 (by decide))
  obtain rfl : x9 = x6 := Option.some.inj (hs 2 (by decide) 1 (by decide))
  obtain rfl : x13 = x7 := Option.some.inj (hs 3 (by decide) 1 (by decide))
  obtain rfl : x14 = x11 := Option.some.inj (hs 3 (by decide) 2 (by decide))
  kernel_rfl
theorem fu_5 (pl : List Int) (hl : pl.length = 25) (hs : Sym 5 pl) : fill 5 (up 5 pl) = pl := by
  obtain ⟨x0, l0, rfl, h0⟩ := ex_cons hl
  obtain ⟨x1, l1, rfl, h1⟩ := ex_cons h0
  obtain ⟨x2, l2, rfl, h2⟩ := ex_cons h1
  obtain ⟨x3, l3, rfl, h3⟩ := ex_cons h2
  obtain ⟨x4, l4, rfl, h4⟩ := ex_cons h3
  obtain ⟨x5, l5, rfl, h5⟩ := ex_cons h4
  obtain ⟨x6, l6, rfl, h6⟩ := ex_cons h5
  obtain ⟨x7, l7, rfl, h7⟩ := ex_cons h6
  obtain ⟨x8, l8, rfl, h8⟩ := ex_cons h7
  obtain ⟨x9, l9, rfl, h9⟩ := ex_cons h8
  obtain ⟨x10, l10, rfl, h10⟩ := ex_cons h9
  obtain ⟨x11, l11, rfl, h11⟩ := ex_cons h10
  obtain ⟨x12, l12, rfl, h12⟩ := ex_cons h11
  obtain ⟨x13, l13, rfl, h13⟩ := ex_cons h12
  obtain ⟨x14, l14, rfl, h14⟩ := ex_cons h13
  obtain ⟨x15, l15, rfl, h15⟩ := ex_cons h14
  obtain ⟨x16, l16, rfl, h16⟩ := ex_cons h15
  obtain ⟨x17, l17, rfl, h17⟩ := ex_cons h16
  obtain ⟨x18, l18, rfl, h18⟩ := ex_cons h17
  obtain ⟨x19, l19, rfl, h19⟩ := ex_cons h18
  obtain ⟨x20, l20, rfl, h20⟩ := ex_cons h19
  obtain ⟨x21, l21, rfl, h21⟩ := ex_cons h20
  obtain ⟨x22, l22, rfl, h22⟩ := ex_cons h21
  obtain ⟨x23, l23, rfl, h23⟩ := ex_cons h22
  obtain ⟨x24, l24, rfl, h24⟩ := ex_cons h23
  obtain rfl := List.eq_nil_of_length_eq_zero h24
  obtain rfl : x5 = x1 := Option.some.inj (hs 1 (by decide) 0 (by decide))
  obtain rfl : x10 = x2 := Option.some.inj (hs 2 (by decide) 0 (by decide))
  obtain rfl : x15 = x3 := Option.some.inj (hs 3 (by decide) 0 (by decide))
  obtain rfl : x20 = x4 := Option.some.inj (hs 4 (by decide) 0 (by decide))
  obtain rfl : x11 = x7 := Option.some.inj (hs 2 (by decide) 1 (by decide))
  obtain rfl : x16 = x8 := Option.some.inj (hs 3 (by decide) 1 (by decide))
  obtain rfl : x21 = x9 := Option.some.inj (hs 4 (by decide) 1 (by decide))
  obtain rfl : x17 = x13 := Option.some.inj (hs 3 (by decide) 2 (by decide))
  obtain rfl : x22 = x14 := Option.some.inj (hs 4 (by decide) 2 (by decide))
  obtain rfl : x23 = x19 := Option.some.inj (hs 4 (by decide) 3 (by decide))
  kernel_rfl
theorem fu_6 (pl : List Int) (hl : pl.length = 36) (hs : Sym 6 pl) : fill 6 (up 6 pl) = pl := by
  obtain ⟨x0, l0, rfl, h0⟩ := ex_cons hl
  obtain ⟨x1, l1, rfl, h1⟩ := ex_cons h0
  obtain ⟨x2, l2, rfl, h2⟩ := ex_cons h1
  obtain ⟨x3, l3, rfl, h3⟩ := ex_cons h2
  obtain ⟨x4, l4, rfl, h4⟩ := ex_cons h3
  obtain ⟨x5, l5, rfl, h5⟩ := ex_cons h4
  obtain ⟨x6, l6, rfl, h6⟩ := ex_cons h5
  obtain ⟨x7, l7, rfl, h7⟩ := ex_cons h6
  obtain ⟨x8, l8, rfl, h8⟩ := ex_cons h7
  obtain ⟨x9, l9, rfl, h9⟩ := ex_cons h8
  obtain ⟨x10, l10, rfl, h10⟩ := ex_cons h9
  obtain ⟨x11, l11, rfl, h11⟩ := ex_cons h10
  obtain ⟨x12, l12, rfl, h12⟩ := ex_cons h11
  obtain ⟨x13, l13, rfl, h13⟩ := ex_cons h12
  obtain ⟨x14, l14, rfl, h14⟩ := ex_cons h13
  obtain ⟨x15, l15, rfl, h15⟩ := ex_cons h14
  obtain ⟨x16, l16, rfl, h16⟩ := ex_cons h15
  obtain ⟨x17, l17, rfl, h17⟩ := ex_cons h16
  obtain ⟨x18, l18, rfl, h18⟩ := ex_cons h17
  obtain ⟨x19, l19, rfl, h19⟩ := ex_cons h18
  obtain ⟨x20, l20, rfl, h20⟩ := ex_cons h19
  obtain ⟨x21, l21, rfl, h21⟩ := ex_cons h20
  obtain ⟨x22, l22, rfl, h22⟩ := ex_cons h21
  obtain ⟨x23, l23, rfl, h23⟩ := ex_cons h22
  obtain ⟨x24, l24, rfl, h24⟩ := ex_cons h23
  obtain ⟨x25, l25, rfl, h25⟩ := ex_cons h24
  obtain ⟨x26, l26, rfl, h26⟩ := ex_cons h25
  obtain ⟨x27, l27, rfl, h27⟩ := ex_cons h26
  obtain ⟨x28, l28, rfl, h28⟩ := ex_cons h27
  obtain ⟨x29, l29, rfl, h29⟩ := ex_cons h28
  obtain ⟨x30, l30, rfl, h30⟩ := ex_cons h29
  obtain ⟨x31, l31, rfl, h31⟩ := ex_cons h30
  obtain ⟨x32, l32, rfl, h32⟩ := ex_cons h31
  obtain ⟨x33, l33, rfl, h33⟩ := ex_cons h32
  obtain ⟨x34, l34, rfl, h34⟩ := ex_cons h33
  obtain ⟨x35, l35, rfl, h35⟩ := ex_cons h34
  obtain rfl := List.eq_nil_of_length_eq_zero h35
  obtain rfl : x6 = x1 := Option.some.inj (hs 1 (by decide) 0 (by decide))
  obtain rfl : x12 = x2 := Option.some.inj (hs 2 (by decide) 0 (by decide))
  obtain rfl : x18 = x3 := Option.some.inj (hs 3 (by decide) 0 (by decide))
  obtain rfl : x24 = x4 := Option.some.inj (hs 4 (by decide) 0 (by decide))
  obtain rfl : x30 = x5 := Option.some.inj (hs 5 (by decide) 0 (by decide))
  obtain rfl : x13 = x8 := Option.some.inj (hs 2 (by decide) 1 (by decide))
  obtain rfl : x19 = x9 := Option.some.inj (hs 3 (by decide) 1 (by decide))
  obtain rfl : x25 = x10 := Option.some.inj (hs 4 (by decide) 1 (by decide))
  obtain rfl : x31 = x11 := Option.some.inj (hs 5 (by decide) 1 (by decide))
  obtain rfl : x20 = x15 := Option.some.inj (hs 3 (by decide) 2 (by decide))
  obtain rfl : x26 = x16 := Option.some.inj (hs 4 (by decide) 2 (by decide))
  obtain rfl : x32 = x17 := Option.some.inj (hs 5 (by decide) 2 (by decide))
  obtain rfl : x27 = x22 := Option.some.inj (hs 4 (by decide) 3 (by decide))
  obtain rfl : x33 = x23 := Option.some.inj (hs 5 (by decide) 3 (by decide))
  obtain rfl : x34 = x29 := Option.some.inj (hs 5 (by decide) 4 (by decide))
  kernel_rfl
theorem fill_up {n : Nat} (h : n ≤ 6) {pl : List Int} (hl : pl.length = n * n) (hs : Sym n pl) : fill n (up n pl) = pl := by
  have : n = 0 ∨ n = 1 ∨ n = 2 ∨ n = 3 ∨ n = 4 ∨ n = 5 ∨ n = 6 := by omega
  rcases this with rfl | rfl | rfl | rfl | rfl | rfl | rfl
  · exact fu_0 pl hl hs
  · exact fu_1 pl hl hs
  · exact fu_2 pl hl hs
  · exact fu_3 pl hl hs
  · exact fu_4 pl hl hs
  · exact fu_5 pl hl hs
  · exact fu_6 pl hl hs
theorem upM_mem {n : Nat} {pl : List Int} {y : Int} : ∀ i, y ∈ upM n pl i → y ∈ pl
  | 0, h => by cases h
  | i + 1, h => by
    rcases List.mem_append.1 h with h | h
    · exact upM_mem i h
    · exact List.mem_of_mem_drop (List.mem_of_mem_take h)
theorem truthR_bit (b : Bool) (r : List Int) : truthR (be 1 (bit b) ++ r, false) = (b, (r, false)) := by
  have e := oneR_be (w := 1) (.inl rfl) (bit_fits b) (show In64 (bit b) by cases b <;> (unfold bit In64; simp)) r
  unfold truthR
  rw [e]
  cases b <;> simp [bit]
/-- A telling's numbers. -/
structure Nums (x : TV) (nl xl pl : List Int) : Prop where
  n : nl.length = x.nn
  y : xl.length = x.b.xn
  p : pl.length = x.b.pn
  time : In64 x.b.time
  pass : In64 x.b.pass
  fail : In64 x.b.fail
  ns : ∀ z ∈ nl, In64 z
  xs : ∀ z ∈ xl, In64 z
  ps : ∀ z ∈ pl, In64 z
def bdT (x : TV) (xl pl : List Int) : BD := ⟨x.b.time, xl, pl, x.b.flag, x.b.pass, x.b.fail⟩
theorem belP_belB {x : TV} {nl xl pl : List Int} (hb : badT x pl = false) (H : Nums x nl xl pl) (r : List Int) : belP (belB x.b xl pl ++ r, false) = (bdT x xl pl, (r, false)) := by
  obtain ⟨⟨q1, q2, q3, q4, q5, q6⟩, -⟩ := badT_fine hb
  obtain ⟨q7, q8, q9⟩ := held_iff.1 q6
  have hpl : pl.length = x.b.xn * x.b.xn := by rw [H.p, q8]
  have hul := up_tri q7 hpl
  have htr := tri_le x.b.xn
  obtain ⟨z, hz⟩ : ∃ z : RS, z = (belB x.b xl pl ++ r, false) := ⟨_, rfl⟩
  rw [← hz]
  have w8 : isW 8 := .inr (.inr (.inr rfl))
  have f8 : ∀ n : Int, fitsW 8 n = true := fun n => by simp [fitsW]
  have e1 : m1 z = (x.b.time, (be 1 (bit x.b.flag) ++ (be 8 x.b.pass ++ (be 8 x.b.fail ++ (lis xl ++ (lis (up x.b.xn pl) ++ r)))), false)) := by
    unfold m1
    rw [hz]
    unfold belB
    simp only [List.append_assoc]
    exact oneR_be w8 (f8 _) H.time _
  have e2 : m2 z = (x.b.flag, (be 8 x.b.pass ++ (be 8 x.b.fail ++ (lis xl ++ (lis (up x.b.xn pl) ++ r))), false)) := by
    unfold m2
    rw [e1]
    exact truthR_bit _ _
  have e3 : m3 z = (x.b.pass, (be 8 x.b.fail ++ (lis xl ++ (lis (up x.b.xn pl) ++ r)), false)) := by
    unfold m3
    rw [e2]
    exact oneR_be w8 (f8 _) H.pass _
  have e4 : m4 z = (x.b.fail, (lis xl ++ (lis (up x.b.xn pl) ++ r), false)) := by
    unfold m4
    rw [e3]
    exact oneR_be w8 (f8 _) H.fail _
  have e5 : m5 z = (xl, (lis (up x.b.xn pl) ++ r, false)) := by
    unfold m5
    rw [e4]
    exact listR_lis (by rw [H.y]; omega) H.xs _
  have e6 : m6 z = (up x.b.xn pl, (r, false)) := by
    unfold m6
    rw [e5]
    exact listR_lis (l := up x.b.xn pl) (by rw [hul]; omega) (fun y hy => H.ps y (upM_mem _ hy)) _
  unfold belP belD
  rw [e1, e2, e3, e4, e5, e6]
  have hw : wrongR xl.length (up x.b.xn pl).length = false := by
    unfold wrongR
    rw [H.y, decide_eq_false (by omega), decide_eq_true (by rw [hul, tri_triR q7, triR_eq q7])]; rfl
  dsimp only
  rw [hw, if_neg (by simp), H.y, fill_up q7 hpl q9]
  rfl
theorem step_encT {x : TV} {nl xl pl : List Int} (hb : badT x pl = false) (H : Nums x nl xl pl) (r : List Int) {y : ET} {c : UInt8} (hc : c = 115 ∨ c = 113 ∨ c = 101 ∨ c = 110 ∨ c = 120 ∨ c = 98) (hy : y.st = (letP x nl xl pl c ++ r, false)) : stepT y c = ⟨if c = 115 then x.sen else y.sen, if c = 113 then x.seq else y.seq, if c = 101 then x.err else y.err, if c = 110 then nl else y.nl, if c = 120 then x.ex else y.ex, if c = 98 then bdT x xl pl else y.b, (r, false)⟩ := by
  obtain ⟨⟨q1, q2, q3, q4, q5, q6⟩, -⟩ := badT_fine hb
  rcases hc with rfl | rfl | rfl | rfl | rfl | rfl
  · have e : oneR 1 y.st = (x.sen, (r, false)) := by
      rw [hy]
      exact oneR_be (.inl rfl) (by simp [fitsW]; omega) ⟨by omega, by omega⟩ r
    unfold stepT
    rw [if_pos rfl, e]
    simp
  · have e : oneR 4 y.st = (x.seq, (r, false)) := by
      rw [hy]
      exact oneR_be (.inr (.inr (.inl rfl))) (by simp [fitsW]; omega) ⟨by omega, by omega⟩ r
    unfold stepT
    rw [if_neg (by decide), if_pos rfl, e]
    simp
  · have e : oneR 1 y.st = (x.err, (r, false)) := by
      rw [hy]
      exact oneR_be (.inl rfl) (by simp [fitsW]; omega) ⟨by omega, by omega⟩ r
    unfold stepT
    rw [if_neg (by decide), if_neg (by decide), if_pos rfl, e]
    simp
  · have e : listR y.st = (nl, (r, false)) := by
      rw [hy]
      exact listR_lis (by rw [H.n]; omega) H.ns r
    unfold stepT
    rw [if_neg (by decide), if_neg (by decide), if_neg (by decide), if_pos rfl, e]
    simp
  · have e : truthR y.st = (x.ex, (r, false)) := by
      rw [hy]
      exact truthR_bit _ _
    unfold stepT
    rw [if_neg (by decide), if_neg (by decide), if_neg (by decide), if_neg (by decide), if_pos rfl, e]
    simp
  · have e : belP y.st = (bdT x xl pl, (r, false)) := by
      rw [hy]
      exact belP_belB hb H r
    unfold stepT
    rw [if_neg (by decide), if_neg (by decide), if_neg (by decide), if_neg (by decide), if_neg (by decide), e]
    simp
theorem fold_encT {x : TV} {nl xl pl : List Int} (hb : badT x pl = false) (H : Nums x nl xl pl) (r : List Int) : ∀ (L : List UInt8) (y : ET), (∀ c ∈ L, c = 115 ∨ c = 113 ∨ c = 101 ∨ c = 110 ∨ c = 120 ∨ c = 98) → y.st = (L.flatMap (letP x nl xl pl) ++ r, false) →
    L.foldl stepT y = ⟨if 115 ∈ L then x.sen else y.sen, if 113 ∈ L then x.seq else y.seq, if 101 ∈ L then x.err else y.err, if 110 ∈ L then nl else y.nl, if 120 ∈ L then x.ex else y.ex, if 98 ∈ L then bdT x xl pl else y.b, (r, false)⟩
  | [], y, _, hy => by
    obtain ⟨a, b, c, d, e, f, g⟩ := y
    simp at hy
    simp [hy]
  | c :: L, y, hc, hy => by
    rw [List.flatMap_cons, List.append_assoc] at hy
    have h1 := step_encT hb H _ (hc c (by simp)) hy
    rw [List.foldl_cons, fold_encT hb H r L (stepT y c) (fun z hz => hc z (by simp [hz])) (by rw [h1]), h1]
    simp only [List.mem_cons]
    congr 1
    · by_cases h : 115 ∈ L <;> by_cases h2 : c = 115 <;> simp [h, h2, eq_comm]
    · by_cases h : 113 ∈ L <;> by_cases h2 : c = 113 <;> simp [h, h2, eq_comm]
    · by_cases h : 101 ∈ L <;> by_cases h2 : c = 101 <;> simp [h, h2, eq_comm]
    · by_cases h : 110 ∈ L <;> by_cases h2 : c = 110 <;> simp [h, h2, eq_comm]
    · by_cases h : 120 ∈ L <;> by_cases h2 : c = 120 <;> simp [h, h2, eq_comm]
    · by_cases h : 98 ∈ L <;> by_cases h2 : c = 98 <;> simp [h, h2, eq_comm]
theorem tel_not {k : Int} (hk : 1 ≤ k ∧ k ≤ 6) : (115 ∉ telT k → k = 5 ∨ k = 6) ∧ (113 ∉ telT k → k = 1) ∧ (101 ∈ telT k) ∧ (110 ∉ telT k → k = 1 ∨ k = 5) ∧ (120 ∉ telT k → ¬ k = 5) ∧ (98 ∉ telT k → ¬ k = 5) := by
  rcases kinds6 hk with rfl | rfl | rfl | rfl | rfl | rfl <;> simp [telT]
/-- What is told is got as it was. -/
theorem dec_encT {x : TV} {nl xl pl : List Int} (hb : badT x pl = false) (H : Nums x nl xl pl) (r : List Int) : kindD (encT x nl xl pl ++ r) = x.kind ∧ decT (encT x nl xl pl ++ r) = ⟨x.sen, x.seq, x.err, nl, x.ex, bdT x xl pl, (r, false)⟩ := by
  obtain ⟨⟨q1, q2, q3, q4, q5, q6⟩, hL⟩ := badT_fine hb
  have e : encT x nl xl pl ++ r = be 1 x.kind ++ ((telT x.kind).flatMap (letP x nl xl pl) ++ r) := by unfold encT; rw [List.append_assoc]
  have h1 := oneR_be (w := 1) (.inl rfl) (n := x.kind) (by simp [fitsW]; omega) ⟨by omega, by omega⟩ ((telT x.kind).flatMap (letP x nl xl pl) ++ r)
  rw [← e] at h1
  have hk : kindD (encT x nl xl pl ++ r) = x.kind := by unfold kindD; rw [h1]
  have hs : startT (encT x nl xl pl ++ r) = ⟨0, 0, 0, [], false, bd0, ((telT x.kind).flatMap (letP x nl xl pl) ++ r, false)⟩ := by unfold startT; rw [h1]
  refine ⟨hk, ?_⟩
  unfold decT
  rw [hk, hs, fold_encT hb H r _ _ (fun c hc => tel_mem hc) rfl]
  obtain ⟨n1, n2, n3, n4, n5, n6⟩ := tel_not q1
  have m1 : (if 115 ∈ telT x.kind then x.sen else 0) = x.sen := by
    split
    · rfl
    · rename_i h; exact (Classical.byContradiction fun hz => hL (.inl ⟨fun e => hz e.symm, n1 h⟩))
  have m2 : (if 113 ∈ telT x.kind then x.seq else 0) = x.seq := by
    split
    · rfl
    · rename_i h; exact (Classical.byContradiction fun hz => hL (.inr (.inl ⟨fun e => hz e.symm, n2 h⟩)))
  have m4 : (if 110 ∈ telT x.kind then nl else []) = nl := by
    split
    · rfl
    · rename_i h
      have h0 : x.nn = 0 := Classical.byContradiction fun hz => hL (.inr (.inr (.inl ⟨hz, n4 h⟩)))
      exact (List.eq_nil_of_length_eq_zero (by rw [H.n, h0])).symm
  have m5 : (if 120 ∈ telT x.kind then x.ex else false) = x.ex := by
    split
    · rfl
    · rename_i h
      cases hx : x.ex with
      | false => rfl
      | true => exact absurd (.inr (.inr (.inr (.inl ⟨hx, n5 h⟩)))) hL
  have m6 : (if 98 ∈ telT x.kind then bdT x xl pl else bd0) = bdT x xl pl := by
    split
    · rfl
    · rename_i h
      cases hx : empB x.b with
      | false => exact absurd (.inr (.inr (.inr (.inr ⟨hx, n6 h⟩)))) hL
      | true =>
        obtain ⟨a, b, c, d, e, f⟩ := of_decide_eq_true hx
        have hx0 := List.eq_nil_of_length_eq_zero (H.y.trans b)
        have hp0 := List.eq_nil_of_length_eq_zero (H.p.trans c)
        unfold bdT bd0
        rw [a, hx0, hp0, d, e, f]
  dsimp only
  rw [m1, m2, if_pos n3, m4, m5, m6]
theorem tv_same {x : TV} {nl xl pl : List Int} (H : Nums x nl xl pl) (st : RS) (p1 p2 p3 : Option Addr) : tvD x.kind ⟨x.sen, x.seq, x.err, nl, x.ex, bdT x xl pl, st⟩ p1 p2 p3 = cpT x p1 p2 p3 := by
  unfold tvD bvD bdT cpT cpB
  dsimp only
  rw [H.n, H.y, H.p]
theorem bad_encT {x : TV} {nl xl pl : List Int} (hb : badT x pl = false) (H : Nums x nl xl pl) : badG (encT x nl xl pl) = false := by
  obtain ⟨h1, h2⟩ := dec_encT hb H []
  rw [List.append_nil] at h1 h2
  unfold badG
  rw [h1, h2, tv_same H]
  show (false || (!([] : List Int).isEmpty || badT x pl)) = false
  rw [hb]; rfl
/-- The bytes tell the telling. -/
theorem enc_injT {x y : TV} {nl xl pl nl' xl' pl' : List Int} (hb : badT x pl = false) (H : Nums x nl xl pl) (hb' : badT y pl' = false) (H' : Nums y nl' xl' pl') {r : List Int} (h : encT x nl xl pl = encT y nl' xl' pl' ++ r) : r = [] ∧ sameT x y nl xl pl nl' xl' pl' = true := by
  obtain ⟨h1, h2⟩ := dec_encT hb H []
  obtain ⟨h3, h4⟩ := dec_encT hb' H' r
  rw [List.append_nil] at h1 h2
  rw [h] at h1 h2
  rw [h1] at h3
  rw [h2] at h4
  simp only [ET.mk.injEq, Prod.mk.injEq, bdT, BD.mk.injEq] at h4
  obtain ⟨a, b, c, e, f, ⟨i, j, k, l, m, n⟩, o, -⟩ := h4
  refine ⟨o.symm, ?_⟩
  unfold sameT sameB
  exact decide_eq_true ⟨h3, a, b, c, e, f, decide_eq_true ⟨i, j, k, l, m, n⟩⟩
theorem enc_sameT {x y : TV} {nl xl pl nl' xl' pl' : List Int} (H : Nums x nl xl pl) (H' : Nums y nl' xl' pl') (h : sameT x y nl xl pl nl' xl' pl' = true) : encT x nl xl pl = encT y nl' xl' pl' := by
  obtain ⟨a, b, c, e, f, g, i⟩ := of_decide_eq_true h
  obtain ⟨i1, i2, i3, i4, i5, i6⟩ := of_decide_eq_true i
  have hx : x.b.xn = y.b.xn := by rw [← H.y, ← H'.y, i2]
  unfold encT
  have : letP x nl xl pl = letP y nl' xl' pl' := by
    funext z
    unfold letP belB
    rw [b, c, e, f, g, i1, i2, i3, i4, i5, i6, hx]
  rw [a, this]
end Go.Ev.R
namespace Go.Ev.R
open Go Go.RowKit
section
variable {N d : Nat} (hN : N = 100000) {h : T} {s : Nat} (hf : ∀ n, s ≤ n → h.get n = none)
include hN hf
theorem s14 (x y : TV) {nl xl pl nl' xl' pl' : List Int} (r : ListsT h x nl xl pl) (r' : ListsT h y nl' xl' pl') (H : Nums x nl xl pl) (H' : Nums y nl' xl' pl') : ValS (D N (d + 13)) 14 [.agg ⟨tvv x⟩, .agg ⟨tvv y⟩] h s (.bool true) := by
  refine ValS.of hf fun K pw Z g hp hk => ?_
  rw [D_14]; unfold F14; rw [app2_eq]
  refine wp_boxA g hp fun h1 g1 c1 b1 => ?_
  simp only [tvv] at b1
  refine wp_boxA g1 hp fun h2 g2 c2 b2 => ?_
  simp only [tvv] at b2
  replace b1 := c2.box b1 (by omega)
  rw [D_21]
  try simp (disch := first | assumption | omega | (simp only [Int.ofNat_eq_natCast, neg_one]; done) | (simp only [Int.ofNat_eq_natCast, neg_one]; omega)) only [tysW, wB, mB, Nat.reduceAdd, Nat.reduceMul, List.length_cons, List.length_nil, ldB b1, clB b1, ldBL b1, clBL b1]
  refine ValS.go g2 hp (s63 (d := d + 11) g2.fresh x) fun h3 s3 g3 c3 => ?_
  have l3 := c3.le
  replace b1 := c3.box b1 (by omega)
  replace b2 := c3.box b2 (by omega)
  cases hlx : longT x with
  | true =>
    try simp (disch := first | assumption | omega | (simp only [Int.ofNat_eq_natCast, neg_one]; done) | (simp only [Int.ofNat_eq_natCast, neg_one]; omega)) only [tysW, wB, mB, Nat.reduceAdd, Nat.reduceMul, List.length_cons, List.length_nil]
    unfold X14_9
    try simp (disch := first | assumption | omega | (simp only [Int.ofNat_eq_natCast, neg_one]; done) | (simp only [Int.ofNat_eq_natCast, neg_one]; omega)) only [tysW, wB, mB, Nat.reduceAdd, Nat.reduceMul, List.length_cons, List.length_nil]
    exact hk _ _ g3
  | false =>
  try simp (disch := first | assumption | omega | (simp only [Int.ofNat_eq_natCast, neg_one]; done) | (simp only [Int.ofNat_eq_natCast, neg_one]; omega)) only [tysW, wB, mB, Nat.reduceAdd, Nat.reduceMul, List.length_cons, List.length_nil, ldB b2, clB b2, ldBL b2, clBL b2]
  refine ValS.go g3 hp (s63 (d := d + 11) g3.fresh y) fun h4 s4 g4 c4 => ?_
  have l4 := c4.le
  replace b1 := c4.box b1 (by omega)
  replace b2 := c4.box b2 (by omega)
  cases hly : longT y with
  | true =>
    unfold X14_9
    try simp (disch := first | assumption | omega | (simp only [Int.ofNat_eq_natCast, neg_one]; done) | (simp only [Int.ofNat_eq_natCast, neg_one]; omega)) only [tysW, wB, mB, Nat.reduceAdd, Nat.reduceMul, List.length_cons, List.length_nil]
    exact hk _ _ g4
  | false =>
  have hsx := of_decide_eq_false hlx
  have hsy := of_decide_eq_false hly
  unfold X14_9
  try simp (disch := first | assumption | omega | (simp only [Int.ofNat_eq_natCast, neg_one]; done) | (simp only [Int.ofNat_eq_natCast, neg_one]; omega)) only [tysW, wB, mB, Nat.reduceAdd, Nat.reduceMul, List.length_cons, List.length_nil, ldB b1, clB b1, ldBL b1, clBL b1]
  refine PureS.go g4 hp (s65 (d := d) hN g4.fresh x (r.from hf g4) (by omega) (by omega)) fun v h5 s5 g5 c5 hv => ?_
  obtain ⟨pa, la, rfl, oa, hla⟩ := hv
  have l5 := c5.le
  replace b1 := c5.box b1 (by omega)
  replace b2 := c5.box b2 (by omega)
  try simp (disch := first | assumption | omega | (simp only [Int.ofNat_eq_natCast, neg_one]; done) | (simp only [Int.ofNat_eq_natCast, neg_one]; omega)) only [tysW, wB, mB, Nat.reduceAdd, Nat.reduceMul, List.length_cons, List.length_nil, ldB b2, clB b2, ldBL b2, clBL b2]
  refine PureS.go g5 hp (s65 (d := d) hN g5.fresh y (r'.from hf g5) (by omega) (by omega)) fun v h6 s6 g6 c6 hv => ?_
  obtain ⟨pb, lb, rfl, ob, hlb⟩ := hv
  have l6 := c6.le
  replace b1 := c6.box b1 (by omega)
  replace b2 := c6.box b2 (by omega)
  replace oa := oa.from g5.fresh c6
  have tail : (bindJ 1 (fun v23 u => pickX (.bool true) v23 (.bool false) (fun v24 u => bindJ 1 (fun v25 u => pickX v24 v25 (.bool false) (fun v26 u => K v26 u) u) (fun j27 u => guardX (gd v24 true) (ld 60 (ptr (s + 1)) (fun v28 u => D N (d + 12) 36 [v28] (fun v29 u => eqX P 35 35 false false (vi (errT y pl')) v29 (fun v30 u => j27 v30 u) u) u) u) (j27 undef u)) u) u) (fun j31 u => guardX (gd (.bool true) true) (ld 60 (ptr s) (fun v32 u => D N (d + 12) 36 [v32] (fun v33 u => eqX P 35 35 false false (vi (errT x pl)) v33 (fun v34 u => j31 v34 u) u) u) u) (j31 undef u)) s6).wp pw Z h6 := by
    try simp (disch := first | assumption | omega | (simp only [Int.ofNat_eq_natCast, neg_one]; done) | (simp only [Int.ofNat_eq_natCast, neg_one]; omega)) only [tysW, wB, mB, Nat.reduceAdd, Nat.reduceMul, List.length_cons, List.length_nil, ldB b1, clB b1, ldBL b1, clBL b1]
    refine ValS.go g6 hp (s36 (d := d + 1) hN g6.fresh x (g6.row hf r.p.row) (by omega) (by omega)) fun h7 s7 g7 c7 => ?_
    replace b2 := c7.box b2 (by omega)
    rw [show (if badT x pl = true then (2 : Int) else 0) = errT x pl from rfl]
    obtain ⟨e, he⟩ : ∃ e, e = errT x pl := ⟨_, rfl⟩
    rw [← he]
    try simp (disch := first | assumption | omega | (simp only [Int.ofNat_eq_natCast, neg_one]; done) | (simp only [Int.ofNat_eq_natCast, neg_one]; omega)) only [tysW, wB, mB, Nat.reduceAdd, Nat.reduceMul, List.length_cons, List.length_nil, ldB b2, clB b2, ldBL b2, clBL b2]
    refine ValS.go g7 hp (s36 (d := d + 1) hN g7.fresh y (g7.row hf r'.p.row) (by omega) (by omega)) fun h8 s8 g8 c8 => ?_
    rw [show (if badT y pl' = true then (2 : Int) else 0) = errT y pl' from rfl]
    obtain ⟨f, hf⟩ : ∃ f, f = errT y pl' := ⟨_, rfl⟩
    rw [← hf]
    try simp (disch := first | assumption | omega | (simp only [Int.ofNat_eq_natCast, neg_one]; done) | (simp only [Int.ofNat_eq_natCast, neg_one]; omega)) only [tysW, wB, mB, Nat.reduceAdd, Nat.reduceMul, List.length_cons, List.length_nil]
    exact hk _ _ g8
  cases hbx : badT x pl with
  | true =>
    have ex : ¬ errT x pl = 0 := by unfold errT; rw [hbx]; simp
    try simp (disch := first | assumption | omega | (simp only [Int.ofNat_eq_natCast, neg_one]; done) | (simp only [Int.ofNat_eq_natCast, neg_one]; omega)) only [tysW, wB, mB, Nat.reduceAdd, Nat.reduceMul, List.length_cons, List.length_nil]
    unfold X14_8
    try simp (disch := first | assumption | omega | (simp only [Int.ofNat_eq_natCast, neg_one]; done) | (simp only [Int.ofNat_eq_natCast, neg_one]; omega)) only [tysW, wB, mB, Nat.reduceAdd, Nat.reduceMul, List.length_cons, List.length_nil]
    exact tail
  | false =>
    have ex : errT x pl = 0 := by unfold errT; rw [hbx]; simp
    cases hby : badT y pl' with
    | true =>
      have ey : ¬ errT y pl' = 0 := by unfold errT; rw [hby]; simp
      try simp (disch := first | assumption | omega | (simp only [Int.ofNat_eq_natCast, neg_one]; done) | (simp only [Int.ofNat_eq_natCast, neg_one]; omega)) only [tysW, wB, mB, Nat.reduceAdd, Nat.reduceMul, List.length_cons, List.length_nil]
      unfold X14_8
      try simp (disch := first | assumption | omega | (simp only [Int.ofNat_eq_natCast, neg_one]; done) | (simp only [Int.ofNat_eq_natCast, neg_one]; omega)) only [tysW, wB, mB, Nat.reduceAdd, Nat.reduceMul, List.length_cons, List.length_nil]
      exact tail
    | false =>
      have ey : errT y pl' = 0 := by unfold errT; rw [hby]; simp
      have hbx' : bytesT x nl xl pl = encT x nl xl pl := by unfold bytesT; rw [hbx]; rfl
      have hby' : bytesT y nl' xl' pl' = encT y nl' xl' pl' := by unfold bytesT; rw [hby]; rfl
      rw [hbx'] at oa
      rw [hby'] at ob
      obtain ⟨k1, k2⟩ := dec_encT hbx H []
      rw [List.append_nil] at k1 k2
      try simp (disch := first | assumption | omega | (simp only [Int.ofNat_eq_natCast, neg_one]; done) | (simp only [Int.ofNat_eq_natCast, neg_one]; omega)) only [tysW, wB, mB, Nat.reduceAdd, Nat.reduceMul, List.length_cons, List.length_nil]
      unfold X14_8
      try simp (disch := first | assumption | omega | (simp only [Int.ofNat_eq_natCast, neg_one]; done) | (simp only [Int.ofNat_eq_natCast, neg_one]; omega)) only [tysW, wB, mB, Nat.reduceAdd, Nat.reduceMul, List.length_cons, List.length_nil]
      have na := oa.lt g6.fresh
      have nb := ob.lt g6.fresh
      refine PureS.go g6 hp (s71 (d := d) hN g6.fresh oa.sl (by omega) (encT_range x nl xl pl)) fun v h7 s7 g7 c7 hv => ?_
      unfold GotT at hv
      rw [bad_encT hbx H, k1, k2, if_neg (by simp)] at hv
      obtain ⟨q1, q2, q3, rfl, o1, o2, o3⟩ := hv
      rw [tv_same H]
      have l7 := c7.le
      replace o1 : OwnG EI 3 h7 s6 q1 nl.length nl := o1
      replace o2 : OwnG EI 3 h7 s6 q2 xl.length xl := o2
      replace o3 : OwnG EI 3 h7 s6 q3 pl.length pl := o3
      have n1 := o1.lt g7.fresh
      have n2 := o2.lt g7.fresh
      have n3 := o3.lt g7.fresh
      replace b1 := c7.box b1 (by omega)
      replace b2 := c7.box b2 (by omega)
      replace oa := oa.from g6.fresh c7
      replace ob := ob.from g6.fresh c7
      try simp (disch := first | assumption | omega | (simp only [Int.ofNat_eq_natCast, neg_one]; done) | (simp only [Int.ofNat_eq_natCast, neg_one]; omega)) only [tysW, wB, mB, Nat.reduceAdd, Nat.reduceMul, List.length_cons, List.length_nil]
      refine wp_boxA g7 hp fun h8 g8 c8 b8 => ?_
      replace b1 := c8.box b1 (by omega)
      replace b2 := c8.box b2 (by omega)
      replace oa := oa.from g7.fresh c8
      replace ob := ob.from g7.fresh c8
      replace o1 := o1.from g7.fresh c8
      replace o2 := o2.from g7.fresh c8
      replace o3 := o3.from g7.fresh c8
      try simp (disch := first | assumption | omega | (simp only [Int.ofNat_eq_natCast, neg_one]; done) | (simp only [Int.ofNat_eq_natCast, neg_one]; omega)) only [tysW, wB, mB, Nat.reduceAdd, Nat.reduceMul, List.length_cons, List.length_nil, tvv, cpT, cpB]
      refine wp_putF g8 hp b8 (by omega) (by simp) rfl fun h9 g9 b9 e9 => ?_
      simp only [overL] at b9
      replace b1 := (e9 s (by omega)).trans b1
      replace b2 := (e9 (s + 1) (by omega)).trans b2
      replace oa := oa.but fun hp => e9 _ (by have := na hp; omega)
      replace ob := ob.but fun hp => e9 _ (by have := nb hp; omega)
      replace o1 := o1.but fun hp => e9 _ (by have := n1 hp; omega)
      replace o2 := o2.but fun hp => e9 _ (by have := n2 hp; omega)
      replace o3 := o3.but fun hp => e9 _ (by have := n3 hp; omega)
      have ra := encT_range x nl xl pl
      have rb := encT_range y nl' xl' pl'
      have L : ListsT h9 (cpT x q1 q2 q3) nl xl pl := ⟨by have := o1.sl.row; rw [H.n] at this; exact this, by have := o2.sl.row; rw [H.y] at this; exact this, by have := o3.sl; rw [H.p] at this; exact this⟩
      unfold X14_7
      try simp (disch := first | assumption | omega | (simp only [Int.ofNat_eq_natCast, neg_one]; done) | (simp only [Int.ofNat_eq_natCast, neg_one]; omega)) only [tysW, wB, mB, Nat.reduceAdd, Nat.reduceMul, List.length_cons, List.length_nil, ldB b9, clB b9, ldBL b9, clBL b9, ldB b1, clB b1, ldBL b1, clBL b1]
      refine ValS.goL g9 hp (s68 (d := d + 9) (by omega) g9.fresh (cpT x q1 q2 q3) x L (r.from hf g9) (by show x.nn ≤ 1000; omega) (by show x.b.xn ≤ 1000; omega) (by show x.b.pn ≤ 1000; omega)) fun h10 s10 ts10 ws10 g10 c10 hw10 ht10 => ?_
      have l10 := c10.le
      replace b1 := c10.box b1 (by omega)
      replace b2 := c10.box b2 (by omega)
      replace oa := oa.from g9.fresh c10
      replace ob := ob.from g9.fresh c10
      rw [show sameT (cpT x q1 q2 q3) x nl xl pl nl xl pl = true by simp [sameT, sameB, cpT, cpB]]
      try unfold X14_6
      try simp (disch := first | assumption | omega | (simp only [Int.ofNat_eq_natCast, neg_one]; done) | (simp only [Int.ofNat_eq_natCast, neg_one]; omega)) only [tysW, wB, mB, Nat.reduceAdd, Nat.reduceMul, List.length_cons, List.length_nil]
      refine ValS.goL g10 hp (s19 (d := d + 11) g10.fresh oa.sl.row ob.sl.row ra rb) fun h11 s11 ts11 ws11 g11 c11 hw11 ht11 => ?_
      have l11 := c11.le
      replace b1 := c11.box b1 (by omega)
      replace b2 := c11.box b2 (by omega)
      replace oa := oa.from g10.fresh c11
      replace ob := ob.from g10.fresh c11
      try unfold X14_5
      try simp (disch := first | assumption | omega | (simp only [Int.ofNat_eq_natCast, neg_one]; done) | (simp only [Int.ofNat_eq_natCast, neg_one]; omega)) only [tysW, wB, mB, Nat.reduceAdd, Nat.reduceMul, List.length_cons, List.length_nil, ldB b1, clB b1, ldBL b1, clBL b1, ldB b2, clB b2, ldBL b2, clBL b2]
      try unfold X14_4
      try simp (disch := first | assumption | omega | (simp only [Int.ofNat_eq_natCast, neg_one]; done) | (simp only [Int.ofNat_eq_natCast, neg_one]; omega)) only [tysW, wB, mB, Nat.reduceAdd, Nat.reduceMul, List.length_cons, List.length_nil]
      refine ValS.goL g11 hp (s68 (d := d + 9) (by omega) g11.fresh x y (r.from hf g11) (r'.from hf g11) (by omega) (by omega) (by omega)) fun h12 s12 ts12 ws12 g12 c12 hw12 ht12 => ?_
      have l12 := c12.le
      replace oa := oa.from g11.fresh c12
      replace ob := ob.from g11.fresh c12
      have esame : decide (encT x nl xl pl = encT y nl' xl' pl') = sameT x y nl xl pl nl' xl' pl' := by
        cases hs : sameT x y nl xl pl nl' xl' pl' with
        | true => exact decide_eq_true (enc_sameT H H' hs)
        | false =>
          refine decide_eq_false fun he => ?_
          have := (enc_injT (r := []) hbx H hby H' (by rw [List.append_nil]; exact he)).2
          rw [hs] at this; cases this
      rw [esame]
      obtain ⟨sm, hsm⟩ : ∃ sm, sm = sameT x y nl xl pl nl' xl' pl' := ⟨_, rfl⟩
      rw [← hsm]
      try simp (disch := first | assumption | omega | (simp only [Int.ofNat_eq_natCast, neg_one]; done) | (simp only [Int.ofNat_eq_natCast, neg_one]; omega)) only [tysW, wB, mB, Nat.reduceAdd, Nat.reduceMul, List.length_cons, List.length_nil, eqb_4]
      rw [show (sm == sm) = true by simp]
      try unfold X14_3
      try simp (disch := first | assumption | omega | (simp only [Int.ofNat_eq_natCast, neg_one]; done) | (simp only [Int.ofNat_eq_natCast, neg_one]; omega)) only [tysW, wB, mB, Nat.reduceAdd, Nat.reduceMul, List.length_cons, List.length_nil]
      have pre : ∀ {x y : TV} {nl xl pl nl' xl' pl' : List Int} {m n : Nat}, badT x pl = false → Nums x nl xl pl → badT y pl' = false → Nums y nl' xl' pl' → (encT x nl xl pl).length = n → (encT y nl' xl' pl').length = m → (decide (m < n) && decide ((encT x nl xl pl).take m = encT y nl' xl' pl')) = false := by
        intro x y nl xl pl nl' xl' pl' m n a1 a2 a3 a4 a9 a10
        cases hd1 : decide (m < n) with
        | false => rfl
        | true =>
          rw [Bool.true_and]
          refine decide_eq_false fun he => ?_
          have h1 := List.take_append_drop m (encT x nl xl pl)
          rw [he] at h1
          have h2 := (enc_injT a1 a2 a3 a4 h1.symm).1
          have h3 := congrArg List.length h2
          rw [List.length_drop] at h3
          have := of_decide_eq_true hd1
          simp at h3; omega
      refine ValS.goL g12 hp (s38 (d := d + 10) g12.fresh oa.sl ob.sl.row ra rb) fun h13 s13 ts13 ws13 g13 c13 hw13 ht13 => ?_
      have l13 := c13.le
      replace oa := oa.from g12.fresh c13
      replace ob := ob.from g12.fresh c13
      rw [pre hbx H hby H' oa.1 ob.1]
      try simp (disch := first | assumption | omega | (simp only [Int.ofNat_eq_natCast, neg_one]; done) | (simp only [Int.ofNat_eq_natCast, neg_one]; omega)) only [tysW, wB, mB, Nat.reduceAdd, Nat.reduceMul, List.length_cons, List.length_nil]
      try unfold X14_2
      try simp (disch := first | assumption | omega | (simp only [Int.ofNat_eq_natCast, neg_one]; done) | (simp only [Int.ofNat_eq_natCast, neg_one]; omega)) only [tysW, wB, mB, Nat.reduceAdd, Nat.reduceMul, List.length_cons, List.length_nil]
      refine ValS.goL g13 hp (s38 (d := d + 10) g13.fresh ob.sl oa.sl.row rb ra) fun h14 s14 ts14 ws14 g14 c14 hw14 ht14 => ?_
      rw [pre hby H' hbx H ob.1 oa.1]
      try simp (disch := first | assumption | omega | (simp only [Int.ofNat_eq_natCast, neg_one]; done) | (simp only [Int.ofNat_eq_natCast, neg_one]; omega)) only [tysW, wB, mB, Nat.reduceAdd, Nat.reduceMul, List.length_cons, List.length_nil]
      try unfold X14_1
      try simp (disch := first | assumption | omega | (simp only [Int.ofNat_eq_natCast, neg_one]; done) | (simp only [Int.ofNat_eq_natCast, neg_one]; omega)) only [tysW, wB, mB, Nat.reduceAdd, Nat.reduceMul, List.length_cons, List.length_nil]
      rw [wp_guard, if_pos (by repeat' (first | exact dynOk_nil _ _ | refine dyn_skip' ?_ | refine dyn_cons ?_ ?_ | exact allF_nil _ _ | refine allF_cons ?_ ?_ | exact disj_below hw10 (by omega) | exact disjA hw10 (by omega) | exact disjB hw10 (by omega) | exact disjC hw10 (by assumption) | exact disjD (fun m hm => by have := hw10 m hm; omega) | exact disj_below ht10 (by omega) | exact disjA ht10 (by omega) | exact disjB ht10 (by omega) | exact disjC ht10 (by assumption) | exact disjD (fun m hm => by have := ht10 m hm; omega) | exact disj_below hw11 (by omega) | exact disjA hw11 (by omega) | exact disjB hw11 (by omega) | exact disjC hw11 (by assumption) | exact disjD (fun m hm => by have := hw11 m hm; omega) | exact disj_below ht11 (by omega) | exact disjA ht11 (by omega) | exact disjB ht11 (by omega) | exact disjC ht11 (by assumption) | exact disjD (fun m hm => by have := ht11 m hm; omega) | exact disj_below hw12 (by omega) | exact disjA hw12 (by omega) | exact disjB hw12 (by omega) | exact disjC hw12 (by assumption) | exact disjD (fun m hm => by have := hw12 m hm; omega) | exact disj_below ht12 (by omega) | exact disjA ht12 (by omega) | exact disjB ht12 (by omega) | exact disjC ht12 (by assumption) | exact disjD (fun m hm => by have := ht12 m hm; omega) | exact disj_below hw13 (by omega) | exact disjA hw13 (by omega) | exact disjB hw13 (by omega) | exact disjC hw13 (by assumption) | exact disjD (fun m hm => by have := hw13 m hm; omega) | exact disj_below ht13 (by omega) | exact disjA ht13 (by omega) | exact disjB ht13 (by omega) | exact disjC ht13 (by assumption) | exact disjD (fun m hm => by have := ht13 m hm; omega) | exact disj_below hw14 (by omega) | exact disjA hw14 (by omega) | exact disjB hw14 (by omega) | exact disjC hw14 (by assumption) | exact disjD (fun m hm => by have := hw14 m hm; omega) | exact disj_below ht14 (by omega) | exact disjA ht14 (by omega) | exact disjB ht14 (by omega) | exact disjC ht14 (by assumption) | exact disjD (fun m hm => by have := ht14 m hm; omega) | exact disjN _ | exact disj1 (by omega) | exact disj2 (by omega) | exact disj3 (by assumption) | exact disjC hw10 (fun m hm => by have := ht10 m hm; omega) | exact disjC hw10 (fun m hm => by have := hw11 m hm; omega) | exact disjC hw10 (fun m hm => by have := ht11 m hm; omega) | exact disjC hw10 (fun m hm => by have := hw12 m hm; omega) | exact disjC hw10 (fun m hm => by have := ht12 m hm; omega) | exact disjC hw10 (fun m hm => by have := hw13 m hm; omega) | exact disjC hw10 (fun m hm => by have := ht13 m hm; omega) | exact disjC hw10 (fun m hm => by have := hw14 m hm; omega) | exact disjC hw10 (fun m hm => by have := ht14 m hm; omega) | exact disjC ht10 (fun m hm => by have := hw10 m hm; omega) | exact disjC ht10 (fun m hm => by have := hw11 m hm; omega) | exact disjC ht10 (fun m hm => by have := ht11 m hm; omega) | exact disjC ht10 (fun m hm => by have := hw12 m hm; omega) | exact disjC ht10 (fun m hm => by have := ht12 m hm; omega) | exact disjC ht10 (fun m hm => by have := hw13 m hm; omega) | exact disjC ht10 (fun m hm => by have := ht13 m hm; omega) | exact disjC ht10 (fun m hm => by have := hw14 m hm; omega) | exact disjC ht10 (fun m hm => by have := ht14 m hm; omega) | exact disjC hw11 (fun m hm => by have := hw10 m hm; omega) | exact disjC hw11 (fun m hm => by have := ht10 m hm; omega) | exact disjC hw11 (fun m hm => by have := ht11 m hm; omega) | exact disjC hw11 (fun m hm => by have := hw12 m hm; omega) | exact disjC hw11 (fun m hm => by have := ht12 m hm; omega) | exact disjC hw11 (fun m hm => by have := hw13 m hm; omega) | exact disjC hw11 (fun m hm => by have := ht13 m hm; omega) | exact disjC hw11 (fun m hm => by have := hw14 m hm; omega) | exact disjC hw11 (fun m hm => by have := ht14 m hm; omega) | exact disjC ht11 (fun m hm => by have := hw10 m hm; omega) | exact disjC ht11 (fun m hm => by have := ht10 m hm; omega) | exact disjC ht11 (fun m hm => by have := hw11 m hm; omega) | exact disjC ht11 (fun m hm => by have := hw12 m hm; omega) | exact disjC ht11 (fun m hm => by have := ht12 m hm; omega) | exact disjC ht11 (fun m hm => by have := hw13 m hm; omega) | exact disjC ht11 (fun m hm => by have := ht13 m hm; omega) | exact disjC ht11 (fun m hm => by have := hw14 m hm; omega) | exact disjC ht11 (fun m hm => by have := ht14 m hm; omega) | exact disjC hw12 (fun m hm => by have := hw10 m hm; omega) | exact disjC hw12 (fun m hm => by have := ht10 m hm; omega) | exact disjC hw12 (fun m hm => by have := hw11 m hm; omega) | exact disjC hw12 (fun m hm => by have := ht11 m hm; omega) | exact disjC hw12 (fun m hm => by have := ht12 m hm; omega) | exact disjC hw12 (fun m hm => by have := hw13 m hm; omega) | exact disjC hw12 (fun m hm => by have := ht13 m hm; omega) | exact disjC hw12 (fun m hm => by have := hw14 m hm; omega) | exact disjC hw12 (fun m hm => by have := ht14 m hm; omega) | exact disjC ht12 (fun m hm => by have := hw10 m hm; omega) | exact disjC ht12 (fun m hm => by have := ht10 m hm; omega) | exact disjC ht12 (fun m hm => by have := hw11 m hm; omega) | exact disjC ht12 (fun m hm => by have := ht11 m hm; omega) | exact disjC ht12 (fun m hm => by have := hw12 m hm; omega) | exact disjC ht12 (fun m hm => by have := hw13 m hm; omega) | exact disjC ht12 (fun m hm => by have := ht13 m hm; omega) | exact disjC ht12 (fun m hm => by have := hw14 m hm; omega) | exact disjC ht12 (fun m hm => by have := ht14 m hm; omega) | exact disjC hw13 (fun m hm => by have := hw10 m hm; omega) | exact disjC hw13 (fun m hm => by have := ht10 m hm; omega) | exact disjC hw13 (fun m hm => by have := hw11 m hm; omega) | exact disjC hw13 (fun m hm => by have := ht11 m hm; omega) | exact disjC hw13 (fun m hm => by have := hw12 m hm; omega) | exact disjC hw13 (fun m hm => by have := ht12 m hm; omega) | exact disjC hw13 (fun m hm => by have := ht13 m hm; omega) | exact disjC hw13 (fun m hm => by have := hw14 m hm; omega) | exact disjC hw13 (fun m hm => by have := ht14 m hm; omega) | exact disjC ht13 (fun m hm => by have := hw10 m hm; omega) | exact disjC ht13 (fun m hm => by have := ht10 m hm; omega) | exact disjC ht13 (fun m hm => by have := hw11 m hm; omega) | exact disjC ht13 (fun m hm => by have := ht11 m hm; omega) | exact disjC ht13 (fun m hm => by have := hw12 m hm; omega) | exact disjC ht13 (fun m hm => by have := ht12 m hm; omega) | exact disjC ht13 (fun m hm => by have := hw13 m hm; omega) | exact disjC ht13 (fun m hm => by have := hw14 m hm; omega) | exact disjC ht13 (fun m hm => by have := ht14 m hm; omega) | exact disjC hw14 (fun m hm => by have := hw10 m hm; omega) | exact disjC hw14 (fun m hm => by have := ht10 m hm; omega) | exact disjC hw14 (fun m hm => by have := hw11 m hm; omega) | exact disjC hw14 (fun m hm => by have := ht11 m hm; omega) | exact disjC hw14 (fun m hm => by have := hw12 m hm; omega) | exact disjC hw14 (fun m hm => by have := ht12 m hm; omega) | exact disjC hw14 (fun m hm => by have := hw13 m hm; omega) | exact disjC hw14 (fun m hm => by have := ht13 m hm; omega) | exact disjC hw14 (fun m hm => by have := ht14 m hm; omega) | exact disjC ht14 (fun m hm => by have := hw10 m hm; omega) | exact disjC ht14 (fun m hm => by have := ht10 m hm; omega) | exact disjC ht14 (fun m hm => by have := hw11 m hm; omega) | exact disjC ht14 (fun m hm => by have := ht11 m hm; omega) | exact disjC ht14 (fun m hm => by have := hw12 m hm; omega) | exact disjC ht14 (fun m hm => by have := ht12 m hm; omega) | exact disjC ht14 (fun m hm => by have := hw13 m hm; omega) | exact disjC ht14 (fun m hm => by have := ht13 m hm; omega) | exact disjC ht14 (fun m hm => by have := hw14 m hm; omega)))]
      exact hk _ _ g14
end
end Go.Ev.R

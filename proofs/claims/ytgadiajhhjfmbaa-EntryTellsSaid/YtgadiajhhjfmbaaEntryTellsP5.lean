/- The law EntryTells, part 5: what the functions answer, by their terms. No condition. -/
import Derived.Test.YtgadiajhhjfmbaaEntryTellsP4
set_option linter.unusedVariables false
set_option linter.unusedSimpArgs false
set_option maxRecDepth 100000
namespace Go.Ev.R
open Go Go.RowKit
noncomputable def Y83 (N : Nat) (C : CallT) (q0 : Nat) (v12 v5 : Value) (K : KV) (s : Nat) : AM := aalloc P 97 (fun v33 s => st 97 v33 v12 (fun _ s => yready q0 (fun s => fa 97 v33 1 (fun v34 s => ld 41 v34 (fun v35 s => C 81 [v35] (fun v36 s => fa 97 v33 1 (fun v37 s => st 41 v37 v36 (fun _ s => ld 78 v5 (fun v38 s => ld 97 v33 (fun v39 s => abuildSlice P 78 1 [(0, v39)] (fun v40 s => aappend P ⟨[78, 78]⟩ v38 v40 (fun v41 s => st 78 v5 v41 (fun _ s => yleave q0 K .fall [] [] s) s) s) s) s) s) s) s) s) s) s) s) s) s
theorem par83 : rPar 83 [1, 1, 0, 1, 0] = ⟨[11, 12]⟩ := by kernel_rfl
theorem rnd83 (C : CallT) (q0 : Nat) (v0 v1 v2 v3 v4 v5 v6 v7 v8 v9 v10 v11 v12 v13 v14 v15 v16 v17 v18 v19 v20 v21 : Value) (K : KV) (s : Nat) : yround P 100000 C q0 83 [v0, v1, v2, v3, v4, v5, v6, v7, v8, v9, v10, v11, v12, v13, v14, v15, v16, v17, v18, v19, v20, v21] (rAs 83 [1, 1, 0, 1, 0]) (rBody 83 [1, 1, 0, 1, 0]) K s = Y83 100000 C q0 v12 v5 K s := by kernel_rfl
theorem wp_rnd83 {N : Nat} (hN : N = 100000) {C : CallT} {pw : Nat → Prop} {Z : Value → T → Prop} {h : T} {l q : Nat} {v0 v1 v2 v3 v4 v5 v6 v7 v8 v9 v10 v11 v12 v13 v14 v15 v16 v17 v18 v19 v20 v21 x0 x1 : Value} {K : KV} {s : Nat} (hb : h.get l = some (.loop { state := .ready, pending := none, fn := 83, tmps := ⟨[v0, v1, v2, v3, v4, v5, v6, v7, v8, v9, v10, v11, v12, v13, v14, v15, v16, v17, v18, v19, v20, v21]⟩, params := rPar 83 [1, 1, 0, 1, 0], assign := rAs 83 [1, 1, 0, 1, 0], body := rBody 83 [1, 1, 0, 1, 0], defers := q })) : (yY P N C [.int .i64 (.ofNat l), x0, x1] K s).wp pw Z h = (Y83 N C l x1 v5 K s).wp pw Z h := by
  subst hN
  unfold yY
  dsimp only
  rw [wp_get, hb]
  dsimp only
  rw [par83]
  exact congrArg (fun m => AM.wp pw Z m h) (rnd83 C l v0 v1 v2 v3 v4 v5 v6 v7 v8 v9 v10 x0 x1 v13 v14 v15 v16 v17 v18 v19 v20 v21 K s)
theorem yit101 (C : CallT) (a b : Value) (l : Nat) (k : Nat → AM) (s : Nat) : yiter P C (.func (.func 101) ⟨[]⟩ ⟨[a, b]⟩) l k s = C 101 [.func (.yield l) ⟨[]⟩ ⟨[]⟩, a, b] (fun _ s => k s) s := by kernel_rfl
theorem st_78y (q : Option Addr) (m c n o : Nat) (k : Unit → Nat → AM) (s : Nat) : astoreAt P 78 (.pointer (some ⟨n, o, none⟩)) (.slice q m c) k s = aput n o [.slice q m c] k s := by kernel_rfl
abbrev rdy (fn : FuncId) (tm : Array Value) (pa : Array Tmp) (asg bo : Code) (df : Nat) : Obj := .loop { state := .ready, pending := none, fn := fn, tmps := tm, params := pa, assign := asg, body := bo, defers := df }
/-- A row's worth. -/
def rwC (x : RW) : Int × List Int × Int := (x.s, x.H, x.r)
/-- Rows that were made. -/
structure OwnR (h : T) (t : Nat) (p : Option Addr) (len : Nat) (l : List RW) : Prop where
  own : OwnG ER 97 h t p len l
  hs : ∀ y ∈ l, OwnI h t y.p y.n y.H
theorem OwnI.keepL {h h' : T} {x : Nat} {q : Loop} (hb : h.get x = some (.loop q)) (e : ∀ i, i ≠ x → h'.get i = h.get i) {s : Nat} {p : Option Addr} {len : Nat} {l : List Int} (o : OwnI h s p len l) : OwnI h' s p len l := by
  refine o.but fun hp => e _ fun he => ?_
  obtain ⟨hl, ⟨rfl, _⟩ | ⟨n, f, rfl, h1, hg, hff⟩⟩ := o
  · exact hp rfl
  · have he : n = x := he
    rw [he, hb] at hg; cases hg
theorem OwnR.keepL {h h' : T} {x : Nat} {q : Loop} (hb : h.get x = some (.loop q)) (e : ∀ i, i ≠ x → h'.get i = h.get i) {s : Nat} {p : Option Addr} {len : Nat} {l : List RW} (o : OwnR h s p len l) : OwnR h' s p len l :=
  ⟨OwnG.keepL hb e o.own, fun y hy => OwnI.keepL hb e (o.hs y hy)⟩
theorem OwnR.from {h h' : T} {s s0 s' : Nat} {p : Option Addr} {len : Nat} {l : List RW} (o : OwnR h s p len l) (hf : ∀ n, s0 ≤ n → h.get n = none) (g : From s0 h h' s') : OwnR h' s p len l :=
  ⟨o.own.from hf g, fun y hy => (o.hs y hy).from hf g⟩
theorem OwnI.apart {h : T} {s b : Nat} {p : Option Addr} {len : Nat} {l : List Int} (o : OwnI h s p len l) {c : Array Value} {t : TypeId} {f : Nat × Nat} (hb : h.get b = some (.cells c t f)) (ht : t ≠ 3) (hp : p ≠ none) : blk p ≠ b := by
  intro he
  obtain ⟨hl, ⟨rfl, _⟩ | ⟨n, f, rfl, h1, hg, hff⟩⟩ := o
  · exact hp rfl
  · have he : n = b := he
    rw [he, hb] at hg; cases hg; exact ht rfl
section
variable {N d : Nat}
/-- One round: a row more. -/
theorem y83 {h0 h : T} {s0 s t l ob fn df : Nat} {tm : Array Value} {pa : Array Tmp} {asg bo : Code} {pw : Nat → Prop} {Z : Value → T → Prop} {K : KV} (g : From s0 h0 h s) (hp : ∀ n, s0 ≤ n → pw n) (hl : h.get l = some (rdy fn tm pa asg bo df)) (hl0 : s0 ≤ l)
    {p : Option Addr} {len : Nat} {out : List RW} (hob : h.get ob = some (.cells ⟨[.slice p len len]⟩ 78 (0, 0))) (hob0 : s0 ≤ ob) (o : OwnR h t p len out) (ht : s0 ≤ t) (hts : t ≤ s) (hot : ob < t) (hlt : l < t) {x : RW} (hx : Sl EI h x.p x.n x.c x.H) (hxn : x.n ≤ 1000) (hlen : len ≤ 10000)
    (hk : ∀ p' x' h' s', From s0 h0 h' s' → s ≤ s' → h'.get l = some (rdy fn tm pa asg bo df) → h'.get ob = some (.cells ⟨[.slice p' (len + 1) (len + 1)]⟩ 78 (0, 0)) → OwnR h' t p' (len + 1) (out ++ [x']) → rwC x' = rwC x → (∀ i, i < t → i ≠ l → i ≠ ob → h'.get i = h.get i) → (K (.bool true) s').wp pw Z h') :
    (Y83 N (D N (d + 1)) l (.agg ⟨rwv x⟩) (ptr ob) K s).wp pw Z h := by
  have hne : ob ≠ l := fun e => by rw [e, hl] at hob; cases hob
  have ls := lt_of_some g.fresh ⟨_, hl⟩
  have los := lt_of_some g.fresh ⟨_, hob⟩
  have g0 := g.le
  have hbp : p ≠ none → blk p < s := fun hp => (o.own.lt g.fresh hp).2
  have hbh : ∀ y ∈ out, y.p ≠ none → blk y.p < s := fun y hy hp => ((o.hs y hy).lt g.fresh hp).2
  unfold Y83
  simp only [rwv]
  try simp (disch := first | assumption | omega | (simp only [Int.ofNat_eq_natCast, neg_one]; done) | (simp only [Int.ofNat_eq_natCast, neg_one]; omega)) only [tysW, wB, mB, Nat.reduceAdd, Nat.reduceMul, List.length_cons, List.length_nil]
  refine wp_boxA g hp fun h1 g1 c1 b1 => ?_
  try simp (disch := first | assumption | omega | (simp only [Int.ofNat_eq_natCast, neg_one]; done) | (simp only [Int.ofNat_eq_natCast, neg_one]; omega)) only [tysW, wB, mB, Nat.reduceAdd, Nat.reduceMul, List.length_cons, List.length_nil]
  refine wp_putF g1 hp b1 (by omega) (by simp) rfl fun h2 g2 b2 e2 => ?_
  simp only [overL] at b2
  have c2 : From s h h2 (s + 1) := ⟨by omega, fun n hn => by rw [e2 n (by omega), c1.keep n hn], g2.fresh⟩
  replace hl := c2.box hl ls
  replace hob := c2.box hob los
  replace hx := hx.from g.fresh c2
  replace o := o.from g.fresh c2
  unfold yready
  rw [wp_get, hl]
  dsimp only
  refine wp_putO g2 hp hl hl0 fun h3 g3 b3 e3 => ?_
  replace hob := (e3 ob hne).trans hob
  replace b2 := (e3 s (by omega)).trans b2
  replace hx : Sl EI h3 x.p x.n x.c x.H := hx.but fun hc => e3 _ fun he => by
    obtain ⟨c, tt, f, gg, h5, h6⟩ := hx.ok hc
    rw [he, hl] at h5; cases h5
  replace o := OwnR.keepL hl e3 o
  try simp (disch := first | assumption | omega | (simp only [Int.ofNat_eq_natCast, neg_one]; done) | (simp only [Int.ofNat_eq_natCast, neg_one]; omega)) only [tysW, wB, mB, Nat.reduceAdd, Nat.reduceMul, List.length_cons, List.length_nil, ldB b2, clB b2, ldBL b2, clBL b2]
  refine PureS.go g3 hp (s81o (d := d) g3.fresh hx (by omega)) fun v h4 s4 g4 c4 hv => ?_
  obtain ⟨p4, rfl, o4⟩ := hv
  have l4 := c4.le
  replace b2 := c4.box b2 (by omega)
  replace hob := c4.box hob (by omega)
  replace b3 := c4.box b3 (by omega)
  replace o := o.from g3.fresh c4
  try simp (disch := first | assumption | omega | (simp only [Int.ofNat_eq_natCast, neg_one]; done) | (simp only [Int.ofNat_eq_natCast, neg_one]; omega)) only [tysW, wB, mB, Nat.reduceAdd, Nat.reduceMul, List.length_cons, List.length_nil, ldB b2, clB b2, ldBL b2, clBL b2]
  refine wp_putF g4 hp b2 (by omega) (by simp) rfl fun h5 g5 b5 e5 => ?_
  simp only [overL] at b5
  replace hob := (e5 ob (by omega)).trans hob
  replace b3 := (e5 l (by omega)).trans b3
  replace o4 := o4.but fun hp => e5 _ (by have := o4.lt g4.fresh hp; omega)
  replace o : OwnR h5 t p len out := ⟨o.own.but fun hp => e5 _ (by have := hbp hp; omega), fun y hy => (o.hs y hy).but fun hp => e5 _ (by have := hbh y hy hp; omega)⟩
  try simp (disch := first | assumption | omega | (simp only [Int.ofNat_eq_natCast, neg_one]; done) | (simp only [Int.ofNat_eq_natCast, neg_one]; omega)) only [tysW, wB, mB, Nat.reduceAdd, Nat.reduceMul, List.length_cons, List.length_nil, ldB hob, clB hob, ldBL hob, clBL hob, ldB b5, clB b5, ldBL b5, clBL b5]
  refine wp_newF g5 hp fun h6 g6 c6 b6 => ?_
  replace hob := c6.box hob (by omega)
  replace b3 := c6.box b3 (by omega)
  replace o := o.from g5.fresh c6
  replace o4 := o4.from g5.fresh c6
  try simp (disch := first | assumption | omega | (simp only [Int.ofNat_eq_natCast, neg_one]; done) | (simp only [Int.ofNat_eq_natCast, neg_one]; omega)) only [tysW, wB, mB, Nat.reduceAdd, Nat.reduceMul, List.length_cons, List.length_nil]
  refine apG (E := ER) (el := 97) (t := t) g6 hp o.own ht (by omega) (Row.of_cells (E := ER) (l := [⟨x.s, p4, x.n, x.n, x.r, x.H⟩]) b6 rfl) (fun _ => rfl) (by omega) fun p7 h7 s7 g7 l7 o7 e7 => ?_
  have hpt : p ≠ none → t ≤ blk p := fun hp => (o.own.lt g6.fresh hp).1
  have hown : ∀ (y : RW), OwnI h6 t y.p y.n y.H → OwnI h7 t y.p y.n y.H := fun y oy => oy.but fun hp => e7 _ (oy.lt g6.fresh hp).2 fun hp2 => by
    obtain ⟨hl', ⟨h8, _⟩ | ⟨n', f, h8, h9, hg, hff⟩⟩ := o.own
    · exact absurd h8 hp2
    · subst h8
      exact OwnI.apart oy hg (by decide) hp
  replace hob := (e7 ob (by omega) fun hp => by have := hpt hp; omega).trans hob
  replace b3 := (e7 l (by omega) fun hp => by have := hpt hp; omega).trans b3
  try simp (disch := first | assumption | omega | (simp only [Int.ofNat_eq_natCast, neg_one]; done) | (simp only [Int.ofNat_eq_natCast, neg_one]; omega)) only [tysW, wB, mB, Nat.reduceAdd, Nat.reduceMul, List.length_cons, List.length_nil, st_78y]
  refine wp_putF g7 hp hob hob0 (by simp) rfl fun h8 g8 b8 e8 => ?_
  simp only [overL] at b8
  replace b3 := (e8 l (Ne.symm hne)).trans b3
  unfold yleave
  rw [wp_get, b3]
  dsimp only
  refine wp_putO g8 hp b3 hl0 fun h9 g9 b9 e9 => ?_
  have o8 : OwnR h8 t p7 (len + 1) (out ++ [⟨x.s, p4, x.n, x.n, x.r, x.H⟩]) := ⟨o7.but fun hp => e8 _ (by have := (o7.lt g7.fresh hp).1; omega), fun y hy => by
    have : OwnI h7 t y.p y.n y.H := by
      rcases List.mem_append.1 hy with hy | hy
      · exact hown y (o.hs y hy)
      · rw [List.mem_singleton.1 hy]
        exact hown ⟨x.s, p4, x.n, x.n, x.r, x.H⟩ (o4.less (by omega))
    exact this.but fun hp => e8 _ (by have := (this.lt g7.fresh hp).1; omega)⟩
  refine hk p7 _ h9 s7 g9 (by omega) b9 ((e9 ob hne).trans b8) (OwnR.keepL b3 e9 o8) rfl fun i hi h1 h2 => ?_
  rw [e9 i h1, e8 i h2, e7 i (by omega) fun hp => by have := hpt hp; omega, c6.keep i (by omega), e5 i (by omega), c4.keep i (by omega), e3 i h1, c2.keep i (by omega)]
theorem take_snoc {α : Type} {l : List α} {i : Nat} {x : α} (hx : l[i]? = some x) : l.take (i + 1) = l.take i ++ [x] := by rw [List.take_add_one, hx]; rfl
theorem MoAt.low {h h' : T} {s : Nat} {m : MO} (x : MoAt h m) (hf : ∀ n, s ≤ n → h.get n = none) (e : ∀ i, i < s → h'.get i = h.get i) : MoAt h' m :=
  ⟨x.a.but fun hc => e _ (x.a.lt hf hc), x.q.but fun hc => e _ (x.q.lt hf hc), ⟨x.r.1, x.r.2.of_eq fun hm => e _ ((x.r.2.below hf).resolve_left hm)⟩, fun y hy => (x.hs y hy).but fun hc => e _ ((x.hs y hy).lt hf hc)⟩
/-- The rows of a sensor handed on. -/
theorem s101 (hN : N = 100000) {h0 h : T} {s0 s l ob bm bx fn df b0 : Nat} {tm : Array Value} {pa : Array Tmp} {asg bo : Code} {pw : Nat → Prop} {Z : Value → T → Prop} {K : KV} (g : From s0 h0 h s) (hp : ∀ n, s0 ≤ n → pw n) (hl : h.get l = some (rdy fn tm pa asg bo df)) (hl0 : s0 ≤ l)
    (hrd : ∀ (C : CallT) (h : T) (x0 x1 : Value) (K : KV) (s : Nat), h.get l = some (rdy fn tm pa asg bo df) → (yY P N C [.int .i64 (.ofNat l), x0, x1] K s).wp pw Z h = (Y83 N C l x1 (ptr ob) K s).wp pw Z h)
    {m : MO} (x : ∀ h', (∀ i, i < b0 → h'.get i = h.get i) → MoAt h' m) (hbl : b0 ≤ l) (hbo : b0 ≤ ob) (hb0 : b0 ≤ s) (sm : MoSm m) {sn : Int} (hbm : h.get bm = some (.cells ⟨mov m⟩ 80 (0, 0))) (hbx : h.get bx = some (.cells ⟨[vi sn]⟩ 3 (0, 0))) (hob : h.get ob = some (.cells ⟨[.slice none 0 0]⟩ 78 (0, 0))) (hob0 : s0 ≤ ob)
    (hk : ∀ p' out h' s', From s0 h0 h' s' → s ≤ s' → h'.get l = some (rdy fn tm pa asg bo df) → h'.get ob = some (.cells ⟨[.slice p' out.length out.length]⟩ 78 (0, 0)) → OwnR h' s p' out.length out → out.map rwC = (m.R.filter (fun y => decide (y.s = sn))).map rwC → (∀ i, i < s → i ≠ l → i ≠ ob → h'.get i = h.get i) → (K (.tuple ⟨[]⟩) s').wp pw Z h') :
    (D N (d + 3) 101 [.func (.yield l) ⟨[]⟩ ⟨[]⟩, ptr bm, ptr bx] K s).wp pw Z h := by
  have n1 : bm ≠ ob := fun e => by rw [e, hob] at hbm; simp [mov] at hbm
  have n2 : bx ≠ ob := fun e => by rw [e, hob] at hbx; simp at hbx
  have n3 : bm ≠ l := fun e => by rw [e, hl] at hbm; cases hbm
  have n4 : bx ≠ l := fun e => by rw [e, hl] at hbx; cases hbx
  have ls := lt_of_some g.fresh ⟨_, hl⟩
  have lbm := lt_of_some g.fresh ⟨_, hbm⟩
  have lbx := lt_of_some g.fresh ⟨_, hbx⟩
  have lob := lt_of_some g.fresh ⟨_, hob⟩
  have g0 := g.le
  have sr := sm.r
  rw [D_101]; unfold F101; rw [app3_eq]
  have hbm' := hbm
  simp only [mov] at hbm
  try simp (disch := first | assumption | omega | (simp only [Int.ofNat_eq_natCast, neg_one]; done) | (simp only [Int.ofNat_eq_natCast, neg_one]; omega)) only [tysW, wB, mB, Nat.reduceAdd, Nat.reduceMul, List.length_cons, List.length_nil, ldB hbm, clB hbm, ldBL hbm, clBL hbm]
  have loop : ∀ (B : (Value → Nat → AM) → Value → Nat → AM) (hB : ∀ H i s', B H i s' = X101_1 N (D N (d + 2)) K (vi m.nR) (.slice m.pR m.nR m.cR) (ptr bx) (.func (.yield l) ⟨[]⟩ ⟨[]⟩) H i s') (q i : Nat) (p1 : Option Addr) (out : List RW) (h1 : T) (s1 : Nat), m.nR - i < q → i ≤ m.nR → From s0 h0 h1 s1 → s ≤ s1 → h1.get l = some (rdy fn tm pa asg bo df) → h1.get ob = some (.cells ⟨[.slice p1 out.length out.length]⟩ 78 (0, 0)) → OwnR h1 s p1 out.length out → out.length ≤ i → out.map rwC = ((m.R.take i).filter (fun y => decide (y.s = sn))).map rwC → (∀ i, i < s → i ≠ l → i ≠ ob → h1.get i = h.get i) →
      (loopJ q 1 (fun _ _ => AM.fail) B (vi i) s1).wp pw Z h1 := by
    intro B hB q
    induction q with
    | zero => intro i p1 out h1 s1 hm; omega
    | succ q ih =>
      intro i p1 out h1 s1 hm hi g1 hs1 hl1 hob1 o1 hle he e1
      have hbx1 := (e1 bx lbx n4 n2).trans hbx
      have x1 : MoAt h1 m := x h1 fun j hj => e1 j (by omega) (by omega) (by omega)
      rw [loopJ_succ, hB]
      unfold X101_1
      by_cases hlt : i < m.nR
      · obtain ⟨y, hy⟩ := get_some (l := m.R) (i := i) (by rw [x1.r.1]; omega)
        have ym := List.mem_of_getElem? hy
        have et : ((m.R.take (i + 1)).filter (fun y => decide (y.s = sn))).map rwC = out.map rwC ++ ([y].filter (fun y => decide (y.s = sn))).map rwC := by rw [take_snoc hy, List.filter_append, List.map_append, he]
        try simp (disch := first | assumption | omega | (simp only [Int.ofNat_eq_natCast, neg_one]; done) | (simp only [Int.ofNat_eq_natCast, neg_one]; omega)) only [tysW, wB, mB, Nat.reduceAdd, Nat.reduceMul, List.length_cons, List.length_nil, xaR x1.r (j := (i : Int)) (by omega) (by omega), rwA x1.r hy]
        simp only [rwv]
        try simp (disch := first | assumption | omega | (simp only [Int.ofNat_eq_natCast, neg_one]; done) | (simp only [Int.ofNat_eq_natCast, neg_one]; omega)) only [tysW, wB, mB, Nat.reduceAdd, Nat.reduceMul, List.length_cons, List.length_nil]
        refine wp_boxA g1 hp fun h2 g2 c2 b2 => ?_
        try simp (disch := first | assumption | omega | (simp only [Int.ofNat_eq_natCast, neg_one]; done) | (simp only [Int.ofNat_eq_natCast, neg_one]; omega)) only [tysW, wB, mB, Nat.reduceAdd, Nat.reduceMul, List.length_cons, List.length_nil]
        refine wp_putF g2 hp b2 (by omega) (by simp) rfl fun h3 g3 b3 e3 => ?_
        simp only [overL] at b3
        have c3 : From s1 h1 h3 (s1 + 1) := ⟨by omega, fun n hn => by rw [e3 n (by omega), c2.keep n hn], g3.fresh⟩
        replace hbx1 := c3.box hbx1 (by omega)
        by_cases hsn : y.s = sn
        · try simp (disch := first | assumption | omega | (simp only [Int.ofNat_eq_natCast, neg_one]; done) | (simp only [Int.ofNat_eq_natCast, neg_one]; omega)) only [tysW, wB, mB, Nat.reduceAdd, Nat.reduceMul, List.length_cons, List.length_nil, ldB b3, clB b3, ldBL b3, clBL b3, ldB hbx1, clB hbx1, ldBL hbx1, clBL hbx1]
          rw [iy2, D_Y, hrd _ _ _ _ _ _ (c3.box hl1 (by omega))]
          have x3 := x1.from g1.fresh c3
          refine y83 (d := d) (t := s) g3 hp (c3.box hl1 (by omega)) hl0 (c3.box hob1 (by omega)) hob0 (o1.from g1.fresh c3) g0 (by omega) lob ls (x3.hs y ym) (by have := sm.hs y ym; omega) (by omega) fun p4 x4 h4 s4 g4 l4 hl4 hob4 o4 r4 e4 => ?_
          try simp (disch := first | assumption | omega | (simp only [Int.ofNat_eq_natCast, neg_one]; done) | (simp only [Int.ofNat_eq_natCast, neg_one]; omega)) only [tysW, wB, mB, Nat.reduceAdd, Nat.reduceMul, List.length_cons, List.length_nil]
          refine ih (i + 1) p4 (out ++ [x4]) h4 s4 (by omega) (by omega) g4 (by omega) hl4 (by rw [List.length_append]; exact hob4) (by rw [List.length_append]; exact o4) (by rw [List.length_append]; show out.length + 1 ≤ i + 1; omega) ?_ fun j h5 h6 h7 => ?_
          · rw [et, List.map_append, List.filter_cons_of_pos (by simpa using hsn)]
            simp [r4]
          · rw [e4 j h5 h6 h7, c3.keep j (by omega), e1 j h5 h6 h7]
        · try simp (disch := first | assumption | omega | (simp only [Int.ofNat_eq_natCast, neg_one]; done) | (simp only [Int.ofNat_eq_natCast, neg_one]; omega)) only [tysW, wB, mB, Nat.reduceAdd, Nat.reduceMul, List.length_cons, List.length_nil, ldB b3, clB b3, ldBL b3, clBL b3, ldB hbx1, clB hbx1, ldBL hbx1, clBL hbx1]
          refine ih (i + 1) p1 out h3 (s1 + 1) (by omega) (by omega) g3 (by omega) (c3.box hl1 (by omega)) (c3.box hob1 (by omega)) (o1.from g1.fresh c3) (by omega) ?_ fun j h5 h6 h7 => ?_
          · rw [et, List.filter_cons_of_neg (by simpa using hsn)]
            simp
          · rw [c3.keep j (by omega), e1 j h5 h6 h7]
      · obtain rfl : i = m.nR := by omega
        try simp (disch := first | assumption | omega | (simp only [Int.ofNat_eq_natCast, neg_one]; done) | (simp only [Int.ofNat_eq_natCast, neg_one]; omega)) only [tysW, wB, mB, Nat.reduceAdd, Nat.reduceMul, List.length_cons, List.length_nil]
        rw [List.take_of_length_le (by rw [x1.r.1]; exact Nat.le_refl _)] at he
        exact hk p1 out h1 s1 g1 hs1 hl1 hob1 o1 he e1
  exact loop _ (fun _ _ _ => rfl) N 0 none [] h s (by omega) (by omega) g (Nat.le_refl _) hl hob ⟨OwnG.nil, fun y hy => by cases hy⟩ (by simp) rfl fun _ _ _ _ => rfl
theorem s98 {h : T} {s : Nat} (hf : ∀ n, s ≤ n → h.get n = none) (m : MO) (sn : Int) : PureS (D N (d + 1)) 98 [.agg ⟨mov m⟩, vi sn] h s (fun v h' s' => ∃ bm bx, v = .func (.func 101) ⟨[]⟩ ⟨[ptr bm, ptr bx]⟩ ∧ s ≤ bm ∧ s ≤ bx ∧ h'.get bm = some (.cells ⟨mov m⟩ 80 (0, 0)) ∧ h'.get bx = some (.cells ⟨[vi sn]⟩ 3 (0, 0))) := by
  refine PureS.of hf fun K pw Z g hp hk => ?_
  rw [D_98]; unfold F98; rw [app2_eq]
  refine wp_boxA g hp fun h1 g1 c1 b1 => ?_
  refine wp_box1 rfl g1 hp fun h2 g2 c2 b2 => ?_
  replace b1 := c2.box b1 (by omega)
  try simp (disch := first | assumption | omega | (simp only [Int.ofNat_eq_natCast, neg_one]; done) | (simp only [Int.ofNat_eq_natCast, neg_one]; omega)) only [tysW, wB, mB, Nat.reduceAdd, Nat.reduceMul, List.length_cons, List.length_nil]
  exact hk _ _ _ g2 ⟨s, s + 1, rfl, Nat.le_refl _, by omega, b1, b2⟩
theorem s83 (hN : N = 100000) {h : T} {s : Nat} (hf : ∀ n, s ≤ n → h.get n = none) {m : MO} (x : MoAt h m) (sm : MoSm m) (sn : Int) : PureS (D N (d + 4)) 83 [.agg ⟨mov m⟩, vi sn] h s (fun v h' s' => ∃ p out, v = .slice p out.length out.length ∧ OwnR h' s p out.length out ∧ out.map rwC = (m.R.filter (fun y => decide (y.s = sn))).map rwC) := by
  refine PureS.of hf fun K pw Z g hp hk => ?_
  rw [D_83]; unfold F83; rw [app2_eq]
  refine wp_boxA g hp fun h1 g1 c1 b1 => ?_
  have b1' := b1
  simp only [mov] at b1
  try simp (disch := first | assumption | omega | (simp only [Int.ofNat_eq_natCast, neg_one]; done) | (simp only [Int.ofNat_eq_natCast, neg_one]; omega)) only [tysW, wB, mB, Nat.reduceAdd, Nat.reduceMul, List.length_cons, List.length_nil]
  refine wp_box1 rfl g1 hp fun h2 g2 c2 b2 => ?_
  replace b1 := c2.box b1 (by omega)
  try simp (disch := first | assumption | omega | (simp only [Int.ofNat_eq_natCast, neg_one]; done) | (simp only [Int.ofNat_eq_natCast, neg_one]; omega)) only [tysW, wB, mB, Nat.reduceAdd, Nat.reduceMul, List.length_cons, List.length_nil, ldB b1, clB b1, ldBL b1, clBL b1]
  refine PureS.go g2 hp (s98 (d := d + 2) g2.fresh m sn) fun v h4 s4 g4 c4 hv => ?_
  obtain ⟨bm, bx, rfl, hbm0, hbx0, hbm, hbx⟩ := hv
  have l4 := c4.le
  replace b2 := c4.box b2 (by omega)
  unfold yloopN
  refine wp_newO g4 hp fun h5 g5 c5 b5 => ?_
  refine wp_newO g5 hp fun h6 g6 c6 b6 => ?_
  replace b5 := c6.box b5 (by omega)
  have c56 := c5.trans c6
  replace b2 := c56.box b2 (by omega)
  replace hbm := c56.box hbm (lt_of_some g4.fresh ⟨_, hbm⟩)
  replace hbx := c56.box hbx (lt_of_some g4.fresh ⟨_, hbx⟩)
  rw [yit101]
  refine s101 (d := d) (b0 := s) hN g6 hp b6 (by omega) (fun C h x0 x1 K s hb => wp_rnd83 hN hb) (fun h' e' => x.low hf fun i hi => (e' i hi).trans (g6.keep i hi)) (by omega) (by omega) (by omega) sm hbm hbx b2 (by omega) fun p7 out h7 s7 g7 l7 hl7 hob7 o7 he e7 => ?_
  unfold yend
  rw [wp_get, hl7]
  dsimp only
  refine wp_putO g7 hp hl7 (by omega) fun h8 g8 b8 e8 => ?_
  have hob8 := (e8 (s + 1) (by omega)).trans hob7
  have hde8 := (e8 s4 (by omega)).trans ((e7 s4 (by omega) (by omega) (by omega)).trans b5)
  have o8 := OwnR.keepL hl7 e8 o7
  try simp (disch := first | assumption | omega | (simp only [Int.ofNat_eq_natCast, neg_one]; done) | (simp only [Int.ofNat_eq_natCast, neg_one]; omega)) only [tysW, wB, mB, Nat.reduceAdd, Nat.reduceMul, List.length_cons, List.length_nil, ldB hob8, clB hob8, ldBL hob8, clBL hob8]
  refine yret1 g8 hp hde8 (by omega) fun h12 g12 e12 => ?_
  have big : ∀ i, s4 + 1 + 1 ≤ i → h12.get i = h8.get i := fun i hi => e12 i (by omega)
  refine hk _ _ _ g12 ⟨p7, out, rfl, ⟨(o8.own.but fun hp => big _ (o8.own.lt g8.fresh hp).1).less (by omega), fun y hy => ((o8.hs y hy).but fun hp => big _ ((o8.hs y hy).lt g8.fresh hp).1).less (by omega)⟩, he⟩
theorem s71 (hN : N = 100000) {h : T} {s : Nat} (hf : ∀ n, s ≤ n → h.get n = none) {m : MO} (x : MoAt h m) (sm : MoSm m) (sn : Int) : ValS (D N (d + 5)) 71 [.agg ⟨mov m⟩, vi sn] h s (vi ((m.R.filter (fun y => decide (y.s = sn))).length : Nat)) := by
  refine ValS.of hf fun K pw Z g hp hk => ?_
  rw [D_71]; unfold F71; rw [app2_eq]
  refine wp_boxA g hp fun h1 g1 c1 b1 => ?_
  simp only [mov] at b1
  try simp (disch := first | assumption | omega | (simp only [Int.ofNat_eq_natCast, neg_one]; done) | (simp only [Int.ofNat_eq_natCast, neg_one]; omega)) only [tysW, wB, mB, Nat.reduceAdd, Nat.reduceMul, List.length_cons, List.length_nil, ldB b1, clB b1, ldBL b1, clBL b1]
  refine PureS.go g1 hp (s83 (d := d) hN g1.fresh (x.from hf g1) sm sn) fun v h2 s2 g2 c2 hv => ?_
  obtain ⟨p, out, rfl, ho, he⟩ := hv
  have := congrArg List.length he
  rw [List.length_map, List.length_map] at this
  try simp (disch := first | assumption | omega | (simp only [Int.ofNat_eq_natCast, neg_one]; done) | (simp only [Int.ofNat_eq_natCast, neg_one]; omega)) only [tysW, wB, mB, Nat.reduceAdd, Nat.reduceMul, List.length_cons, List.length_nil]
  rw [this]
  exact hk _ _ g2
end
end Go.Ev.R
namespace Go.Ev.R
open Go Go.RowKit
section
variable {N d : Nat} (hN : N = 100000) {h : T} {s : Nat} (hf : ∀ n, s ≤ n → h.get n = none)
include hN hf
set_option maxHeartbeats 1000000 in
theorem s96 {m : MO} (x : MoAt h m) (sm : MoSm m) (sn : Int) : PureS (D N (d + 1)) 96 [.agg ⟨mov m⟩, vi sn] h s (fun v h' s' => ∃ p out, v = .slice p out.length out.length ∧ OwnR h' s p out.length out ∧ out.map rwC = (m.R.filter (fun y => decide (y.s = sn))).map rwC) := by
  refine PureS.of hf fun K pw Z g hp hk => ?_
  rw [D_96]; unfold F96; rw [app2_eq]
  refine wp_boxA g hp fun h1 g1 c1 b1 => ?_
  have sr := sm.r
  simp only [mov] at b1
  try simp (disch := first | assumption | omega | (simp only [Int.ofNat_eq_natCast, neg_one]; done) | (simp only [Int.ofNat_eq_natCast, neg_one]; omega)) only [tysW, wB, mB, Nat.reduceAdd, Nat.reduceMul, List.length_cons, List.length_nil]
  have loop : ∀ (B : (Value → Value → Nat → AM) → Value → Value → Nat → AM) (hB : ∀ H u i s', B H u i s' = X96_1 N (D N d) K (ptr s) (vi sn) (fun v4 s => K v4 s) H u i s') (q i : Nat) (p1 : Option Addr) (out : List RW) (h2 : T) (s2 : Nat), m.nR - i < q → i ≤ m.nR → From s h h2 s2 → From (s + 1) h1 h2 s2 → OwnR h2 (s + 1) p1 out.length out → out.length ≤ i → out.map rwC = ((m.R.take i).filter (fun y => decide (y.s = sn))).map rwC →
      (loopJ q 2 (fun _ _ _ => AM.fail) B (.slice p1 out.length out.length) (vi i) s2).wp pw Z h2 := by
    intro B hB q
    induction q with
    | zero => intro i p1 out h2 s2 hm; omega
    | succ q ih =>
      intro i p1 out h2 s2 hm hi g2 c2 o2 hle he
      have b2 := c2.box b1 (by omega)
      have x2 := x.from hf g2
      have l2 := c2.le
      rw [loopJ_succ, hB]
      unfold X96_1
      by_cases hlt : i < m.nR
      · obtain ⟨y, hy⟩ := get_some (l := m.R) (i := i) (by rw [x2.r.1]; omega)
        have ym := List.mem_of_getElem? hy
        have et : ((m.R.take (i + 1)).filter (fun y => decide (y.s = sn))).map rwC = out.map rwC ++ ([y].filter (fun y => decide (y.s = sn))).map rwC := by rw [take_snoc hy, List.filter_append, List.map_append, he]
        by_cases hsn : y.s = sn
        · try simp (disch := first | assumption | omega | (simp only [Int.ofNat_eq_natCast, neg_one]; done) | (simp only [Int.ofNat_eq_natCast, neg_one]; omega)) only [tysW, wB, mB, Nat.reduceAdd, Nat.reduceMul, List.length_cons, List.length_nil, ldB b2, clB b2, ldBL b2, clBL b2, xaR x2.r (j := (i : Int)) (by omega) (by omega), rwS x2.r hy, rwA x2.r hy]
          simp only [rwv]
          refine wp_boxA g2 hp fun h3 g3 c3 b3 => ?_
          try simp (disch := first | assumption | omega | (simp only [Int.ofNat_eq_natCast, neg_one]; done) | (simp only [Int.ofNat_eq_natCast, neg_one]; omega)) only [tysW, wB, mB, Nat.reduceAdd, Nat.reduceMul, List.length_cons, List.length_nil]
          refine wp_putF g3 hp b3 (by omega) (by simp) rfl fun h4 g4 b4 e4 => ?_
          simp only [overL] at b4
          have c4 : From s2 h2 h4 (s2 + 1) := ⟨by omega, fun n hn => by rw [e4 n (by omega), c3.keep n hn], g4.fresh⟩
          try simp (disch := first | assumption | omega | (simp only [Int.ofNat_eq_natCast, neg_one]; done) | (simp only [Int.ofNat_eq_natCast, neg_one]; omega)) only [tysW, wB, mB, Nat.reduceAdd, Nat.reduceMul, List.length_cons, List.length_nil]
          refine wp_newF g4 hp fun h5 g5 c5 b5 => ?_
          replace b4 := c5.box b4 (by omega)
          have x5 := x2.from g2.fresh (c4.trans c5)
          have o5 := o2.from g2.fresh (c4.trans c5)
          have yn := sm.hs y ym
          try simp (disch := first | assumption | omega | (simp only [Int.ofNat_eq_natCast, neg_one]; done) | (simp only [Int.ofNat_eq_natCast, neg_one]; omega)) only [tysW, wB, mB, Nat.reduceAdd, Nat.reduceMul, List.length_cons, List.length_nil, ldB b4, clB b4, ldBL b4, clBL b4]
          refine cpI g5 hp b5 (by omega) (x5.hs y ym).row (by omega) fun p6 h6 s6 g6 l6 e6 o6 => ?_
          replace b4 := (e6 s2 (by omega) (by omega)).trans b4
          have o6' : OwnR h6 (s + 1) p1 out.length out := ⟨o5.own.but fun hp => e6 _ (o5.own.lt g5.fresh hp).2 (by have := (o2.own.lt g2.fresh hp).2; omega), fun z hz => (o5.hs z hz).but fun hp => e6 _ ((o5.hs z hz).lt g5.fresh hp).2 (by have := ((o2.hs z hz).lt g2.fresh hp).2; omega)⟩
          try simp (disch := first | assumption | omega | (simp only [Int.ofNat_eq_natCast, neg_one]; done) | (simp only [Int.ofNat_eq_natCast, neg_one]; omega)) only [tysW, wB, mB, Nat.reduceAdd, Nat.reduceMul, List.length_cons, List.length_nil, ldB b4, clB b4, ldBL b4, clBL b4]
          refine wp_putF g6 hp b4 (by omega) (by simp) rfl fun h7 g7 b7 e7 => ?_
          simp only [overL] at b7
          have o7 : OwnR h7 (s + 1) p1 out.length out := ⟨o6'.own.but fun hp => e7 _ (by have := (o2.own.lt g2.fresh hp).2; omega), fun z hz => (o6'.hs z hz).but fun hp => e7 _ (by have := ((o2.hs z hz).lt g2.fresh hp).2; omega)⟩
          have oy := o6.but fun hp => e7 _ (by have := o6.lt g6.fresh hp; omega)
          try simp (disch := first | assumption | omega | (simp only [Int.ofNat_eq_natCast, neg_one]; done) | (simp only [Int.ofNat_eq_natCast, neg_one]; omega)) only [tysW, wB, mB, Nat.reduceAdd, Nat.reduceMul, List.length_cons, List.length_nil, ldB b7, clB b7, ldBL b7, clBL b7]
          refine wp_newF g7 hp fun h8 g8 c8 b8 => ?_
          have o8 := o7.from g7.fresh c8
          have oy8 := oy.from g7.fresh c8
          try simp (disch := first | assumption | omega | (simp only [Int.ofNat_eq_natCast, neg_one]; done) | (simp only [Int.ofNat_eq_natCast, neg_one]; omega)) only [tysW, wB, mB, Nat.reduceAdd, Nat.reduceMul, List.length_cons, List.length_nil]
          refine apG (E := ER) (el := 97) (t := s + 1) g8 hp o8.own (by omega) (by omega) (Row.of_cells (E := ER) (l := [⟨y.s, p6, y.n, y.n, y.r, y.H⟩]) b8 rfl) (fun _ => rfl) (by omega) fun p9 h9 s9 g9 l9 o9 e9 => ?_
          have hown : ∀ (z : RW), OwnI h8 (s + 1) z.p z.n z.H → OwnI h9 (s + 1) z.p z.n z.H := fun z oz => oz.but fun hp => e9 _ (oz.lt g8.fresh hp).2 fun hp2 => by
            obtain ⟨hl', ⟨h8', _⟩ | ⟨n', f, h8', h9', hg, hff⟩⟩ := o8.own
            · exact absurd h8' hp2
            · subst h8'
              exact OwnI.apart oz hg (by decide) hp
          have c29 : From (s + 1) h1 h9 s9 := ⟨by omega, fun n hn => by rw [e9 n (by omega) (fun hp => by have := (o8.own.lt g8.fresh hp).1; omega), c8.keep n (by omega), e7 n (by omega), e6 n (by omega) (by omega), c5.keep n (by omega), c4.keep n (by omega), c2.keep n hn], g9.fresh⟩
          try simp (disch := first | assumption | omega | (simp only [Int.ofNat_eq_natCast, neg_one]; done) | (simp only [Int.ofNat_eq_natCast, neg_one]; omega)) only [tysW, wB, mB, Nat.reduceAdd, Nat.reduceMul, List.length_cons, List.length_nil]
          have el : out.length + 1 = (out ++ [(⟨y.s, p6, y.n, y.n, y.r, y.H⟩ : RW)]).length := by rw [List.length_append]; rfl
          rw [el] at o9 ⊢
          refine ih (i + 1) p9 (out ++ [⟨y.s, p6, y.n, y.n, y.r, y.H⟩]) h9 s9 (by omega) (by omega) g9 c29 ⟨o9, fun z hz => ?_⟩ (by omega) ?_
          · rcases List.mem_append.1 hz with hz | hz
            · exact hown z (o8.hs z hz)
            · rw [List.mem_singleton.1 hz]
              exact hown ⟨y.s, p6, y.n, y.n, y.r, y.H⟩ (oy8.less (by omega))
          · rw [et, List.map_append, List.filter_cons_of_pos (by simpa using hsn)]
            rfl
        · try simp (disch := first | assumption | omega | (simp only [Int.ofNat_eq_natCast, neg_one]; done) | (simp only [Int.ofNat_eq_natCast, neg_one]; omega)) only [tysW, wB, mB, Nat.reduceAdd, Nat.reduceMul, List.length_cons, List.length_nil, ldB b2, clB b2, ldBL b2, clBL b2, xaR x2.r (j := (i : Int)) (by omega) (by omega), rwS x2.r hy]
          refine ih (i + 1) p1 out h2 s2 (by omega) (by omega) g2 c2 o2 (by omega) ?_
          rw [et, List.filter_cons_of_neg (by simpa using hsn)]
          simp
      · obtain rfl : i = m.nR := by omega
        try simp (disch := first | assumption | omega | (simp only [Int.ofNat_eq_natCast, neg_one]; done) | (simp only [Int.ofNat_eq_natCast, neg_one]; omega)) only [tysW, wB, mB, Nat.reduceAdd, Nat.reduceMul, List.length_cons, List.length_nil, ldB b2, clB b2, ldBL b2, clBL b2]
        rw [List.take_of_length_le (by rw [x2.r.1]; exact Nat.le_refl _)] at he
        exact hk _ _ _ g2 ⟨p1, out, rfl, ⟨o2.own.less (by omega), fun z hz => (o2.hs z hz).less (by omega)⟩, he⟩
  exact loop _ (fun _ _ _ _ => rfl) N 0 none [] h1 (s + 1) (by omega) (by omega) g1 (.refl g1.fresh) ⟨OwnG.nil, fun y hy => by cases hy⟩ (by simp) rfl
theorem s76 {m : MO} (x : MoAt h m) (sm : MoSm m) (sn : Int) : ValS (D N (d + 2)) 76 [.agg ⟨mov m⟩, vi sn] h s (vi ((m.R.filter (fun y => decide (y.s = sn))).length : Nat)) := by
  refine ValS.of hf fun K pw Z g hp hk => ?_
  rw [D_76]; unfold F76; rw [app2_eq]
  refine wp_boxA g hp fun h1 g1 c1 b1 => ?_
  simp only [mov] at b1
  try simp (disch := first | assumption | omega | (simp only [Int.ofNat_eq_natCast, neg_one]; done) | (simp only [Int.ofNat_eq_natCast, neg_one]; omega)) only [tysW, wB, mB, Nat.reduceAdd, Nat.reduceMul, List.length_cons, List.length_nil, ldB b1, clB b1, ldBL b1, clBL b1]
  refine PureS.go g1 hp (s96 (d := d) hN g1.fresh (x.from hf g1) sm sn) fun v h2 s2 g2 c2 hv => ?_
  obtain ⟨p, out, rfl, ho, he⟩ := hv
  have := congrArg List.length he
  rw [List.length_map, List.length_map] at this
  try simp (disch := first | assumption | omega | (simp only [Int.ofNat_eq_natCast, neg_one]; done) | (simp only [Int.ofNat_eq_natCast, neg_one]; omega)) only [tysW, wB, mB, Nat.reduceAdd, Nat.reduceMul, List.length_cons, List.length_nil]
  rw [this]
  exact hk _ _ g2
end
end Go.Ev.R
namespace Go.Ev.R
open Go Go.RowKit
def dimM (m : MO) (sn : Int) : Nat := (m.R.filter (fun y => decide (y.s = sn))).length
open Classical in
noncomputable def errD (e : EN) : Int := if ∃ z ∈ e.data, farD z then 4 else 0
open Classical in
noncomputable def errC (m : MO) (e : EN) : Int := if (e.inp = true ∧ ¬ (e.data.length : Int) = m.n) ∨ (e.inp = false ∧ ¬ (e.data.length : Int) = (dimM m e.k.b : Int)) then 9 else errD e
open Classical in
noncomputable def errB (m : MO) (e : EN) : Int := if e.k.a < 0 ∨ 1099511627776 < e.k.a ∨ e.k.c < 0 ∨ 2147483647 < e.k.c then 4 else errC m e
open Classical in
noncomputable def errA (m : MO) (e : EN) : Int := if e.k.b < 1 ∨ 16 < e.k.b ∨ (e.inp = false ∧ (dimM m e.k.b : Int) = 0) then 8 else errB m e
open Classical in
/-- Why an entry may not be. -/
noncomputable def errE (m : MO) (e : EN) : Int := if modOK m then errA m e else 2
section
variable {N d : Nat} (hN : N = 100000) {h : T} {s : Nat} (hf : ∀ n, s ≤ n → h.get n = none)
include hN hf
set_option maxHeartbeats 2000000 in
theorem s48 {m : MO} (x : MoAt h m) (sm : MoSm m) (e : EN) {p : Option Addr} {c : Nat} (r : Sl EI h p e.data.length c e.data) (hl : e.data.length ≤ 1000) : ValS (D N (d + 7)) 48 [.agg ⟨mov m⟩, eval e p c] h s (vi (errE m e)) := by
  refine ValS.of hf fun K pw Z g hp hk => ?_
  rw [D_48]; unfold F48; rw [app2_eq]
  unfold X48_5
  refine wp_boxA g hp fun h1 g1 c1 b1 => ?_
  refine wp_boxA g1 hp fun h2 g2 c2 b2 => ?_
  replace b1 := c2.box b1 (by omega)
  simp only [ev] at b2
  have b1' := b1
  simp only [mov] at b1
  try simp (disch := first | assumption | omega | (simp only [Int.ofNat_eq_natCast, neg_one]; done) | (simp only [Int.ofNat_eq_natCast, neg_one]; omega)) only [tysW, wB, mB, Nat.reduceAdd, Nat.reduceMul, List.length_cons, List.length_nil, ldB b1, clB b1, ldBL b1, clBL b1, ldB b2, clB b2, ldBL b2, clBL b2]
  refine ValS.go g2 hp (s71 (d := d + 1) hN g2.fresh (x.from hf g2) sm e.k.b) fun h3 s3 g3 c3 => ?_
  replace b1 := c3.box b1 (by omega)
  replace b2 := c3.box b2 (by omega)
  have l3 := c3.le
  try simp (disch := first | assumption | omega | (simp only [Int.ofNat_eq_natCast, neg_one]; done) | (simp only [Int.ofNat_eq_natCast, neg_one]; omega)) only [tysW, wB, mB, Nat.reduceAdd, Nat.reduceMul, List.length_cons, List.length_nil, ldB b1, clB b1, ldBL b1, clBL b1]
  refine PureS.go g3 hp (s73 (d := d) (by omega) g3.fresh (x.from hf g3) sm) fun v h4 s4 g4 c4 hv => ?_
  replace b1 := c4.box b1 (by omega)
  replace b2 := c4.box b2 (by omega)
  have l4 := c4.le
  have lv : ∀ (z : Int) h' s', From s h h' s' → errE m e = z → (K (vi z) s').wp pw Z h' := fun z h' s' g' hz => by rw [← hz]; exact hk _ _ g'
  obtain ⟨er, rfl, ⟨rfl, hm⟩ | ⟨rfl, hm⟩⟩ := hv
  rotate_left
  · try simp (disch := first | assumption | omega | (simp only [Int.ofNat_eq_natCast, neg_one]; done) | (simp only [Int.ofNat_eq_natCast, neg_one]; omega)) only [tysW, wB, mB, Nat.reduceAdd, Nat.reduceMul, List.length_cons, List.length_nil]
    exact lv 2 _ _ g4 (by unfold errE; rw [if_neg hm])
  rw [show errE m e = errA m e by unfold errE; rw [if_pos hm]] at lv
  rw [show (List.filter (fun y => decide (y.s = e.k.b)) m.R).length = dimM m e.k.b from rfl]
  by_cases q1 : e.k.b < 1
  · try simp (disch := first | assumption | omega | (simp only [Int.ofNat_eq_natCast, neg_one]; done) | (simp only [Int.ofNat_eq_natCast, neg_one]; omega)) only [tysW, wB, mB, Nat.reduceAdd, Nat.reduceMul, List.length_cons, List.length_nil, ldB b2, clB b2, ldBL b2, clBL b2]
    unfold X48_4; try simp (disch := first | assumption | omega | (simp only [Int.ofNat_eq_natCast, neg_one]; done) | (simp only [Int.ofNat_eq_natCast, neg_one]; omega)) only [tysW, wB, mB, Nat.reduceAdd, Nat.reduceMul, List.length_cons, List.length_nil]
    exact lv 8 _ _ g4 (by unfold errA; rw [if_pos (.inl q1)])
  by_cases q2 : 16 < e.k.b
  · try simp (disch := first | assumption | omega | (simp only [Int.ofNat_eq_natCast, neg_one]; done) | (simp only [Int.ofNat_eq_natCast, neg_one]; omega)) only [tysW, wB, mB, Nat.reduceAdd, Nat.reduceMul, List.length_cons, List.length_nil, ldB b2, clB b2, ldBL b2, clBL b2]
    unfold X48_4; try simp (disch := first | assumption | omega | (simp only [Int.ofNat_eq_natCast, neg_one]; done) | (simp only [Int.ofNat_eq_natCast, neg_one]; omega)) only [tysW, wB, mB, Nat.reduceAdd, Nat.reduceMul, List.length_cons, List.length_nil]
    exact lv 8 _ _ g4 (by unfold errA; rw [if_pos (.inr (.inl q2))])
  by_cases q3 : e.inp = false ∧ (dimM m e.k.b : Int) = 0
  · have q3i := q3.1
    have q3d := q3.2
    rw [q3i] at b2
    try simp (disch := first | assumption | omega | (simp only [Int.ofNat_eq_natCast, neg_one]; done) | (simp only [Int.ofNat_eq_natCast, neg_one]; omega)) only [tysW, wB, mB, Nat.reduceAdd, Nat.reduceMul, List.length_cons, List.length_nil, ldB b2, clB b2, ldBL b2, clBL b2]
    unfold X48_4; try simp (disch := first | assumption | omega | (simp only [Int.ofNat_eq_natCast, neg_one]; done) | (simp only [Int.ofNat_eq_natCast, neg_one]; omega)) only [tysW, wB, mB, Nat.reduceAdd, Nat.reduceMul, List.length_cons, List.length_nil]
    exact lv 8 _ _ g4 (by unfold errA; rw [if_pos (.inr (.inr q3))])
  have n1 : ¬ (e.k.b < 1 ∨ 16 < e.k.b ∨ (e.inp = false ∧ (dimM m e.k.b : Int) = 0)) := fun f => by
    rcases f with f | f | f
    · exact q1 f
    · exact q2 f
    · exact q3 f
  rw [show errA m e = errB m e by unfold errA; rw [if_neg n1]] at lv
  have go : ∀ (inp : Bool) (u : Value), (inp = false → u = .bool false) → e.inp = inp → (X48_4 N (D N (d + 6)) K (.bool false) (ptr (s + 1)) (vi (dimM m e.k.b : Nat)) (ptr s) (.bool (!inp)) u s4).wp pw Z h4 := by
    intro inp u hu hin
    rw [hin] at b2
    unfold X48_4
    by_cases r1 : e.k.a < 0
    · cases inp <;> (try (obtain rfl := hu rfl)) <;> (try simp (disch := first | assumption | omega | (simp only [Int.ofNat_eq_natCast, neg_one]; done) | (simp only [Int.ofNat_eq_natCast, neg_one]; omega)) only [tysW, wB, mB, Nat.reduceAdd, Nat.reduceMul, List.length_cons, List.length_nil, ldB b2, clB b2, ldBL b2, clBL b2, Bool.not_true, Bool.not_false]; unfold X48_3; try simp (disch := first | assumption | omega | (simp only [Int.ofNat_eq_natCast, neg_one]; done) | (simp only [Int.ofNat_eq_natCast, neg_one]; omega)) only [tysW, wB, mB, Nat.reduceAdd, Nat.reduceMul, List.length_cons, List.length_nil]; unfold X48_2; try simp (disch := first | assumption | omega | (simp only [Int.ofNat_eq_natCast, neg_one]; done) | (simp only [Int.ofNat_eq_natCast, neg_one]; omega)) only [tysW, wB, mB, Nat.reduceAdd, Nat.reduceMul, List.length_cons, List.length_nil]; exact lv 4 _ _ g4 (by unfold errB; rw [if_pos (.inl r1)]))
    by_cases r2 : 1099511627776 < e.k.a
    · cases inp <;> (try (obtain rfl := hu rfl)) <;> (try simp (disch := first | assumption | omega | (simp only [Int.ofNat_eq_natCast, neg_one]; done) | (simp only [Int.ofNat_eq_natCast, neg_one]; omega)) only [tysW, wB, mB, Nat.reduceAdd, Nat.reduceMul, List.length_cons, List.length_nil, ldB b2, clB b2, ldBL b2, clBL b2, Bool.not_true, Bool.not_false]; unfold X48_3; try simp (disch := first | assumption | omega | (simp only [Int.ofNat_eq_natCast, neg_one]; done) | (simp only [Int.ofNat_eq_natCast, neg_one]; omega)) only [tysW, wB, mB, Nat.reduceAdd, Nat.reduceMul, List.length_cons, List.length_nil]; unfold X48_2; try simp (disch := first | assumption | omega | (simp only [Int.ofNat_eq_natCast, neg_one]; done) | (simp only [Int.ofNat_eq_natCast, neg_one]; omega)) only [tysW, wB, mB, Nat.reduceAdd, Nat.reduceMul, List.length_cons, List.length_nil]; exact lv 4 _ _ g4 (by unfold errB; rw [if_pos (.inr (.inl r2))]))
    by_cases r3 : e.k.c < 0
    · cases inp <;> (try (obtain rfl := hu rfl)) <;> (try simp (disch := first | assumption | omega | (simp only [Int.ofNat_eq_natCast, neg_one]; done) | (simp only [Int.ofNat_eq_natCast, neg_one]; omega)) only [tysW, wB, mB, Nat.reduceAdd, Nat.reduceMul, List.length_cons, List.length_nil, ldB b2, clB b2, ldBL b2, clBL b2, Bool.not_true, Bool.not_false]; unfold X48_3; try simp (disch := first | assumption | omega | (simp only [Int.ofNat_eq_natCast, neg_one]; done) | (simp only [Int.ofNat_eq_natCast, neg_one]; omega)) only [tysW, wB, mB, Nat.reduceAdd, Nat.reduceMul, List.length_cons, List.length_nil, ldB b2, clB b2, ldBL b2, clBL b2]; unfold X48_2; try simp (disch := first | assumption | omega | (simp only [Int.ofNat_eq_natCast, neg_one]; done) | (simp only [Int.ofNat_eq_natCast, neg_one]; omega)) only [tysW, wB, mB, Nat.reduceAdd, Nat.reduceMul, List.length_cons, List.length_nil]; exact lv 4 _ _ g4 (by unfold errB; rw [if_pos (.inr (.inr (.inl r3)))]))
    by_cases r4 : 2147483647 < e.k.c
    · cases inp <;> (try (obtain rfl := hu rfl)) <;> (try simp (disch := first | assumption | omega | (simp only [Int.ofNat_eq_natCast, neg_one]; done) | (simp only [Int.ofNat_eq_natCast, neg_one]; omega)) only [tysW, wB, mB, Nat.reduceAdd, Nat.reduceMul, List.length_cons, List.length_nil, ldB b2, clB b2, ldBL b2, clBL b2, Bool.not_true, Bool.not_false]; unfold X48_3; try simp (disch := first | assumption | omega | (simp only [Int.ofNat_eq_natCast, neg_one]; done) | (simp only [Int.ofNat_eq_natCast, neg_one]; omega)) only [tysW, wB, mB, Nat.reduceAdd, Nat.reduceMul, List.length_cons, List.length_nil, ldB b2, clB b2, ldBL b2, clBL b2]; unfold X48_2; try simp (disch := first | assumption | omega | (simp only [Int.ofNat_eq_natCast, neg_one]; done) | (simp only [Int.ofNat_eq_natCast, neg_one]; omega)) only [tysW, wB, mB, Nat.reduceAdd, Nat.reduceMul, List.length_cons, List.length_nil]; exact lv 4 _ _ g4 (by unfold errB; rw [if_pos (.inr (.inr (.inr r4)))]))
    have n2 : ¬ (e.k.a < 0 ∨ 1099511627776 < e.k.a ∨ e.k.c < 0 ∨ 2147483647 < e.k.c) := by omega
    rw [show errB m e = errC m e by unfold errB; rw [if_neg n2]] at lv
    cases inp with
    | true =>
      by_cases t1 : (e.data.length : Int) = m.n
      · have n3 : ¬ ((e.inp = true ∧ ¬ (e.data.length : Int) = m.n) ∨ (e.inp = false ∧ ¬ (e.data.length : Int) = (dimM m e.k.b : Int))) := fun f => by
          rcases f with f | f
          · exact f.2 t1
          · rw [hin] at f; cases f.1
        rw [show errC m e = errD e by unfold errC; rw [if_neg n3]] at lv
        try simp (disch := first | assumption | omega | (simp only [Int.ofNat_eq_natCast, neg_one]; done) | (simp only [Int.ofNat_eq_natCast, neg_one]; omega)) only [tysW, wB, mB, Nat.reduceAdd, Nat.reduceMul, List.length_cons, List.length_nil, ldB b2, clB b2, ldBL b2, clBL b2, Bool.not_true, Bool.not_false]; unfold X48_3; try simp (disch := first | assumption | omega | (simp only [Int.ofNat_eq_natCast, neg_one]; done) | (simp only [Int.ofNat_eq_natCast, neg_one]; omega)) only [tysW, wB, mB, Nat.reduceAdd, Nat.reduceMul, List.length_cons, List.length_nil, ldB b2, clB b2, ldBL b2, clBL b2]; unfold X48_2; try simp (disch := first | assumption | omega | (simp only [Int.ofNat_eq_natCast, neg_one]; done) | (simp only [Int.ofNat_eq_natCast, neg_one]; omega)) only [tysW, wB, mB, Nat.reduceAdd, Nat.reduceMul, List.length_cons, List.length_nil, ldB b2, clB b2, ldBL b2, clBL b2, ldB b1, clB b1, ldBL b1, clBL b1]; unfold X48_1; try simp (disch := first | assumption | omega | (simp only [Int.ofNat_eq_natCast, neg_one]; done) | (simp only [Int.ofNat_eq_natCast, neg_one]; omega)) only [tysW, wB, mB, Nat.reduceAdd, Nat.reduceMul, List.length_cons, List.length_nil, ldB b2, clB b2, ldBL b2, clBL b2]
        refine PureS.go g4 hp (s74 (d := d + 4) (by omega) g4.fresh (r.from hf g4).row (by omega) (gf := 72) (Q := farD) (fun x k s => iv_72 _ [] [] [x] k s) (fun a h s hf => s72 hf a)) fun v h5 s5 g5 c5 hv => ?_
        obtain ⟨t, rfl, ht⟩ := hv
        cases t with
        | true => try simp (disch := first | assumption | omega | (simp only [Int.ofNat_eq_natCast, neg_one]; done) | (simp only [Int.ofNat_eq_natCast, neg_one]; omega)) only [tysW, wB, mB, Nat.reduceAdd, Nat.reduceMul, List.length_cons, List.length_nil]; exact lv 4 _ _ g5 (by unfold errD; rw [if_pos (ht.1 rfl)])
        | false => try simp (disch := first | assumption | omega | (simp only [Int.ofNat_eq_natCast, neg_one]; done) | (simp only [Int.ofNat_eq_natCast, neg_one]; omega)) only [tysW, wB, mB, Nat.reduceAdd, Nat.reduceMul, List.length_cons, List.length_nil]; exact lv 0 _ _ g5 (by unfold errD; rw [if_neg fun f => by have := ht.2 f; cases this])
      · try simp (disch := first | assumption | omega | (simp only [Int.ofNat_eq_natCast, neg_one]; done) | (simp only [Int.ofNat_eq_natCast, neg_one]; omega)) only [tysW, wB, mB, Nat.reduceAdd, Nat.reduceMul, List.length_cons, List.length_nil, ldB b2, clB b2, ldBL b2, clBL b2, Bool.not_true, Bool.not_false]; unfold X48_3; try simp (disch := first | assumption | omega | (simp only [Int.ofNat_eq_natCast, neg_one]; done) | (simp only [Int.ofNat_eq_natCast, neg_one]; omega)) only [tysW, wB, mB, Nat.reduceAdd, Nat.reduceMul, List.length_cons, List.length_nil, ldB b2, clB b2, ldBL b2, clBL b2]; unfold X48_2; try simp (disch := first | assumption | omega | (simp only [Int.ofNat_eq_natCast, neg_one]; done) | (simp only [Int.ofNat_eq_natCast, neg_one]; omega)) only [tysW, wB, mB, Nat.reduceAdd, Nat.reduceMul, List.length_cons, List.length_nil, ldB b2, clB b2, ldBL b2, clBL b2, ldB b1, clB b1, ldBL b1, clBL b1]; unfold X48_1; try simp (disch := first | assumption | omega | (simp only [Int.ofNat_eq_natCast, neg_one]; done) | (simp only [Int.ofNat_eq_natCast, neg_one]; omega)) only [tysW, wB, mB, Nat.reduceAdd, Nat.reduceMul, List.length_cons, List.length_nil, ldB b2, clB b2, ldBL b2, clBL b2]
        exact lv 9 _ _ g4 (by unfold errC; rw [if_pos (.inl ⟨hin, t1⟩)])
    | false =>
      obtain rfl := hu rfl
      by_cases t1 : (e.data.length : Int) = (dimM m e.k.b : Int)
      · have n3 : ¬ ((e.inp = true ∧ ¬ (e.data.length : Int) = m.n) ∨ (e.inp = false ∧ ¬ (e.data.length : Int) = (dimM m e.k.b : Int))) := fun f => by
          rcases f with f | f
          · rw [hin] at f; cases f.1
          · exact f.2 t1
        rw [show errC m e = errD e by unfold errC; rw [if_neg n3]] at lv
        try simp (disch := first | assumption | omega | (simp only [Int.ofNat_eq_natCast, neg_one]; done) | (simp only [Int.ofNat_eq_natCast, neg_one]; omega)) only [tysW, wB, mB, Nat.reduceAdd, Nat.reduceMul, List.length_cons, List.length_nil, ldB b2, clB b2, ldBL b2, clBL b2, Bool.not_true, Bool.not_false]; unfold X48_3; try simp (disch := first | assumption | omega | (simp only [Int.ofNat_eq_natCast, neg_one]; done) | (simp only [Int.ofNat_eq_natCast, neg_one]; omega)) only [tysW, wB, mB, Nat.reduceAdd, Nat.reduceMul, List.length_cons, List.length_nil, ldB b2, clB b2, ldBL b2, clBL b2]; unfold X48_2; try simp (disch := first | assumption | omega | (simp only [Int.ofNat_eq_natCast, neg_one]; done) | (simp only [Int.ofNat_eq_natCast, neg_one]; omega)) only [tysW, wB, mB, Nat.reduceAdd, Nat.reduceMul, List.length_cons, List.length_nil, ldB b2, clB b2, ldBL b2, clBL b2, ldB b1, clB b1, ldBL b1, clBL b1]; unfold X48_1; try simp (disch := first | assumption | omega | (simp only [Int.ofNat_eq_natCast, neg_one]; done) | (simp only [Int.ofNat_eq_natCast, neg_one]; omega)) only [tysW, wB, mB, Nat.reduceAdd, Nat.reduceMul, List.length_cons, List.length_nil, ldB b2, clB b2, ldBL b2, clBL b2]
        refine PureS.go g4 hp (s74 (d := d + 4) (by omega) g4.fresh (r.from hf g4).row (by omega) (gf := 72) (Q := farD) (fun x k s => iv_72 _ [] [] [x] k s) (fun a h s hf => s72 hf a)) fun v h5 s5 g5 c5 hv => ?_
        obtain ⟨t, rfl, ht⟩ := hv
        cases t with
        | true => try simp (disch := first | assumption | omega | (simp only [Int.ofNat_eq_natCast, neg_one]; done) | (simp only [Int.ofNat_eq_natCast, neg_one]; omega)) only [tysW, wB, mB, Nat.reduceAdd, Nat.reduceMul, List.length_cons, List.length_nil]; exact lv 4 _ _ g5 (by unfold errD; rw [if_pos (ht.1 rfl)])
        | false => try simp (disch := first | assumption | omega | (simp only [Int.ofNat_eq_natCast, neg_one]; done) | (simp only [Int.ofNat_eq_natCast, neg_one]; omega)) only [tysW, wB, mB, Nat.reduceAdd, Nat.reduceMul, List.length_cons, List.length_nil]; exact lv 0 _ _ g5 (by unfold errD; rw [if_neg fun f => by have := ht.2 f; cases this])
      · try simp (disch := first | assumption | omega | (simp only [Int.ofNat_eq_natCast, neg_one]; done) | (simp only [Int.ofNat_eq_natCast, neg_one]; omega)) only [tysW, wB, mB, Nat.reduceAdd, Nat.reduceMul, List.length_cons, List.length_nil, ldB b2, clB b2, ldBL b2, clBL b2, Bool.not_true, Bool.not_false]; unfold X48_3; try simp (disch := first | assumption | omega | (simp only [Int.ofNat_eq_natCast, neg_one]; done) | (simp only [Int.ofNat_eq_natCast, neg_one]; omega)) only [tysW, wB, mB, Nat.reduceAdd, Nat.reduceMul, List.length_cons, List.length_nil, ldB b2, clB b2, ldBL b2, clBL b2]; unfold X48_2; try simp (disch := first | assumption | omega | (simp only [Int.ofNat_eq_natCast, neg_one]; done) | (simp only [Int.ofNat_eq_natCast, neg_one]; omega)) only [tysW, wB, mB, Nat.reduceAdd, Nat.reduceMul, List.length_cons, List.length_nil, ldB b2, clB b2, ldBL b2, clBL b2, ldB b1, clB b1, ldBL b1, clBL b1]; unfold X48_1; try simp (disch := first | assumption | omega | (simp only [Int.ofNat_eq_natCast, neg_one]; done) | (simp only [Int.ofNat_eq_natCast, neg_one]; omega)) only [tysW, wB, mB, Nat.reduceAdd, Nat.reduceMul, List.length_cons, List.length_nil, ldB b2, clB b2, ldBL b2, clBL b2]
        exact lv 9 _ _ g4 (by unfold errC; rw [if_pos (.inr ⟨hin, t1⟩)])
  cases hin : e.inp with
  | true =>
    rw [hin] at b2
    try simp (disch := first | assumption | omega | (simp only [Int.ofNat_eq_natCast, neg_one]; done) | (simp only [Int.ofNat_eq_natCast, neg_one]; omega)) only [tysW, wB, mB, Nat.reduceAdd, Nat.reduceMul, List.length_cons, List.length_nil, ldB b2, clB b2, ldBL b2, clBL b2]
    exact go true _ (fun e => by cases e) hin
  | false =>
    have q4 : ¬ (dimM m e.k.b : Int) = 0 := fun f => q3 ⟨hin, f⟩
    rw [hin] at b2
    try simp (disch := first | assumption | omega | (simp only [Int.ofNat_eq_natCast, neg_one]; done) | (simp only [Int.ofNat_eq_natCast, neg_one]; omega)) only [tysW, wB, mB, Nat.reduceAdd, Nat.reduceMul, List.length_cons, List.length_nil, ldB b2, clB b2, ldBL b2, clBL b2]
    exact go false _ (fun _ => rfl) hin
end
end Go.Ev.R
namespace Go.Ev.R
open Go Go.RowKit
section
variable {N d : Nat} (hN : N = 100000) {h : T} {s : Nat} (hf : ∀ n, s ≤ n → h.get n = none)
include hN hf
set_option maxHeartbeats 2000000 in
theorem s49 {m : MO} (x : MoAt h m) (sm : MoSm m) (e : EN) {p : Option Addr} {c : Nat} (r : Sl EI h p e.data.length c e.data) (hl : e.data.length ≤ 1000) : ValS (D N (d + 4)) 49 [.agg ⟨mov m⟩, eval e p c] h s (vi (errE m e)) := by
  refine ValS.of hf fun K pw Z g hp hk => ?_
  rw [D_49]; unfold F49; rw [app2_eq]
  unfold X49_6
  refine wp_boxA g hp fun h1 g1 c1 b1 => ?_
  refine wp_boxA g1 hp fun h2 g2 c2 b2 => ?_
  replace b1 := c2.box b1 (by omega)
  simp only [ev] at b2
  have b1' := b1
  simp only [mov] at b1
  try simp (disch := first | assumption | omega | (simp only [Int.ofNat_eq_natCast, neg_one]; done) | (simp only [Int.ofNat_eq_natCast, neg_one]; omega)) only [tysW, wB, mB, Nat.reduceAdd, Nat.reduceMul, List.length_cons, List.length_nil, ldB b1, clB b1, ldBL b1, clBL b1, ldB b2, clB b2, ldBL b2, clBL b2]
  refine PureS.go g2 hp (s75 (d := d) (by omega) g2.fresh (x.from hf g2) sm) fun v h3 s3 g3 c3 hv => ?_
  replace b1 := c3.box b1 (by omega)
  replace b2 := c3.box b2 (by omega)
  have l3 := c3.le
  have lv : ∀ (z : Int) h' s', From s h h' s' → errE m e = z → (K (vi z) s').wp pw Z h' := fun z h' s' g' hz => by rw [← hz]; exact hk _ _ g'
  obtain ⟨er, rfl, ⟨rfl, hm⟩ | ⟨rfl, hm⟩⟩ := hv
  rotate_left
  · try simp (disch := first | assumption | omega | (simp only [Int.ofNat_eq_natCast, neg_one]; done) | (simp only [Int.ofNat_eq_natCast, neg_one]; omega)) only [tysW, wB, mB, Nat.reduceAdd, Nat.reduceMul, List.length_cons, List.length_nil]
    exact lv 2 _ _ g3 (by unfold errE; rw [if_neg hm])
  rw [show errE m e = errA m e by unfold errE; rw [if_pos hm]] at lv
  try simp (disch := first | assumption | omega | (simp only [Int.ofNat_eq_natCast, neg_one]; done) | (simp only [Int.ofNat_eq_natCast, neg_one]; omega)) only [tysW, wB, mB, Nat.reduceAdd, Nat.reduceMul, List.length_cons, List.length_nil, ldB b1, clB b1, ldBL b1, clBL b1, ldB b2, clB b2, ldBL b2, clBL b2]
  refine ValS.go g3 hp (s76 (d := d + 1) hN g3.fresh (x.from hf g3) sm e.k.b) fun h4 s4 g4 c4 => ?_
  replace b1 := c4.box b1 (by omega)
  replace b2 := c4.box b2 (by omega)
  have l4 := c4.le
  rw [show (List.filter (fun y => decide (y.s = e.k.b)) m.R).length = dimM m e.k.b from rfl]
  by_cases q1 : e.k.b < 1
  · try simp (disch := first | assumption | omega | (simp only [Int.ofNat_eq_natCast, neg_one]; done) | (simp only [Int.ofNat_eq_natCast, neg_one]; omega)) only [tysW, wB, mB, Nat.reduceAdd, Nat.reduceMul, List.length_cons, List.length_nil, ldB b2, clB b2, ldBL b2, clBL b2]
    unfold X49_5; try simp (disch := first | assumption | omega | (simp only [Int.ofNat_eq_natCast, neg_one]; done) | (simp only [Int.ofNat_eq_natCast, neg_one]; omega)) only [tysW, wB, mB, Nat.reduceAdd, Nat.reduceMul, List.length_cons, List.length_nil]
    exact lv 8 _ _ g4 (by unfold errA; rw [if_pos (.inl q1)])
  by_cases q2 : 16 < e.k.b
  · try simp (disch := first | assumption | omega | (simp only [Int.ofNat_eq_natCast, neg_one]; done) | (simp only [Int.ofNat_eq_natCast, neg_one]; omega)) only [tysW, wB, mB, Nat.reduceAdd, Nat.reduceMul, List.length_cons, List.length_nil, ldB b2, clB b2, ldBL b2, clBL b2]
    unfold X49_5; try simp (disch := first | assumption | omega | (simp only [Int.ofNat_eq_natCast, neg_one]; done) | (simp only [Int.ofNat_eq_natCast, neg_one]; omega)) only [tysW, wB, mB, Nat.reduceAdd, Nat.reduceMul, List.length_cons, List.length_nil]
    exact lv 8 _ _ g4 (by unfold errA; rw [if_pos (.inr (.inl q2))])
  by_cases q3 : e.inp = false ∧ (dimM m e.k.b : Int) = 0
  · have q3i := q3.1
    have q3d := q3.2
    rw [q3i] at b2
    try simp (disch := first | assumption | omega | (simp only [Int.ofNat_eq_natCast, neg_one]; done) | (simp only [Int.ofNat_eq_natCast, neg_one]; omega)) only [tysW, wB, mB, Nat.reduceAdd, Nat.reduceMul, List.length_cons, List.length_nil, ldB b2, clB b2, ldBL b2, clBL b2]
    unfold X49_5; try simp (disch := first | assumption | omega | (simp only [Int.ofNat_eq_natCast, neg_one]; done) | (simp only [Int.ofNat_eq_natCast, neg_one]; omega)) only [tysW, wB, mB, Nat.reduceAdd, Nat.reduceMul, List.length_cons, List.length_nil]
    exact lv 8 _ _ g4 (by unfold errA; rw [if_pos (.inr (.inr q3))])
  have n1 : ¬ (e.k.b < 1 ∨ 16 < e.k.b ∨ (e.inp = false ∧ (dimM m e.k.b : Int) = 0)) := fun f => by
    rcases f with f | f | f
    · exact q1 f
    · exact q2 f
    · exact q3 f
  rw [show errA m e = errB m e by unfold errA; rw [if_neg n1]] at lv
  have dat : (∀ (z : Int) h' s', From s h h' s' → errD e = z → (K (vi z) s').wp pw Z h') → (loopJ N 2 (fun _ _ _ => AM.fail) (X49_1 N (D N (d + 3)) K (ptr (s + 1)) (fun s => K (i64 0) s)) (i64 0) (i64 0) s4).wp pw Z h4 := by
    intro lv
    have r4 := r.from hf g4
    have loop : ∀ (B : (Value → Value → Nat → AM) → Value → Value → Nat → AM) (hB : ∀ H u i s', B H u i s' = X49_1 N (D N (d + 3)) K (ptr (s + 1)) (fun s => K (i64 0) s) H u i s') (q i : Nat) (u : Value), e.data.length - i < q → i ≤ e.data.length → (∀ (j : Nat) (a : Int), j < i → e.data[j]? = some a → ¬ farD a) →
        (loopJ q 2 (fun _ _ _ => AM.fail) B u (vi i) s4).wp pw Z h4 := by
      intro B hB q
      induction q with
      | zero => intro i u hm; omega
      | succ q ih =>
        intro i u hm hi he
        rw [loopJ_succ, hB]
        unfold X49_1
        by_cases hlt : i < e.data.length
        · obtain ⟨y, hy⟩ := get_some (l := e.data) (i := i) hlt
          by_cases y1 : y < -140737488355328
          · try simp (disch := first | assumption | omega | (simp only [Int.ofNat_eq_natCast, neg_one]; done) | (simp only [Int.ofNat_eq_natCast, neg_one]; omega)) only [tysW, wB, mB, Nat.reduceAdd, Nat.reduceMul, List.length_cons, List.length_nil, ldB b2, clB b2, ldBL b2, clBL b2, xaI r4.row (j := (i : Int)) (by omega) (by omega), intI r4.row hy]
            exact lv 4 _ _ g4 (by unfold errD; rw [if_pos ⟨y, List.mem_of_getElem? hy, .inl y1⟩])
          by_cases y2 : 140737488355328 < y
          · try simp (disch := first | assumption | omega | (simp only [Int.ofNat_eq_natCast, neg_one]; done) | (simp only [Int.ofNat_eq_natCast, neg_one]; omega)) only [tysW, wB, mB, Nat.reduceAdd, Nat.reduceMul, List.length_cons, List.length_nil, ldB b2, clB b2, ldBL b2, clBL b2, xaI r4.row (j := (i : Int)) (by omega) (by omega), intI r4.row hy]
            exact lv 4 _ _ g4 (by unfold errD; rw [if_pos ⟨y, List.mem_of_getElem? hy, .inr y2⟩])
          try simp (disch := first | assumption | omega | (simp only [Int.ofNat_eq_natCast, neg_one]; done) | (simp only [Int.ofNat_eq_natCast, neg_one]; omega)) only [tysW, wB, mB, Nat.reduceAdd, Nat.reduceMul, List.length_cons, List.length_nil, ldB b2, clB b2, ldBL b2, clBL b2, xaI r4.row (j := (i : Int)) (by omega) (by omega), intI r4.row hy]
          exact ih (i + 1) u (by omega) (by omega) fun j a hj ha => by
            rcases Nat.lt_or_ge j i with h6 | h6
            · exact he j a h6 ha
            · obtain rfl : j = i := by omega
              rw [hy] at ha; cases ha; unfold farD; omega
        · obtain rfl : i = e.data.length := by omega
          try simp (disch := first | assumption | omega | (simp only [Int.ofNat_eq_natCast, neg_one]; done) | (simp only [Int.ofNat_eq_natCast, neg_one]; omega)) only [tysW, wB, mB, Nat.reduceAdd, Nat.reduceMul, List.length_cons, List.length_nil, ldB b2, clB b2, ldBL b2, clBL b2]
          exact lv 0 _ _ g4 (by
            unfold errD
            rw [if_neg]
            rintro ⟨z, hz, hf⟩
            obtain ⟨j, hj⟩ := List.getElem?_of_mem hz
            exact he j z (List.getElem?_eq_some_iff.1 hj).1 hj hf)
    exact loop _ (fun _ _ _ _ => rfl) N 0 _ (by omega) (by omega) fun j a hj => by omega
  have go : ∀ (inp : Bool) (u : Value), (inp = false → u = .bool false) → e.inp = inp → (X49_5 N (D N (d + 3)) K (.bool false) (ptr (s + 1)) (vi (dimM m e.k.b : Nat)) (ptr s) (.bool (!inp)) u s4).wp pw Z h4 := by
    intro inp u hu hin
    rw [hin] at b2
    unfold X49_5
    by_cases r1 : e.k.a < 0
    · cases inp <;> (try (obtain rfl := hu rfl)) <;> (try simp (disch := first | assumption | omega | (simp only [Int.ofNat_eq_natCast, neg_one]; done) | (simp only [Int.ofNat_eq_natCast, neg_one]; omega)) only [tysW, wB, mB, Nat.reduceAdd, Nat.reduceMul, List.length_cons, List.length_nil, ldB b2, clB b2, ldBL b2, clBL b2, Bool.not_true, Bool.not_false]; unfold X49_4; try simp (disch := first | assumption | omega | (simp only [Int.ofNat_eq_natCast, neg_one]; done) | (simp only [Int.ofNat_eq_natCast, neg_one]; omega)) only [tysW, wB, mB, Nat.reduceAdd, Nat.reduceMul, List.length_cons, List.length_nil]; unfold X49_3; try simp (disch := first | assumption | omega | (simp only [Int.ofNat_eq_natCast, neg_one]; done) | (simp only [Int.ofNat_eq_natCast, neg_one]; omega)) only [tysW, wB, mB, Nat.reduceAdd, Nat.reduceMul, List.length_cons, List.length_nil]; exact lv 4 _ _ g4 (by unfold errB; rw [if_pos (.inl r1)]))
    by_cases r2 : 1099511627776 < e.k.a
    · cases inp <;> (try (obtain rfl := hu rfl)) <;> (try simp (disch := first | assumption | omega | (simp only [Int.ofNat_eq_natCast, neg_one]; done) | (simp only [Int.ofNat_eq_natCast, neg_one]; omega)) only [tysW, wB, mB, Nat.reduceAdd, Nat.reduceMul, List.length_cons, List.length_nil, ldB b2, clB b2, ldBL b2, clBL b2, Bool.not_true, Bool.not_false]; unfold X49_4; try simp (disch := first | assumption | omega | (simp only [Int.ofNat_eq_natCast, neg_one]; done) | (simp only [Int.ofNat_eq_natCast, neg_one]; omega)) only [tysW, wB, mB, Nat.reduceAdd, Nat.reduceMul, List.length_cons, List.length_nil]; unfold X49_3; try simp (disch := first | assumption | omega | (simp only [Int.ofNat_eq_natCast, neg_one]; done) | (simp only [Int.ofNat_eq_natCast, neg_one]; omega)) only [tysW, wB, mB, Nat.reduceAdd, Nat.reduceMul, List.length_cons, List.length_nil]; exact lv 4 _ _ g4 (by unfold errB; rw [if_pos (.inr (.inl r2))]))
    by_cases r3 : e.k.c < 0
    · cases inp <;> (try (obtain rfl := hu rfl)) <;> (try simp (disch := first | assumption | omega | (simp only [Int.ofNat_eq_natCast, neg_one]; done) | (simp only [Int.ofNat_eq_natCast, neg_one]; omega)) only [tysW, wB, mB, Nat.reduceAdd, Nat.reduceMul, List.length_cons, List.length_nil, ldB b2, clB b2, ldBL b2, clBL b2, Bool.not_true, Bool.not_false]; unfold X49_4; try simp (disch := first | assumption | omega | (simp only [Int.ofNat_eq_natCast, neg_one]; done) | (simp only [Int.ofNat_eq_natCast, neg_one]; omega)) only [tysW, wB, mB, Nat.reduceAdd, Nat.reduceMul, List.length_cons, List.length_nil, ldB b2, clB b2, ldBL b2, clBL b2]; unfold X49_3; try simp (disch := first | assumption | omega | (simp only [Int.ofNat_eq_natCast, neg_one]; done) | (simp only [Int.ofNat_eq_natCast, neg_one]; omega)) only [tysW, wB, mB, Nat.reduceAdd, Nat.reduceMul, List.length_cons, List.length_nil]; exact lv 4 _ _ g4 (by unfold errB; rw [if_pos (.inr (.inr (.inl r3)))]))
    by_cases r4 : 2147483647 < e.k.c
    · cases inp <;> (try (obtain rfl := hu rfl)) <;> (try simp (disch := first | assumption | omega | (simp only [Int.ofNat_eq_natCast, neg_one]; done) | (simp only [Int.ofNat_eq_natCast, neg_one]; omega)) only [tysW, wB, mB, Nat.reduceAdd, Nat.reduceMul, List.length_cons, List.length_nil, ldB b2, clB b2, ldBL b2, clBL b2, Bool.not_true, Bool.not_false]; unfold X49_4; try simp (disch := first | assumption | omega | (simp only [Int.ofNat_eq_natCast, neg_one]; done) | (simp only [Int.ofNat_eq_natCast, neg_one]; omega)) only [tysW, wB, mB, Nat.reduceAdd, Nat.reduceMul, List.length_cons, List.length_nil, ldB b2, clB b2, ldBL b2, clBL b2]; unfold X49_3; try simp (disch := first | assumption | omega | (simp only [Int.ofNat_eq_natCast, neg_one]; done) | (simp only [Int.ofNat_eq_natCast, neg_one]; omega)) only [tysW, wB, mB, Nat.reduceAdd, Nat.reduceMul, List.length_cons, List.length_nil]; exact lv 4 _ _ g4 (by unfold errB; rw [if_pos (.inr (.inr (.inr r4)))]))
    have n2 : ¬ (e.k.a < 0 ∨ 1099511627776 < e.k.a ∨ e.k.c < 0 ∨ 2147483647 < e.k.c) := by omega
    rw [show errB m e = errC m e by unfold errB; rw [if_neg n2]] at lv
    cases inp with
    | true =>
      by_cases t1 : (e.data.length : Int) = m.n
      · have n3 : ¬ ((e.inp = true ∧ ¬ (e.data.length : Int) = m.n) ∨ (e.inp = false ∧ ¬ (e.data.length : Int) = (dimM m e.k.b : Int))) := fun f => by
          rcases f with f | f
          · exact f.2 t1
          · rw [hin] at f; cases f.1
        rw [show errC m e = errD e by unfold errC; rw [if_neg n3]] at lv
        try simp (disch := first | assumption | omega | (simp only [Int.ofNat_eq_natCast, neg_one]; done) | (simp only [Int.ofNat_eq_natCast, neg_one]; omega)) only [tysW, wB, mB, Nat.reduceAdd, Nat.reduceMul, List.length_cons, List.length_nil, ldB b2, clB b2, ldBL b2, clBL b2, Bool.not_true, Bool.not_false]; unfold X49_4; try simp (disch := first | assumption | omega | (simp only [Int.ofNat_eq_natCast, neg_one]; done) | (simp only [Int.ofNat_eq_natCast, neg_one]; omega)) only [tysW, wB, mB, Nat.reduceAdd, Nat.reduceMul, List.length_cons, List.length_nil, ldB b2, clB b2, ldBL b2, clBL b2]; unfold X49_3; try simp (disch := first | assumption | omega | (simp only [Int.ofNat_eq_natCast, neg_one]; done) | (simp only [Int.ofNat_eq_natCast, neg_one]; omega)) only [tysW, wB, mB, Nat.reduceAdd, Nat.reduceMul, List.length_cons, List.length_nil, ldB b2, clB b2, ldBL b2, clBL b2, ldB b1, clB b1, ldBL b1, clBL b1]; unfold X49_2; try simp (disch := first | assumption | omega | (simp only [Int.ofNat_eq_natCast, neg_one]; done) | (simp only [Int.ofNat_eq_natCast, neg_one]; omega)) only [tysW, wB, mB, Nat.reduceAdd, Nat.reduceMul, List.length_cons, List.length_nil, ldB b2, clB b2, ldBL b2, clBL b2]
        exact dat lv
      · try simp (disch := first | assumption | omega | (simp only [Int.ofNat_eq_natCast, neg_one]; done) | (simp only [Int.ofNat_eq_natCast, neg_one]; omega)) only [tysW, wB, mB, Nat.reduceAdd, Nat.reduceMul, List.length_cons, List.length_nil, ldB b2, clB b2, ldBL b2, clBL b2, Bool.not_true, Bool.not_false]; unfold X49_4; try simp (disch := first | assumption | omega | (simp only [Int.ofNat_eq_natCast, neg_one]; done) | (simp only [Int.ofNat_eq_natCast, neg_one]; omega)) only [tysW, wB, mB, Nat.reduceAdd, Nat.reduceMul, List.length_cons, List.length_nil, ldB b2, clB b2, ldBL b2, clBL b2]; unfold X49_3; try simp (disch := first | assumption | omega | (simp only [Int.ofNat_eq_natCast, neg_one]; done) | (simp only [Int.ofNat_eq_natCast, neg_one]; omega)) only [tysW, wB, mB, Nat.reduceAdd, Nat.reduceMul, List.length_cons, List.length_nil, ldB b2, clB b2, ldBL b2, clBL b2, ldB b1, clB b1, ldBL b1, clBL b1]; unfold X49_2; try simp (disch := first | assumption | omega | (simp only [Int.ofNat_eq_natCast, neg_one]; done) | (simp only [Int.ofNat_eq_natCast, neg_one]; omega)) only [tysW, wB, mB, Nat.reduceAdd, Nat.reduceMul, List.length_cons, List.length_nil, ldB b2, clB b2, ldBL b2, clBL b2]
        exact lv 9 _ _ g4 (by unfold errC; rw [if_pos (.inl ⟨hin, t1⟩)])
    | false =>
      obtain rfl := hu rfl
      by_cases t1 : (e.data.length : Int) = (dimM m e.k.b : Int)
      · have n3 : ¬ ((e.inp = true ∧ ¬ (e.data.length : Int) = m.n) ∨ (e.inp = false ∧ ¬ (e.data.length : Int) = (dimM m e.k.b : Int))) := fun f => by
          rcases f with f | f
          · rw [hin] at f; cases f.1
          · exact f.2 t1
        rw [show errC m e = errD e by unfold errC; rw [if_neg n3]] at lv
        try simp (disch := first | assumption | omega | (simp only [Int.ofNat_eq_natCast, neg_one]; done) | (simp only [Int.ofNat_eq_natCast, neg_one]; omega)) only [tysW, wB, mB, Nat.reduceAdd, Nat.reduceMul, List.length_cons, List.length_nil, ldB b2, clB b2, ldBL b2, clBL b2, Bool.not_true, Bool.not_false]; unfold X49_4; try simp (disch := first | assumption | omega | (simp only [Int.ofNat_eq_natCast, neg_one]; done) | (simp only [Int.ofNat_eq_natCast, neg_one]; omega)) only [tysW, wB, mB, Nat.reduceAdd, Nat.reduceMul, List.length_cons, List.length_nil, ldB b2, clB b2, ldBL b2, clBL b2]; unfold X49_3; try simp (disch := first | assumption | omega | (simp only [Int.ofNat_eq_natCast, neg_one]; done) | (simp only [Int.ofNat_eq_natCast, neg_one]; omega)) only [tysW, wB, mB, Nat.reduceAdd, Nat.reduceMul, List.length_cons, List.length_nil, ldB b2, clB b2, ldBL b2, clBL b2, ldB b1, clB b1, ldBL b1, clBL b1]; unfold X49_2; try simp (disch := first | assumption | omega | (simp only [Int.ofNat_eq_natCast, neg_one]; done) | (simp only [Int.ofNat_eq_natCast, neg_one]; omega)) only [tysW, wB, mB, Nat.reduceAdd, Nat.reduceMul, List.length_cons, List.length_nil, ldB b2, clB b2, ldBL b2, clBL b2]
        exact dat lv
      · try simp (disch := first | assumption | omega | (simp only [Int.ofNat_eq_natCast, neg_one]; done) | (simp only [Int.ofNat_eq_natCast, neg_one]; omega)) only [tysW, wB, mB, Nat.reduceAdd, Nat.reduceMul, List.length_cons, List.length_nil, ldB b2, clB b2, ldBL b2, clBL b2, Bool.not_true, Bool.not_false]; unfold X49_4; try simp (disch := first | assumption | omega | (simp only [Int.ofNat_eq_natCast, neg_one]; done) | (simp only [Int.ofNat_eq_natCast, neg_one]; omega)) only [tysW, wB, mB, Nat.reduceAdd, Nat.reduceMul, List.length_cons, List.length_nil, ldB b2, clB b2, ldBL b2, clBL b2]; unfold X49_3; try simp (disch := first | assumption | omega | (simp only [Int.ofNat_eq_natCast, neg_one]; done) | (simp only [Int.ofNat_eq_natCast, neg_one]; omega)) only [tysW, wB, mB, Nat.reduceAdd, Nat.reduceMul, List.length_cons, List.length_nil, ldB b2, clB b2, ldBL b2, clBL b2, ldB b1, clB b1, ldBL b1, clBL b1]; unfold X49_2; try simp (disch := first | assumption | omega | (simp only [Int.ofNat_eq_natCast, neg_one]; done) | (simp only [Int.ofNat_eq_natCast, neg_one]; omega)) only [tysW, wB, mB, Nat.reduceAdd, Nat.reduceMul, List.length_cons, List.length_nil, ldB b2, clB b2, ldBL b2, clBL b2]
        exact lv 9 _ _ g4 (by unfold errC; rw [if_pos (.inr ⟨hin, t1⟩)])
  cases hin : e.inp with
  | true =>
    rw [hin] at b2
    try simp (disch := first | assumption | omega | (simp only [Int.ofNat_eq_natCast, neg_one]; done) | (simp only [Int.ofNat_eq_natCast, neg_one]; omega)) only [tysW, wB, mB, Nat.reduceAdd, Nat.reduceMul, List.length_cons, List.length_nil, ldB b2, clB b2, ldBL b2, clBL b2]
    exact go true _ (fun e => by cases e) hin
  | false =>
    have q4 : ¬ (dimM m e.k.b : Int) = 0 := fun f => q3 ⟨hin, f⟩
    rw [hin] at b2
    try simp (disch := first | assumption | omega | (simp only [Int.ofNat_eq_natCast, neg_one]; done) | (simp only [Int.ofNat_eq_natCast, neg_one]; omega)) only [tysW, wB, mB, Nat.reduceAdd, Nat.reduceMul, List.length_cons, List.length_nil, ldB b2, clB b2, ldBL b2, clBL b2]
    exact go false _ (fun _ => rfl) hin
end
end Go.Ev.R
namespace Go.Ev.R
open Go Go.RowKit
theorem D_13 (N d : Nat) (K : KV) (s : Nat) : D N (d + 1) 13 [] K s = K (.bool true) s := by kernel_rfl
section
variable {N d : Nat} (hN : N = 100000) {h : T} {s : Nat} (hf : ∀ n, s ≤ n → h.get n = none)
include hN hf
set_option maxHeartbeats 2000000 in
theorem s12 {m : MO} (x : MoAt h m) (e : EN) {p : Option Addr} {c : Nat} (r : Sl EI h p e.data.length c e.data) : ValS (D N (d + 8)) 12 [.agg ⟨mov m⟩, eval e p c] h s (.bool true) := by
  refine ValS.of hf fun K pw Z g hp hk => ?_
  rw [D_12]; unfold F12; rw [app2_eq]
  refine wp_boxA g hp fun h1 g1 c1 b1 => ?_
  refine wp_boxA g1 hp fun h2 g2 c2 b2 => ?_
  replace b1 := c2.box b1 (by omega)
  have b2' := b2
  have b1' := b1
  simp only [ev] at b2
  simp only [mov] at b1
  try simp (disch := first | assumption | omega | (simp only [Int.ofNat_eq_natCast, neg_one]; done) | (simp only [Int.ofNat_eq_natCast, neg_one]; omega)) only [tysW, wB, mB, Nat.reduceAdd, Nat.reduceMul, List.length_cons, List.length_nil, ldB b1, clB b1, ldBL b1, clBL b1]
  refine PureS.go g2 hp (s46 (d := d + 6) (by omega) g2.fresh (x.from hf g2)) fun v h3 s3 g3 c3 hv => ?_
  replace b1 := c3.box b1 (by omega)
  replace b2 := c3.box b2 (by omega)
  have l3 := c3.le
  obtain ⟨lg, rfl, hlg⟩ := hv
  cases lg with
  | true =>
    try simp (disch := first | assumption | omega | (simp only [Int.ofNat_eq_natCast, neg_one]; done) | (simp only [Int.ofNat_eq_natCast, neg_one]; omega)) only [tysW, wB, mB, Nat.reduceAdd, Nat.reduceMul, List.length_cons, List.length_nil]
    unfold X12_5
    try simp (disch := first | assumption | omega | (simp only [Int.ofNat_eq_natCast, neg_one]; done) | (simp only [Int.ofNat_eq_natCast, neg_one]; omega)) only [tysW, wB, mB, Nat.reduceAdd, Nat.reduceMul, List.length_cons, List.length_nil, D_13]
    exact hk _ _ g3
  | false =>
  have sm := hlg rfl
  by_cases h50 : (50 : Int) < (e.data.length : Int)
  · try simp (disch := first | assumption | omega | (simp only [Int.ofNat_eq_natCast, neg_one]; done) | (simp only [Int.ofNat_eq_natCast, neg_one]; omega)) only [tysW, wB, mB, Nat.reduceAdd, Nat.reduceMul, List.length_cons, List.length_nil, ldB b2, clB b2, ldBL b2, clBL b2]
    unfold X12_5
    try simp (disch := first | assumption | omega | (simp only [Int.ofNat_eq_natCast, neg_one]; done) | (simp only [Int.ofNat_eq_natCast, neg_one]; omega)) only [tysW, wB, mB, Nat.reduceAdd, Nat.reduceMul, List.length_cons, List.length_nil, D_13]
    exact hk _ _ g3
  have b2e : h3.get (s + 1) = some (.cells ⟨ev e p c⟩ 43 (0, 0)) := b2
  try simp (disch := first | assumption | omega | (simp only [Int.ofNat_eq_natCast, neg_one]; done) | (simp only [Int.ofNat_eq_natCast, neg_one]; omega)) only [tysW, wB, mB, Nat.reduceAdd, Nat.reduceMul, List.length_cons, List.length_nil, ldB b2, clB b2, ldBL b2, clBL b2]
  unfold X12_5
  try simp (disch := first | assumption | omega | (simp only [Int.ofNat_eq_natCast, neg_one]; done) | (simp only [Int.ofNat_eq_natCast, neg_one]; omega)) only [tysW, wB, mB, Nat.reduceAdd, Nat.reduceMul, List.length_cons, List.length_nil, ldB b2, clB b2, ldBL b2, clBL b2]
  refine PureS.go g3 hp (s47 (d := d + 5) g3.fresh e (r.from hf g3) (by omega)) fun v h4 s4 g4 c4 hv => ?_
  obtain ⟨p4, rfl, o4⟩ := hv
  have o40 : p4 ≠ none → s3 ≤ blk p4 ∧ blk p4 < s4 := fun hp => o4.lt g4.fresh hp
  replace b1 := c4.box b1 (by omega)
  replace b2 := c4.box b2 (by omega)
  have l4 := c4.le
  try simp (disch := first | assumption | omega | (simp only [Int.ofNat_eq_natCast, neg_one]; done) | (simp only [Int.ofNat_eq_natCast, neg_one]; omega)) only [tysW, wB, mB, Nat.reduceAdd, Nat.reduceMul, List.length_cons, List.length_nil]
  refine wp_boxA g4 hp fun h5 g5 c5 b5 => ?_
  replace b1 := c5.box b1 (by omega)
  replace b2 := c5.box b2 (by omega)
  replace o4 := o4.from g4.fresh c5
  simp only [eval, ev]
  try simp (disch := first | assumption | omega | (simp only [Int.ofNat_eq_natCast, neg_one]; done) | (simp only [Int.ofNat_eq_natCast, neg_one]; omega)) only [tysW, wB, mB, Nat.reduceAdd, Nat.reduceMul, List.length_cons, List.length_nil]
  refine wp_putF g5 hp b5 (by omega) (by simp) rfl fun h6 g6 b6 e6 => ?_
  simp only [overL] at b6
  have c6 : From s4 h4 h6 (s4 + 1) := ⟨by omega, fun n hn => by rw [e6 n (by omega), c5.keep n hn], g6.fresh⟩
  replace b1 := (e6 s (by omega)).trans b1
  replace b2 := (e6 (s + 1) (by omega)).trans b2
  replace o4 : OwnI h6 s3 p4 e.data.length e.data := o4.but fun hp => e6 _ (by have := (o40 hp).2; omega)
  try simp (disch := first | assumption | omega | (simp only [Int.ofNat_eq_natCast, neg_one]; done) | (simp only [Int.ofNat_eq_natCast, neg_one]; omega)) only [tysW, wB, mB, Nat.reduceAdd, Nat.reduceMul, List.length_cons, List.length_nil, ldB b1, clB b1, ldBL b1, clBL b1, ldB b2, clB b2, ldBL b2, clBL b2, ldB b6, clB b6, ldBL b6, clBL b6]
  refine ValS.goL g6 hp (s48 (d := d) hN g6.fresh (x.from hf g6) sm e o4.sl (by omega)) fun h7 s7 ts7 ws7 g7 c7 hw7 ht7 => ?_
  replace b1 := c7.box b1 (by omega)
  replace b2 := c7.box b2 (by omega)
  replace b6 := c7.box b6 (by omega)
  replace o4 := o4.from g6.fresh c7
  have l7 := c7.le
  try simp (disch := first | assumption | omega | (simp only [Int.ofNat_eq_natCast, neg_one]; done) | (simp only [Int.ofNat_eq_natCast, neg_one]; omega)) only [tysW, wB, mB, Nat.reduceAdd, Nat.reduceMul, List.length_cons, List.length_nil, ldB b1, clB b1, ldBL b1, clBL b1, ldB b2, clB b2, ldBL b2, clBL b2, ldB b6, clB b6, ldBL b6, clBL b6]
  unfold X12_4
  refine ValS.goL g7 hp (s49 (d := d + 3) hN g7.fresh (x.from hf g7) sm e (r.from hf g7) (by omega)) fun h8 s8 ts8 ws8 g8 c8 hw8 ht8 => ?_
  replace b1 := c8.box b1 (by omega)
  replace b2 := c8.box b2 (by omega)
  replace b6 := c8.box b6 (by omega)
  replace o4 := o4.from g7.fresh c8
  have l8 := c8.le
  try simp (disch := first | assumption | omega | (simp only [Int.ofNat_eq_natCast, neg_one]; done) | (simp only [Int.ofNat_eq_natCast, neg_one]; omega)) only [tysW, wB, mB, Nat.reduceAdd, Nat.reduceMul, List.length_cons, List.length_nil, ldB b1, clB b1, ldBL b1, clBL b1, ldB b2, clB b2, ldBL b2, clBL b2, ldB b6, clB b6, ldBL b6, clBL b6]
  refine ValS.goL g8 hp (s45 (d := d + 6) g8.fresh e.k.a e.k.b e.k.c e.inp _) fun h9 s9 ts9 ws9 g9 c9 hw9 ht9 => ?_
  replace b1 := c9.box b1 (by omega)
  replace b2 := c9.box b2 (by omega)
  replace b6 := c9.box b6 (by omega)
  replace o4 := o4.from g8.fresh c9
  have l9 := c9.le
  unfold X12_3
  try simp (disch := first | assumption | omega | (simp only [Int.ofNat_eq_natCast, neg_one]; done) | (simp only [Int.ofNat_eq_natCast, neg_one]; omega)) only [tysW, wB, mB, Nat.reduceAdd, Nat.reduceMul, List.length_cons, List.length_nil, ldB b1, clB b1, ldBL b1, clBL b1, ldB b2, clB b2, ldBL b2, clBL b2, ldB b6, clB b6, ldBL b6, clBL b6]
  refine ValS.goL g9 hp (s50 (d := d + 6) g9.fresh e.k.a e.k.b e.k.c e.inp _) fun h10 s10 ts10 ws10 g10 c10 hw10 ht10 => ?_
  replace b1 := c10.box b1 (by omega)
  replace b2 := c10.box b2 (by omega)
  replace b6 := c10.box b6 (by omega)
  replace o4 := o4.from g9.fresh c10
  have l10 := c10.le
  simp only [kval, kv]
  try simp (disch := first | assumption | omega | (simp only [Int.ofNat_eq_natCast, neg_one]; done) | (simp only [Int.ofNat_eq_natCast, neg_one]; omega)) only [tysW, wB, mB, Nat.reduceAdd, Nat.reduceMul, List.length_cons, List.length_nil, ldB b1, clB b1, ldBL b1, clBL b1, ldB b2, clB b2, ldBL b2, clBL b2, ldB b6, clB b6, ldBL b6, clBL b6, decide_true, Bool.and_self, Bool.and_true]
  unfold X12_2
  try simp (disch := first | assumption | omega | (simp only [Int.ofNat_eq_natCast, neg_one]; done) | (simp only [Int.ofNat_eq_natCast, neg_one]; omega)) only [tysW, wB, mB, Nat.reduceAdd, Nat.reduceMul, List.length_cons, List.length_nil, ldB b1, clB b1, ldBL b1, clBL b1, ldB b2, clB b2, ldBL b2, clBL b2, ldB b6, clB b6, ldBL b6, clBL b6]
  refine PureS.goL g10 hp (s35 (d := d + 5) (by omega) g10.fresh e e o4.sl.row (r.from hf g10).row (by omega)) fun v h11 s11 ts11 ws11 g11 c11 hv hw11 ht11 => ?_
  obtain ⟨b, rfl, hb⟩ := hv
  obtain rfl := hb.2 rfl
  unfold X12_1
  try simp (disch := first | assumption | omega | (simp only [Int.ofNat_eq_natCast, neg_one]; done) | (simp only [Int.ofNat_eq_natCast, neg_one]; omega)) only [tysW, wB, mB, Nat.reduceAdd, Nat.reduceMul, List.length_cons, List.length_nil, D_13]
  rw [wp_guard, if_pos (by repeat' (first | exact dynOk_nil _ _ | refine dyn_skip' ?_ | refine dyn_cons ?_ ?_ | exact allF_nil _ _ | refine allF_cons ?_ ?_ | exact disj_below hw7 (by omega) | exact disjA hw7 (by omega) | exact disjB hw7 (by omega) | exact disjC hw7 (by assumption) | exact disjD (fun m hm => by have := hw7 m hm; omega) | exact disj_below hw9 (by omega) | exact disjA hw9 (by omega) | exact disjB hw9 (by omega) | exact disjC hw9 (by assumption) | exact disjD (fun m hm => by have := hw9 m hm; omega) | exact disjN _ | exact disj1 (by omega) | exact disj2 (by omega) | exact disj3 (by assumption) | exact disjC hw7 (fun m hm => by have := hw9 m hm; omega) | exact disjC hw9 (fun m hm => by have := hw7 m hm; omega)))]
  exact hk _ _ g11
end
end Go.Ev.R

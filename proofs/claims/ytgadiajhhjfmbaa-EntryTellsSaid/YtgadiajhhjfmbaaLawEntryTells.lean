/- The Go function EntryTells returns true for any model and any entry: its functions are told as terms over a heap of names, whose answers the model's machine is proved to give. No condition. -/
import Derived.Test.YtgadiajhhjfmbaaRows
import Derived.Test.YtgadiajhhjfmbaaEntryTellsP5
import Derived.Test.YtgadiajhhjfmbaaEntryTellsA
import Derived.WalkKit
import Derived.ProofKit
import Derived.OpenShut
import Derived.ShutString
import Derived.ChangeOld
import Derived.Below
import Derived.SizedLaws
import Derived.Lib.SmallJoins
namespace Go.Proofs.Ytgadiajhhjfmbaa.entryTells
open Go.ChangeShapes Go.WideShapes Go.ChangeAt Go.RowKit Go.Joins Go.Deep
set_option linter.unusedVariables false
set_option linter.unusedSimpArgs false
theorem own : ownKnob Try.prog.godebug = none := by kernel_rfl
theorem laidOut : laidOutB Try.prog = true := by kernel_rfl
theorem hd {σ : Ev.Emb} {x y : Value} (h : Ev.VRs σ [x] [y]) : Ev.VR σ x y := by cases h with | cons h _ => exact h
theorem k3 : Try.prog.cellsOf 3 = 1 := by kernel_rfl
theorem k41 : Try.prog.cellsOf 41 = 1 := by kernel_rfl
theorem k97 : Try.prog.cellsOf 97 = 3 := by kernel_rfl
theorem k78 : Try.prog.cellsOf 78 = 1 := by kernel_rfl
theorem k80 : Try.prog.cellsOf 80 = 7 := by kernel_rfl
theorem k4 : Try.prog.cellsOf 4 = 1 := by kernel_rfl
theorem k43 : Try.prog.cellsOf 43 = 5 := by kernel_rfl
section
variable {H : Type} {enc : TypeId × Value → H} {w : World} {base : Nat} {held : Bool}
abbrev Is3 (h : Ev.T) (c : List Value) : Prop := ∃ a : Int, c = [.int .i64 a] ∧ (Lit.int .i64 a).wf = true
theorem keeps3 : Ev.Keeps Is3 := fun _ _ _ _ h => h
theorem lay3 {n : Nat} {cs : List Value} {x : DataW H × List MemPlace} (h : DataW.trod enc Try.prog w base (fun _ => true) held n 3 cs = some x) : Ev.CanLay w cs Is3 := by
  obtain ⟨a, rfl, -, hw⟩ := DataW.trod_int Try.underlying3 h
  exact (Ev.CanLay.same fun σ => .cons (.int _ _) .nil).mono fun h c e => ⟨a, e, hw⟩
abbrev Is41 (h : Ev.T) (c : List Value) : Prop := ∃ len cap, len ≤ cap ∧ Ev.RowQ len cap (fun _ => Is3) 1 h c
theorem keeps41 : Ev.Keeps Is41 := fun h h' c hs ⟨len, cap, a, b⟩ => ⟨len, cap, a, Ev.RowQ.keeps (fun _ => keeps3) h h' c hs b⟩
set_option maxRecDepth 100000 in
theorem lay41 {n : Nat} {cs : List Value} {x : DataW H × List MemPlace} (h : DataW.trod enc Try.prog w base (fun _ => true) held n 41 cs = some x) : Ev.CanLay w cs Is41 := by
  rcases open_slice Try.underlying41 h with ⟨rfl, -⟩ | ⟨a, len, cap, m, n, D, Pl, rfl, -, hl, -, hm, -, hx⟩
  · exact Ev.CanLay.nil.mono fun h c q => ⟨0, 0, Nat.le_refl _, q⟩
  · have hm : m = cap := by simpa using hm
    subst hm
    rw [k3] at hx
    obtain ⟨f, hf⟩ := choose_lt (α := List Value) (p := fun i c => w.cells? base (a.add (i * 1)) 1 = some c ∧ Ev.CanLay w c Is3) (fun i hi => by
      obtain ⟨cs', h1, h2⟩ := hx i hi
      exact ⟨cs', h1, lay3 h2⟩)
    exact (Ev.CanLay.slice (by decide) (f := f) (Q := fun _ => Is3) (fun _ => keeps3) hl (fun i hi => (World.cells?_some (hf i hi).1).2.1) (fun i j hi hj => by rw [← Go.Deep.add_add]; exact (World.cells?_some (hf i hi).1).2.2 j hj) (fun i hi => (hf i hi).2)).mono fun h c q => ⟨len, m, hl, q⟩
abbrev Is97 (h : Ev.T) (c : List Value) : Prop := ∃ x0 x1 x2 : List Value, c = x0 ++ (x1 ++ (x2)) ∧ Is3 h x0 ∧ Is41 h x1 ∧ Is3 h x2
theorem keeps97 : Ev.Keeps Is97 := fun h h' c hs ⟨x0, x1, x2, e, qx0, qx1, qx2⟩ => ⟨x0, x1, x2, e, keeps3 h h' x0 hs qx0, keeps41 h h' x1 hs qx1, keeps3 h h' x2 hs qx2⟩
set_option maxRecDepth 100000 in
theorem lay97 {n : Nat} {cs : List Value} {x : DataW H × List MemPlace} (h : DataW.trod enc Try.prog w base (fun _ => true) held n 97 cs = some x) : Ev.CanLay w cs Is97 := by
  obtain ⟨ys, n', _, _, hlen, hyl, hg⟩ := DataW.trod_struct Try.underlying97 h
  rw [k97] at hlen
  match cs, hlen, ys, hyl with
  | [c0, c1, c2], _, [y0, y1, y2], _ =>
    have g0 : DataW.trod enc Try.prog w base (fun _ => true) held n' 3 [c0] = some y0 := by
      have := hg 0 _ rfl
      simpa [k3, k41, k97, k78, k80, k4, k43, Value.cells] using this
    have g1 : DataW.trod enc Try.prog w base (fun _ => true) held n' 41 [c1] = some y1 := by
      have := hg 1 _ rfl
      simpa [k3, k41, k97, k78, k80, k4, k43, Value.cells] using this
    have g2 : DataW.trod enc Try.prog w base (fun _ => true) held n' 3 [c2] = some y2 := by
      have := hg 2 _ rfl
      simpa [k3, k41, k97, k78, k80, k4, k43, Value.cells] using this
    refine ((lay3 g0).append keeps3 ((lay41 g1).append keeps41 (lay3 g2))).mono ?_
    rintro h c ⟨x0, z0, rfl, q0, x1, z1, rfl, q1, q2⟩
    exact ⟨x0, x1, _, rfl, q0, q1, q2⟩
abbrev Is78 (h : Ev.T) (c : List Value) : Prop := ∃ len cap, len ≤ cap ∧ Ev.RowQ len cap (fun _ => Is97) 3 h c
theorem keeps78 : Ev.Keeps Is78 := fun h h' c hs ⟨len, cap, a, b⟩ => ⟨len, cap, a, Ev.RowQ.keeps (fun _ => keeps97) h h' c hs b⟩
set_option maxRecDepth 100000 in
theorem lay78 {n : Nat} {cs : List Value} {x : DataW H × List MemPlace} (h : DataW.trod enc Try.prog w base (fun _ => true) held n 78 cs = some x) : Ev.CanLay w cs Is78 := by
  rcases open_slice Try.underlying78 h with ⟨rfl, -⟩ | ⟨a, len, cap, m, n, D, Pl, rfl, -, hl, -, hm, -, hx⟩
  · exact Ev.CanLay.nil.mono fun h c q => ⟨0, 0, Nat.le_refl _, q⟩
  · have hm : m = cap := by simpa using hm
    subst hm
    rw [k97] at hx
    obtain ⟨f, hf⟩ := choose_lt (α := List Value) (p := fun i c => w.cells? base (a.add (i * 3)) 3 = some c ∧ Ev.CanLay w c Is97) (fun i hi => by
      obtain ⟨cs', h1, h2⟩ := hx i hi
      exact ⟨cs', h1, lay97 h2⟩)
    exact (Ev.CanLay.slice (by decide) (f := f) (Q := fun _ => Is97) (fun _ => keeps97) hl (fun i hi => (World.cells?_some (hf i hi).1).2.1) (fun i j hi hj => by rw [← Go.Deep.add_add]; exact (World.cells?_some (hf i hi).1).2.2 j hj) (fun i hi => (hf i hi).2)).mono fun h c q => ⟨len, m, hl, q⟩
abbrev Is80 (h : Ev.T) (c : List Value) : Prop := ∃ x0 x1 x2 x3 x4 x5 x6 : List Value, c = x0 ++ (x1 ++ (x2 ++ (x3 ++ (x4 ++ (x5 ++ (x6)))))) ∧ Is3 h x0 ∧ Is41 h x1 ∧ Is41 h x2 ∧ Is3 h x3 ∧ Is3 h x4 ∧ Is3 h x5 ∧ Is78 h x6
theorem keeps80 : Ev.Keeps Is80 := fun h h' c hs ⟨x0, x1, x2, x3, x4, x5, x6, e, qx0, qx1, qx2, qx3, qx4, qx5, qx6⟩ => ⟨x0, x1, x2, x3, x4, x5, x6, e, keeps3 h h' x0 hs qx0, keeps41 h h' x1 hs qx1, keeps41 h h' x2 hs qx2, keeps3 h h' x3 hs qx3, keeps3 h h' x4 hs qx4, keeps3 h h' x5 hs qx5, keeps78 h h' x6 hs qx6⟩
set_option maxRecDepth 100000 in
theorem lay80 {n : Nat} {cs : List Value} {x : DataW H × List MemPlace} (h : DataW.trod enc Try.prog w base (fun _ => true) held n 80 cs = some x) : Ev.CanLay w cs Is80 := by
  obtain ⟨ys, n', _, _, hlen, hyl, hg⟩ := DataW.trod_struct Try.underlying80 h
  rw [k80] at hlen
  match cs, hlen, ys, hyl with
  | [c0, c1, c2, c3, c4, c5, c6], _, [y0, y1, y2, y3, y4, y5, y6], _ =>
    have g0 : DataW.trod enc Try.prog w base (fun _ => true) held n' 3 [c0] = some y0 := by
      have := hg 0 _ rfl
      simpa [k3, k41, k97, k78, k80, k4, k43, Value.cells] using this
    have g1 : DataW.trod enc Try.prog w base (fun _ => true) held n' 41 [c1] = some y1 := by
      have := hg 1 _ rfl
      simpa [k3, k41, k97, k78, k80, k4, k43, Value.cells] using this
    have g2 : DataW.trod enc Try.prog w base (fun _ => true) held n' 41 [c2] = some y2 := by
      have := hg 2 _ rfl
      simpa [k3, k41, k97, k78, k80, k4, k43, Value.cells] using this
    have g3 : DataW.trod enc Try.prog w base (fun _ => true) held n' 3 [c3] = some y3 := by
      have := hg 3 _ rfl
      simpa [k3, k41, k97, k78, k80, k4, k43, Value.cells] using this
    have g4 : DataW.trod enc Try.prog w base (fun _ => true) held n' 3 [c4] = some y4 := by
      have := hg 4 _ rfl
      simpa [k3, k41, k97, k78, k80, k4, k43, Value.cells] using this
    have g5 : DataW.trod enc Try.prog w base (fun _ => true) held n' 3 [c5] = some y5 := by
      have := hg 5 _ rfl
      simpa [k3, k41, k97, k78, k80, k4, k43, Value.cells] using this
    have g6 : DataW.trod enc Try.prog w base (fun _ => true) held n' 78 [c6] = some y6 := by
      have := hg 6 _ rfl
      simpa [k3, k41, k97, k78, k80, k4, k43, Value.cells] using this
    refine ((lay3 g0).append keeps3 ((lay41 g1).append keeps41 ((lay41 g2).append keeps41 ((lay3 g3).append keeps3 ((lay3 g4).append keeps3 ((lay3 g5).append keeps3 (lay78 g6))))))).mono ?_
    rintro h c ⟨x0, z0, rfl, q0, x1, z1, rfl, q1, x2, z2, rfl, q2, x3, z3, rfl, q3, x4, z4, rfl, q4, x5, z5, rfl, q5, q6⟩
    exact ⟨x0, x1, x2, x3, x4, x5, _, rfl, q0, q1, q2, q3, q4, q5, q6⟩
abbrev Is4 (h : Ev.T) (c : List Value) : Prop := ∃ a : Bool, c = [.bool a]
theorem keeps4 : Ev.Keeps Is4 := fun _ _ _ _ h => h
theorem lay4 {n : Nat} {cs : List Value} {x : DataW H × List MemPlace} (h : DataW.trod enc Try.prog w base (fun _ => true) held n 4 cs = some x) : Ev.CanLay w cs Is4 := by
  obtain ⟨a, rfl, -⟩ := DataW.trod_bool Try.underlying4 h
  exact (Ev.CanLay.same fun σ => .cons (.bool _) .nil).mono fun h c e => ⟨a, e⟩
abbrev Is43 (h : Ev.T) (c : List Value) : Prop := ∃ x0 x1 x2 x3 x4 : List Value, c = x0 ++ (x1 ++ (x2 ++ (x3 ++ (x4)))) ∧ Is3 h x0 ∧ Is3 h x1 ∧ Is3 h x2 ∧ Is4 h x3 ∧ Is41 h x4
theorem keeps43 : Ev.Keeps Is43 := fun h h' c hs ⟨x0, x1, x2, x3, x4, e, qx0, qx1, qx2, qx3, qx4⟩ => ⟨x0, x1, x2, x3, x4, e, keeps3 h h' x0 hs qx0, keeps3 h h' x1 hs qx1, keeps3 h h' x2 hs qx2, keeps4 h h' x3 hs qx3, keeps41 h h' x4 hs qx4⟩
set_option maxRecDepth 100000 in
theorem lay43 {n : Nat} {cs : List Value} {x : DataW H × List MemPlace} (h : DataW.trod enc Try.prog w base (fun _ => true) held n 43 cs = some x) : Ev.CanLay w cs Is43 := by
  obtain ⟨ys, n', _, _, hlen, hyl, hg⟩ := DataW.trod_struct Try.underlying43 h
  rw [k43] at hlen
  match cs, hlen, ys, hyl with
  | [c0, c1, c2, c3, c4], _, [y0, y1, y2, y3, y4], _ =>
    have g0 : DataW.trod enc Try.prog w base (fun _ => true) held n' 3 [c0] = some y0 := by
      have := hg 0 _ rfl
      simpa [k3, k41, k97, k78, k80, k4, k43, Value.cells] using this
    have g1 : DataW.trod enc Try.prog w base (fun _ => true) held n' 3 [c1] = some y1 := by
      have := hg 1 _ rfl
      simpa [k3, k41, k97, k78, k80, k4, k43, Value.cells] using this
    have g2 : DataW.trod enc Try.prog w base (fun _ => true) held n' 3 [c2] = some y2 := by
      have := hg 2 _ rfl
      simpa [k3, k41, k97, k78, k80, k4, k43, Value.cells] using this
    have g3 : DataW.trod enc Try.prog w base (fun _ => true) held n' 4 [c3] = some y3 := by
      have := hg 3 _ rfl
      simpa [k3, k41, k97, k78, k80, k4, k43, Value.cells] using this
    have g4 : DataW.trod enc Try.prog w base (fun _ => true) held n' 41 [c4] = some y4 := by
      have := hg 4 _ rfl
      simpa [k3, k41, k97, k78, k80, k4, k43, Value.cells] using this
    refine ((lay3 g0).append keeps3 ((lay3 g1).append keeps3 ((lay3 g2).append keeps3 ((lay4 g3).append keeps4 (lay41 g4))))).mono ?_
    rintro h c ⟨x0, z0, rfl, q0, x1, z1, rfl, q1, x2, z2, rfl, q2, x3, z3, rfl, q3, q4⟩
    exact ⟨x0, x1, x2, x3, _, rfl, q0, q1, q2, q3, q4⟩
end
noncomputable abbrev kn : Ev.Known Try.prog := { kn := fun f => Nat.beq f 13, ok := fun f h w => by obtain rfl := Nat.eq_of_beq_eq_true h; exact awake w }
theorem isInt {h : Ev.T} {c : List Value} (q : Is3 h c) : ∃ x : Int, c = Ev.EI.f x := by
  obtain ⟨x, rfl, -⟩ := q
  exact ⟨x, rfl⟩
theorem isInts {h : Ev.T} {c : List Value} (q : Is41 h c) : ∃ p len cap l, c = [.slice p len cap] ∧ Ev.Sl Ev.EI h p len cap l := by
  obtain ⟨len, cap, hl, r⟩ := q
  obtain ⟨p, l, rfl, sl, -⟩ := Ev.RowQ.sl (E := Ev.EI) (R := fun _ => True) r hl (fun i c q => by
    obtain ⟨x, hx⟩ := isInt q
    exact ⟨x, hx, trivial⟩)
  exact ⟨p, len, cap, l, rfl, sl⟩
theorem isRow {h : Ev.T} {c : List Value} (q : Is97 h c) : ∃ x : Ev.R.RW, c = Ev.R.rwv x ∧ Ev.Sl Ev.EI h x.p x.n x.c x.H := by
  obtain ⟨_, _, _, rfl, ⟨a, rfl, -⟩, z, ⟨b, rfl, -⟩⟩ := q
  obtain ⟨p, len, cap, l, rfl, sl⟩ := isInts z
  exact ⟨⟨a, p, len, cap, b, l⟩, rfl, sl⟩
theorem isModel {h : Ev.T} {c : List Value} (q : Is80 h c) : ∃ m : Ev.R.MO, c = Ev.R.mov m ∧ Ev.R.MoAt h m := by
  obtain ⟨_, _, _, _, _, _, _, rfl, ⟨n, rfl, -⟩, zA, zQ, ⟨t, rfl, -⟩, ⟨g, rfl, -⟩, ⟨r, rfl, -⟩, ⟨len, cap, hl, zR⟩⟩ := q
  obtain ⟨pA, nA, cA, A, rfl, sA⟩ := isInts zA
  obtain ⟨pQ, nQ, cQ, Q, rfl, sQ⟩ := isInts zQ
  obtain ⟨pR, R, rfl, sR, hR⟩ := Ev.RowQ.sl (E := Ev.R.ER) (R := fun x => Ev.Sl Ev.EI h x.p x.n x.c x.H) zR hl (fun i c q => isRow q)
  exact ⟨⟨n, pA, nA, cA, A, pQ, nQ, cQ, Q, t, g, r, pR, len, cap, R⟩, rfl, sA, sQ, sR.row, hR⟩
theorem isEntry {h : Ev.T} {c : List Value} (q : Is43 h c) : ∃ (e : Ev.R.EN) (p : Option Addr) (cap : Nat), c = Ev.R.ev e p cap ∧ Ev.Sl Ev.EI h p e.data.length cap e.data := by
  obtain ⟨_, _, _, _, _, rfl, ⟨a, rfl, -⟩, ⟨b, rfl, -⟩, ⟨c, rfl, -⟩, ⟨i, rfl, -⟩, z⟩ := q
  obtain ⟨p, len, cap, l, rfl, sl⟩ := isInts z
  have hl := sl.row.1
  subst hl
  exact ⟨⟨⟨a, b, c⟩, i, l⟩, p, cap, rfl, sl⟩
set_option maxRecDepth 100000 in
theorem walk (v0 : List Value) (v1 : List Value) (W : World) (hv0 : Ev.CanLay W v0 Is80) (hv1 : Ev.CanLay W v1 Is43) :
    Calls Try.prog 12 #[.agg ⟨v0⟩, .agg ⟨v1⟩] W (fun e W' => e = .returned (.bool true) ∧ Below W.heap.size W W') := by
  letI : Ev.Known Try.prog := kn
  obtain ⟨σ0, h0, s0, c0, lay0, le0, -, sub0, vr0, q0⟩ := hv0 _ _ _ (Ev.LaySt.start W)
  obtain ⟨σ1, h1, s1, c1, lay1, le1, -, sub1, vr1, q1⟩ := hv1 _ _ _ lay0
  replace vr0 := vr0.mono le1
  replace q0 := keeps80 _ _ _ sub1 q0
  obtain ⟨m, rfl, hm⟩ := isModel q0
  obtain ⟨e, p, cap, rfl, sl⟩ := isEntry q1
  refine Ev.calls_wp (P := Try.prog) (N := 100000) (by kernel_rfl) (Ev.R.tab_ok 100000 rfl) (fun f h C args K s => by obtain rfl := Nat.eq_of_beq_eq_true h; kernel_rfl) (by kernel_rfl) (by kernel_rfl) (d := 8) (by decide) lay1 (args := [.agg ⟨Ev.R.mov m⟩, Ev.R.eval e p cap])
    (.cons (Ev.VR.of_agg vr0) (.cons (Ev.VR.of_agg vr1) .nil)) (pw := fun _ => True) ?_
  exact (Ev.R.s12 (N := 100000) (d := 0) rfl lay1.fresh hm e sl).use (fun _ _ => trivial) fun h1 s1 _ _ => rfl
set_option maxRecDepth 100000 in
theorem lifted (os : Os) (started : os.Started) (H : Type) (enc : TypeId × Value → H) :
    ReturnsInHanded {} Try.checked os 12 .any (Rows.entryTellsSpec.pre6 enc Try.prog Try.f12 Rows.entryTellsRow.domain false) (Rows.entryTellsSpec.post enc Try.prog Try.f12 false true false false) := by
  refine returnsInHanded_of_change_sized (C := Try.checked) own started (by kernel_rfl) Try.func12
    (ChangeSpec.witness6 (enc := enc) (C := Try.checked) false ⟨#[], #[.agg #[.int .i64 0, .slice none 0 0, .slice none 0 0, .int .i64 0, .int .i64 0, .int .i64 0, .slice none 0 0], .agg #[.int .i64 0, .int .i64 0, .int .i64 0, .bool false, .slice none 0 0]], []⟩ 8 (by kernel_rfl) (by kernel_rfl) (by kernel_rfl) (by kernel_rfl)) ?_
  intro W base args ds gs before hval0 hW hcnd hsz0 _
  have hval : ∀ (j : Nat) t v, Try.f12.params[j]? = some t → args[j]? = some v → Value.okWide Try.prog W .any base t v := hval0
  have hW' := hW
  obtain ⟨p, q, hA0, hV, rfl, hfz, hnd⟩ := hW
  have hA : DataW.TrodAll enc Try.prog W 0 (fun _ => true) true Try.f12.params.toList args.toList ds p := hA0
  rw [Try.params12] at hA hval
  obtain ⟨v0, vs0, d0, ds0, p0, q0, hargs, rfl, rfl, h0, r0⟩ := trodAll_cons hA
  obtain ⟨v1, vs1, d1, ds1, p1, q1, rfl, rfl, rfl, h1, r1⟩ := trodAll_cons r0
  obtain ⟨rfl, rfl, rfl⟩ := trodAll_nil r1
  obtain rfl : args = #[v0, v1] := by cases args; simp_all
  obtain ⟨rfl, rfl⟩ := trodVars_none hV
  have k0 := h0
  have lt0 : ∀ x ∈ p0, x.block < W.heap.size := by obtain ⟨m, hm⟩ := k0; exact DataW.trod_lt m _ _ _ hm
  have k1 := h1
  have lt1 : ∀ x ∈ p1, x.block < W.heap.size := by obtain ⟨m, hm⟩ := k1; exact DataW.trod_lt m _ _ _ hm
  obtain ⟨m0, hm0⟩ := h0
  obtain ⟨⟨v0⟩, rfl, hsz0⟩ := okWide_struct Try.underlying80 (hval 0 80 v0 rfl rfl)
  obtain ⟨m1, hm1⟩ := h1
  obtain ⟨⟨v1⟩, rfl, hsz1⟩ := okWide_struct Try.underlying43 (hval 1 43 v1 rfl rfl)
  clear hA0 hval0 hsz0
  refine (walk _ _ W (lay80 hm0) (lay43 hm1)).mono fun e W' ⟨he, bel⟩ => ?_
  subst he
  exact ⟨_, rfl, _, _, _, [], _, [], hW', trodAll_mk1 (shut_bool Try.underlying4 _), (trodAll_cons_mk (Below.trod laidOut (by kernel_rfl) (of_decide_eq_true (by kernel_rfl)) k0 bel lt0) (trodAll_cons_mk (Below.trod laidOut (by kernel_rfl) (of_decide_eq_true (by kernel_rfl)) k1 bel lt1) trodAll_mk0)), rfl, bel.frame _, fun h => by cases h⟩
theorem over : Rows.entryTellsRow.holds Try.pinned (OpenSpec.ofChange Rows.entryTellsSpec) :=
  OpenClaim.holds_of_wide 12 Try.f12 rfl rfl rfl rfl rfl rfl rfl ⟨rfl, rfl, rfl, rfl, rfl⟩ rfl rfl rfl rfl rfl (by kernel_rfl) Try.func12 (by kernel_rfl)
    (of_decide_eq_true (by kernel_rfl)) (by unfold Func.isWrapper; first | (rw [if_pos (by decide +kernel)]; kernel_rfl) | (rw [if_neg (by decide +kernel)]; exact ⟨rfl, rfl⟩))
    (fun os started H enc _ => lifted os started H enc)
theorem proved : Rows.EntryTellsSaid := over
#print axioms proved
end Go.Proofs.Ytgadiajhhjfmbaa.entryTells
namespace Go.Proofs.Ytgadiajhhjfmbaa
/-- The row, under a short name, for the claim. -/
theorem entryTells_holds : Rows.EntryTellsSaid := entryTells.proved
end Go.Proofs.Ytgadiajhhjfmbaa

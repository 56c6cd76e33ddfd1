/- The Go function TalkTold returns true for any two tellings: its functions are told as terms over a heap of names, whose answers the model's machine is proved to give. No condition. -/
import Derived.Test.YtnffkmnjpnlleaaRows
import Derived.Test.YtnffkmnjpnlleaaTalkToldP2
import Derived.Test.YtnffkmnjpnlleaaTalkToldA
import Derived.WalkKit
import Derived.ProofKit
import Derived.OpenShut
import Derived.ShutString
import Derived.ChangeOld
import Derived.Below
import Derived.SizedLaws
import Derived.Lib.SmallJoins
namespace Go.Proofs.Ytnffkmnjpnlleaa.talkTold
open Go.ChangeShapes Go.WideShapes Go.ChangeAt Go.RowKit Go.Joins Go.Deep
set_option linter.unusedVariables false
set_option linter.unusedSimpArgs false
theorem own : ownKnob Try.prog.godebug = none := by kernel_rfl
theorem laidOut : laidOutB Try.prog = true := by kernel_rfl
theorem hd {σ : Ev.Emb} {x y : Value} (h : Ev.VRs σ [x] [y]) : Ev.VR σ x y := by cases h with | cons h _ => exact h
theorem k3 : Try.prog.cellsOf 3 = 1 := by kernel_rfl
theorem k35 : Try.prog.cellsOf 35 = 1 := by kernel_rfl
theorem k31 : Try.prog.cellsOf 31 = 1 := by kernel_rfl
theorem k4 : Try.prog.cellsOf 4 = 1 := by kernel_rfl
theorem k58 : Try.prog.cellsOf 58 = 6 := by kernel_rfl
theorem k60 : Try.prog.cellsOf 60 = 12 := by kernel_rfl
section
variable {H : Type} {enc : TypeId × Value → H} {w : World} {base : Nat} {held : Bool}
abbrev Is3 (h : Ev.T) (c : List Value) : Prop := ∃ a : Int, c = [.int .i64 a] ∧ (Lit.int .i64 a).wf = true
theorem keeps3 : Ev.Keeps Is3 := fun _ _ _ _ h => h
theorem lay3 {n : Nat} {cs : List Value} {x : DataW H × List MemPlace} (h : DataW.trod enc Try.prog w base (fun _ => true) held n 3 cs = some x) : Ev.CanLay w cs Is3 := by
  obtain ⟨a, rfl, -, hw⟩ := DataW.trod_int Try.underlying3 h
  exact (Ev.CanLay.same fun σ => .cons (.int _ _) .nil).mono fun h c e => ⟨a, e, hw⟩
abbrev Is35 (h : Ev.T) (c : List Value) : Prop := ∃ a : Int, c = [.int .i64 a] ∧ (Lit.int .i64 a).wf = true
theorem keeps35 : Ev.Keeps Is35 := fun _ _ _ _ h => h
theorem lay35 {n : Nat} {cs : List Value} {x : DataW H × List MemPlace} (h : DataW.trod enc Try.prog w base (fun _ => true) held n 35 cs = some x) : Ev.CanLay w cs Is35 := by
  obtain ⟨a, rfl, -, hw⟩ := DataW.trod_int Try.underlying35 h
  exact (Ev.CanLay.same fun σ => .cons (.int _ _) .nil).mono fun h c e => ⟨a, e, hw⟩
abbrev Is31 (h : Ev.T) (c : List Value) : Prop := ∃ len cap, len ≤ cap ∧ Ev.RowQ len cap (fun _ => Is3) 1 h c
theorem keeps31 : Ev.Keeps Is31 := fun h h' c hs ⟨len, cap, a, b⟩ => ⟨len, cap, a, Ev.RowQ.keeps (fun _ => keeps3) h h' c hs b⟩
set_option maxRecDepth 100000 in
theorem lay31 {n : Nat} {cs : List Value} {x : DataW H × List MemPlace} (h : DataW.trod enc Try.prog w base (fun _ => true) held n 31 cs = some x) : Ev.CanLay w cs Is31 := by
  rcases open_slice Try.underlying31 h with ⟨rfl, -⟩ | ⟨a, len, cap, m, n, D, Pl, rfl, -, hl, -, hm, -, hx⟩
  · exact Ev.CanLay.nil.mono fun h c q => ⟨0, 0, Nat.le_refl _, q⟩
  · have hm : m = cap := by simpa using hm
    subst hm
    rw [k3] at hx
    obtain ⟨f, hf⟩ := choose_lt (α := List Value) (p := fun i c => w.cells? base (a.add (i * 1)) 1 = some c ∧ Ev.CanLay w c Is3) (fun i hi => by
      obtain ⟨cs', h1, h2⟩ := hx i hi
      exact ⟨cs', h1, lay3 h2⟩)
    exact (Ev.CanLay.slice (by decide) (f := f) (Q := fun _ => Is3) (fun _ => keeps3) hl (fun i hi => (World.cells?_some (hf i hi).1).2.1) (fun i j hi hj => by rw [← Go.Deep.add_add]; exact (World.cells?_some (hf i hi).1).2.2 j hj) (fun i hi => (hf i hi).2)).mono fun h c q => ⟨len, m, hl, q⟩
abbrev Is4 (h : Ev.T) (c : List Value) : Prop := ∃ a : Bool, c = [.bool a]
theorem keeps4 : Ev.Keeps Is4 := fun _ _ _ _ h => h
theorem lay4 {n : Nat} {cs : List Value} {x : DataW H × List MemPlace} (h : DataW.trod enc Try.prog w base (fun _ => true) held n 4 cs = some x) : Ev.CanLay w cs Is4 := by
  obtain ⟨a, rfl, -⟩ := DataW.trod_bool Try.underlying4 h
  exact (Ev.CanLay.same fun σ => .cons (.bool _) .nil).mono fun h c e => ⟨a, e⟩
abbrev Is58 (h : Ev.T) (c : List Value) : Prop := ∃ x0 x1 x2 x3 x4 x5 : List Value, c = x0 ++ (x1 ++ (x2 ++ (x3 ++ (x4 ++ (x5))))) ∧ Is3 h x0 ∧ Is31 h x1 ∧ Is31 h x2 ∧ Is4 h x3 ∧ Is3 h x4 ∧ Is3 h x5
theorem keeps58 : Ev.Keeps Is58 := fun h h' c hs ⟨x0, x1, x2, x3, x4, x5, e, qx0, qx1, qx2, qx3, qx4, qx5⟩ => ⟨x0, x1, x2, x3, x4, x5, e, keeps3 h h' x0 hs qx0, keeps31 h h' x1 hs qx1, keeps31 h h' x2 hs qx2, keeps4 h h' x3 hs qx3, keeps3 h h' x4 hs qx4, keeps3 h h' x5 hs qx5⟩
set_option maxRecDepth 100000 in
theorem lay58 {n : Nat} {cs : List Value} {x : DataW H × List MemPlace} (h : DataW.trod enc Try.prog w base (fun _ => true) held n 58 cs = some x) : Ev.CanLay w cs Is58 := by
  obtain ⟨ys, n', _, _, hlen, hyl, hg⟩ := DataW.trod_struct Try.underlying58 h
  rw [k58] at hlen
  match cs, hlen, ys, hyl with
  | [c0, c1, c2, c3, c4, c5], _, [y0, y1, y2, y3, y4, y5], _ =>
    have g0 : DataW.trod enc Try.prog w base (fun _ => true) held n' 3 [c0] = some y0 := by
      have := hg 0 _ rfl
      simpa [k3, k35, k31, k4, k58, k60, Value.cells] using this
    have g1 : DataW.trod enc Try.prog w base (fun _ => true) held n' 31 [c1] = some y1 := by
      have := hg 1 _ rfl
      simpa [k3, k35, k31, k4, k58, k60, Value.cells] using this
    have g2 : DataW.trod enc Try.prog w base (fun _ => true) held n' 31 [c2] = some y2 := by
      have := hg 2 _ rfl
      simpa [k3, k35, k31, k4, k58, k60, Value.cells] using this
    have g3 : DataW.trod enc Try.prog w base (fun _ => true) held n' 4 [c3] = some y3 := by
      have := hg 3 _ rfl
      simpa [k3, k35, k31, k4, k58, k60, Value.cells] using this
    have g4 : DataW.trod enc Try.prog w base (fun _ => true) held n' 3 [c4] = some y4 := by
      have := hg 4 _ rfl
      simpa [k3, k35, k31, k4, k58, k60, Value.cells] using this
    have g5 : DataW.trod enc Try.prog w base (fun _ => true) held n' 3 [c5] = some y5 := by
      have := hg 5 _ rfl
      simpa [k3, k35, k31, k4, k58, k60, Value.cells] using this
    refine ((lay3 g0).append keeps3 ((lay31 g1).append keeps31 ((lay31 g2).append keeps31 ((lay4 g3).append keeps4 ((lay3 g4).append keeps3 (lay3 g5)))))).mono ?_
    rintro h c ⟨x0, z0, rfl, q0, x1, z1, rfl, q1, x2, z2, rfl, q2, x3, z3, rfl, q3, x4, z4, rfl, q4, q5⟩
    exact ⟨x0, x1, x2, x3, x4, _, rfl, q0, q1, q2, q3, q4, q5⟩
abbrev Is60 (h : Ev.T) (c : List Value) : Prop := ∃ x0 x1 x2 x3 x4 x5 x6 : List Value, c = x0 ++ (x1 ++ (x2 ++ (x3 ++ (x4 ++ (x5 ++ (x6)))))) ∧ Is3 h x0 ∧ Is3 h x1 ∧ Is3 h x2 ∧ Is35 h x3 ∧ Is31 h x4 ∧ Is4 h x5 ∧ Is58 h x6
theorem keeps60 : Ev.Keeps Is60 := fun h h' c hs ⟨x0, x1, x2, x3, x4, x5, x6, e, qx0, qx1, qx2, qx3, qx4, qx5, qx6⟩ => ⟨x0, x1, x2, x3, x4, x5, x6, e, keeps3 h h' x0 hs qx0, keeps3 h h' x1 hs qx1, keeps3 h h' x2 hs qx2, keeps35 h h' x3 hs qx3, keeps31 h h' x4 hs qx4, keeps4 h h' x5 hs qx5, keeps58 h h' x6 hs qx6⟩
set_option maxRecDepth 100000 in
theorem lay60 {n : Nat} {cs : List Value} {x : DataW H × List MemPlace} (h : DataW.trod enc Try.prog w base (fun _ => true) held n 60 cs = some x) : Ev.CanLay w cs Is60 := by
  obtain ⟨ys, n', _, _, hlen, hyl, hg⟩ := DataW.trod_struct Try.underlying60 h
  rw [k60] at hlen
  match cs, hlen, ys, hyl with
  | [c0, c1, c2, c3, c4, c5, c6, c7, c8, c9, c10, c11], _, [y0, y1, y2, y3, y4, y5, y6], _ =>
    have g0 : DataW.trod enc Try.prog w base (fun _ => true) held n' 3 [c0] = some y0 := by
      have := hg 0 _ rfl
      simpa [k3, k35, k31, k4, k58, k60, Value.cells] using this
    have g1 : DataW.trod enc Try.prog w base (fun _ => true) held n' 3 [c1] = some y1 := by
      have := hg 1 _ rfl
      simpa [k3, k35, k31, k4, k58, k60, Value.cells] using this
    have g2 : DataW.trod enc Try.prog w base (fun _ => true) held n' 3 [c2] = some y2 := by
      have := hg 2 _ rfl
      simpa [k3, k35, k31, k4, k58, k60, Value.cells] using this
    have g3 : DataW.trod enc Try.prog w base (fun _ => true) held n' 35 [c3] = some y3 := by
      have := hg 3 _ rfl
      simpa [k3, k35, k31, k4, k58, k60, Value.cells] using this
    have g4 : DataW.trod enc Try.prog w base (fun _ => true) held n' 31 [c4] = some y4 := by
      have := hg 4 _ rfl
      simpa [k3, k35, k31, k4, k58, k60, Value.cells] using this
    have g5 : DataW.trod enc Try.prog w base (fun _ => true) held n' 4 [c5] = some y5 := by
      have := hg 5 _ rfl
      simpa [k3, k35, k31, k4, k58, k60, Value.cells] using this
    have g6 : DataW.trod enc Try.prog w base (fun _ => true) held n' 58 [c6, c7, c8, c9, c10, c11] = some y6 := by
      have := hg 6 _ rfl
      simpa [k3, k35, k31, k4, k58, k60, Value.cells] using this
    refine ((lay3 g0).append keeps3 ((lay3 g1).append keeps3 ((lay3 g2).append keeps3 ((lay35 g3).append keeps35 ((lay31 g4).append keeps31 ((lay4 g5).append keeps4 (lay58 g6))))))).mono ?_
    rintro h c ⟨x0, z0, rfl, q0, x1, z1, rfl, q1, x2, z2, rfl, q2, x3, z3, rfl, q3, x4, z4, rfl, q4, x5, z5, rfl, q5, q6⟩
    exact ⟨x0, x1, x2, x3, x4, x5, _, rfl, q0, q1, q2, q3, q4, q5, q6⟩
end
noncomputable abbrev kn : Ev.Known Try.prog := ⟨fun f => Nat.beq f 21, fun f h w => by obtain rfl := Nat.eq_of_beq_eq_true h; exact awake w⟩
theorem in64 {a : Int} (h : (Lit.int .i64 a).wf = true) : Ev.R.In64 a := by
  have : -9223372036854775808 ≤ a ∧ a ≤ 9223372036854775807 := by simpa [Lit.wf, IntKind.min, IntKind.max, IntKind.signed, IntKind.bits] using h
  exact this
theorem isInt {h : Ev.T} {c : List Value} (q : Is3 h c) : ∃ x : Int, c = Ev.EI.f x ∧ Ev.R.In64 x := by
  obtain ⟨x, rfl, w⟩ := q
  exact ⟨x, rfl, in64 w⟩
theorem isInts {h : Ev.T} {c : List Value} (q : Is31 h c) : ∃ p len cap l, c = [.slice p len cap] ∧ Ev.Sl Ev.EI h p len cap l ∧ ∀ z ∈ l, Ev.R.In64 z := by
  obtain ⟨len, cap, hl, r⟩ := q
  obtain ⟨p, l, rfl, sl, hz⟩ := Ev.RowQ.sl (E := Ev.EI) (R := fun z => Ev.R.In64 z) r hl (fun i c q => isInt q)
  exact ⟨p, len, cap, l, rfl, sl, hz⟩
theorem isBel {h : Ev.T} {c : List Value} (q : Is58 h c) : ∃ (b : Ev.R.BV) (xl pl : List Int), c = Ev.R.bvv b ∧ Ev.Sl Ev.EI h b.xp b.xn b.xc xl ∧ Ev.Sl Ev.EI h b.pp b.pn b.pc pl ∧ Ev.R.In64 b.time ∧ Ev.R.In64 b.pass ∧ Ev.R.In64 b.fail ∧ (∀ z ∈ xl, Ev.R.In64 z) ∧ ∀ z ∈ pl, Ev.R.In64 z := by
  obtain ⟨_, _, _, _, _, _, rfl, ⟨a, rfl, w1⟩, q1, q2, ⟨f, rfl⟩, ⟨b, rfl, w2⟩, ⟨c, rfl, w3⟩⟩ := q
  obtain ⟨xp, xn, xc, xl, rfl, sx, hx⟩ := isInts q1
  obtain ⟨pp, pn, pc, pl, rfl, sp, hp⟩ := isInts q2
  exact ⟨⟨a, xp, xn, xc, pp, pn, pc, f, b, c⟩, xl, pl, rfl, sx, sp, in64 w1, in64 w2, in64 w3, hx, hp⟩
theorem isTell {h : Ev.T} {c : List Value} (q : Is60 h c) : ∃ (x : Ev.R.TV) (nl xl pl : List Int), c = Ev.R.tvv x ∧ Ev.R.ListsT h x nl xl pl ∧ Ev.R.Nums x nl xl pl := by
  obtain ⟨_, _, _, _, _, _, _, rfl, ⟨a, rfl, -⟩, ⟨b, rfl, -⟩, ⟨c, rfl, -⟩, ⟨d, rfl, -⟩, q1, ⟨e, rfl⟩, q2⟩ := q
  obtain ⟨np, nn, nc, nl, rfl, sn, hn⟩ := isInts q1
  obtain ⟨bb, xl, pl, rfl, sx, sp, w1, w2, w3, hx, hp⟩ := isBel q2
  exact ⟨⟨a, b, c, d, np, nn, nc, e, bb⟩, nl, xl, pl, rfl, ⟨sn.row, sx.row, sp⟩, ⟨sn.row.1, sx.row.1, sp.row.1, w1, w2, w3, hn, hx, hp⟩⟩
set_option maxRecDepth 100000 in
theorem walk (v0 : List Value) (v1 : List Value) (W : World) (hv0 : Ev.CanLay W v0 Is60) (hv1 : Ev.CanLay W v1 Is60) :
    Calls Try.prog 14 #[.agg ⟨v0⟩, .agg ⟨v1⟩] W (fun e W' => e = .returned (.bool true) ∧ Below W.heap.size W W') := by
  letI : Ev.Known Try.prog := kn
  obtain ⟨σ0, h0, s0, c0, lay0, le0, -, sub0, vr0, q0⟩ := hv0 _ _ _ (Ev.LaySt.start W)
  obtain ⟨σ1, h1, s1, c1, lay1, le1, -, sub1, vr1, q1⟩ := hv1 _ _ _ lay0
  replace vr0 := vr0.mono le1
  replace q0 := keeps60 _ _ _ sub1 q0
  obtain ⟨x, nl, xl, pl, rfl, L, H⟩ := isTell q0
  obtain ⟨y, nl', xl', pl', rfl, L', H'⟩ := isTell q1
  refine Ev.calls_wp (P := Try.prog) (N := 100000) (by kernel_rfl) (Ev.R.tab_ok 100000 rfl) (fun f h C args K s => by obtain rfl := Nat.eq_of_beq_eq_true h; kernel_rfl) (by kernel_rfl) (by kernel_rfl) (d := 13) (by decide) lay1 (args := [.agg ⟨Ev.R.tvv x⟩, .agg ⟨Ev.R.tvv y⟩])
    (.cons (Ev.VR.of_agg vr0) (.cons (Ev.VR.of_agg vr1) .nil)) (pw := fun _ => True) ?_
  exact (Ev.R.s14 (N := 100000) (d := 0) rfl lay1.fresh x y L L' H H').use (fun _ _ => trivial) fun h1 s1 _ _ => rfl
set_option maxRecDepth 100000 in
theorem lifted (os : Os) (started : os.Started) (H : Type) (enc : TypeId × Value → H) :
    ReturnsInHanded {} Try.checked os 14 .any (Rows.talkToldSpec.pre6 enc Try.prog Try.f14 Rows.talkToldRow.domain false) (Rows.talkToldSpec.post enc Try.prog Try.f14 false true false false) := by
  refine returnsInHanded_of_change_sized (C := Try.checked) own started (by kernel_rfl) Try.func14
    (ChangeSpec.witness6 (enc := enc) (C := Try.checked) false ⟨#[], #[.agg #[.int .i64 0, .int .i64 0, .int .i64 0, .int .i64 0, .slice none 0 0, .bool false, .int .i64 0, .slice none 0 0, .slice none 0 0, .bool false, .int .i64 0, .int .i64 0], .agg #[.int .i64 0, .int .i64 0, .int .i64 0, .int .i64 0, .slice none 0 0, .bool false, .int .i64 0, .slice none 0 0, .slice none 0 0, .bool false, .int .i64 0, .int .i64 0]], []⟩ 8 (by kernel_rfl) (by kernel_rfl) (by kernel_rfl) (by kernel_rfl)) ?_
  intro W base args ds gs before hval0 hW hcnd hsz0 _
  have hval : ∀ (j : Nat) t v, Try.f14.params[j]? = some t → args[j]? = some v → Value.okWide Try.prog W .any base t v := hval0
  have hW' := hW
  obtain ⟨p, q, hA0, hV, rfl, hfz, hnd⟩ := hW
  have hA : DataW.TrodAll enc Try.prog W 0 (fun _ => true) true Try.f14.params.toList args.toList ds p := hA0
  rw [Try.params14] at hA hval
  obtain ⟨v0, vs0, d0, ds0, p0, q0, hargs, rfl, rfl, h0, r0⟩ := trodAll_cons hA
  obtain ⟨v1, vs1, d1, ds1, p1, q1, rfl, rfl, rfl, h1, r1⟩ := trodAll_cons r0
  obtain ⟨rfl, rfl, rfl⟩ := trodAll_nil r1
  obtain rfl : args = #[v0, v1] := by cases args; simp_all
  obtain ⟨rfl, rfl⟩ := trodVars_none hV
  have k0 := h0
  have lt0 : ∀ x ∈ p0, x.block < W.heap.size := by obtain ⟨m, hm⟩ := k0; exact DataW.trod_lt m _ _ _ hm
  have k1 := h1
  have lt1 : ∀ x ∈ p1, x.block < W.heap.size := by obtain ⟨m, hm⟩ := k1; exact DataW.trod_lt m _ _ _ hm
  obtain ⟨m0, hm0⟩ := h0
  obtain ⟨⟨v0⟩, rfl, hsz0⟩ := okWide_struct Try.underlying60 (hval 0 60 v0 rfl rfl)
  obtain ⟨m1, hm1⟩ := h1
  obtain ⟨⟨v1⟩, rfl, hsz1⟩ := okWide_struct Try.underlying60 (hval 1 60 v1 rfl rfl)
  clear hA0 hval0 hsz0
  refine (walk _ _ W (lay60 hm0) (lay60 hm1)).mono fun e W' ⟨he, bel⟩ => ?_
  subst he
  exact ⟨_, rfl, _, _, _, [], _, [], hW', trodAll_mk1 (shut_bool Try.underlying4 _), (trodAll_cons_mk (Below.trod laidOut (by kernel_rfl) (of_decide_eq_true (by kernel_rfl)) k0 bel lt0) (trodAll_cons_mk (Below.trod laidOut (by kernel_rfl) (of_decide_eq_true (by kernel_rfl)) k1 bel lt1) trodAll_mk0)), rfl, bel.frame _, fun h => by cases h⟩
theorem over : Rows.talkToldRow.holds Try.pinned (OpenSpec.ofChange Rows.talkToldSpec) :=
  OpenClaim.holds_of_wide 14 Try.f14 rfl rfl rfl rfl rfl rfl rfl ⟨rfl, rfl, rfl, rfl, rfl⟩ rfl rfl rfl rfl rfl (by kernel_rfl) Try.func14 (by kernel_rfl)
    (of_decide_eq_true (by kernel_rfl)) (by unfold Func.isWrapper; first | (rw [if_pos (by decide +kernel)]; kernel_rfl) | (rw [if_neg (by decide +kernel)]; exact ⟨rfl, rfl⟩))
    (fun os started H enc _ => lifted os started H enc)
theorem proved : Rows.TalkToldSaid := over
#print axioms proved
end Go.Proofs.Ytnffkmnjpnlleaa.talkTold
namespace Go.Proofs.Ytnffkmnjpnlleaa
/-- The row, under a short name, for the claim. -/
theorem talkTold_holds : Rows.TalkToldSaid := talkTold.proved
end Go.Proofs.Ytnffkmnjpnlleaa

/- The Go function AskNone returns true for any model, setup and time: its functions are told as terms over a heap of names, whose answers the model's machine is proved to give. No condition. -/
import Derived.Test.YtgiemmoomdndaaaGreatRows
import Derived.Test.YtgiemmoomdndaaaGreatAskNoneP0
import Derived.Test.YtgiemmoomdndaaaGreatAskNoneA
import Derived.WalkKit
import Derived.ProofKit
import Derived.OpenShut
import Derived.ShutString
import Derived.ChangeOld
import Derived.Below
import Derived.SizedLaws
import Derived.Lib.SmallJoins
namespace Go.Proofs.YtgiemmoomdndaaaGreat.askNone
open Go.ChangeShapes Go.WideShapes Go.ChangeAt Go.RowKit Go.Joins Go.Deep
set_option linter.unusedVariables false
theorem own : ownKnob Tryz.prog.godebug = none := by kernel_rfl
theorem laidOut : laidOutB Tryz.prog = true := by kernel_rfl
theorem kInt : Tryz.prog.cellsOf 3 = 1 := by kernel_rfl
theorem kInts : Tryz.prog.cellsOf 22 = 1 := by kernel_rfl
theorem kRows : Tryz.prog.cellsOf 23 = 1 := by kernel_rfl
theorem kRow : Tryz.prog.cellsOf 80 = 3 := by kernel_rfl
theorem kModel : Tryz.prog.cellsOf 25 = 7 := by kernel_rfl
theorem kSetup : Tryz.prog.cellsOf 27 = 5 := by kernel_rfl
section
variable {H : Type} {enc : TypeId × Value → H} {w : World} {base : Nat} {held : Bool}
theorem int_is {n : Nat} {v : Value} {x : DataW H × List MemPlace} (h : DataW.trod enc Tryz.prog w base (fun _ => true) held n 3 [v] = some x) : ∃ a : Int, v = .int .i64 a := by
  obtain ⟨a, ha, -, -⟩ := DataW.trod_int Tryz.underlying3 h
  exact ⟨a, (List.cons.inj ha).1⟩
theorem same1 (σ : Ev.Emb) (a : Int) : Ev.VRs σ [.int .i64 a] [.int .i64 a] := .cons (.int _ _) .nil
set_option maxRecDepth 100000 in
/-- A list of numbers. -/
theorem lay_ints {n : Nat} {v : Value} {x : DataW H × List MemPlace} (h : DataW.trod enc Tryz.prog w base (fun _ => true) held n 22 [v] = some x) :
    Ev.CanLay w [v] (fun h c => ∃ (p : Option Addr) (len cap : Nat), c = [.slice p len cap]) := by
  have fin : ∀ {len cap : Nat}, Ev.CanLay w [v] (Ev.RowQ len cap (fun _ _ _ => True) 1) → Ev.CanLay w [v] (fun h c => ∃ (p : Option Addr) (len cap : Nat), c = [.slice p len cap]) := by
    intro len cap hc
    exact hc.mono fun h c ⟨p, L, e, _⟩ => ⟨p, len, cap, e⟩
  rcases open_slice Tryz.underlying22 h with ⟨e, -⟩ | ⟨a, len, cap, m, n, D, Pl, e, -, hl, -, hm, -, hx⟩
  · obtain rfl := (List.cons.inj e).1
    exact fin .nil
  · obtain rfl := (List.cons.inj e).1
    have hm : m = cap := by simpa using hm
    subst hm
    rw [kInt] at hx
    obtain ⟨f, hf⟩ := choose_lt (α := List Value) (p := fun i c => w.cells? base (a.add (i * 1)) 1 = some c ∧ ∃ k : Int, c = [.int .i64 k]) (fun i hi => by
      obtain ⟨cs', h1, h2⟩ := hx i hi
      have hl := (World.cells?_some h1).2.1
      match cs', hl with
      | [v], _ =>
        obtain ⟨k, rfl⟩ := int_is h2
        exact ⟨_, h1, k, rfl⟩)
    refine fin (Ev.CanLay.slice (by decide) (f := f) (Q := fun _ _ _ => True) (fun _ _ _ _ _ h => h) hl (fun i hi => ?_) (fun i j hi hj => ?_) (fun i hi => ?_))
    · exact (World.cells?_some (hf i hi).1).2.1
    · rw [← Go.Deep.add_add]; exact (World.cells?_some (hf i hi).1).2.2 j hj
    · obtain ⟨k, hk⟩ := (hf i hi).2
      rw [hk]
      exact (Ev.CanLay.same fun σ => same1 σ k).mono fun h c e => trivial
theorem keepsI : Ev.Keeps (fun _ c => ∃ (p : Option Addr) (len cap : Nat), c = [.slice p len cap]) := fun _ _ _ _ h => h
theorem keepsS (x : List Value) : Ev.Keeps (fun _ c => c = x) := fun _ _ _ _ h => h
set_option maxRecDepth 100000 in
/-- A row: a number, a list, a number. -/
theorem lay_row {n : Nat} {cs : List Value} {x : DataW H × List MemPlace} (h : DataW.trod enc Tryz.prog w base (fun _ => true) held n 80 cs = some x) :
    Ev.CanLay w cs (fun h c => ∃ r : Ev.R.Rw, c = Ev.R.rv r) := by
  obtain ⟨ys, n', _, _, hlen, hyl, hg⟩ := DataW.trod_struct Tryz.underlying80 h
  rw [kRow] at hlen
  match cs, hlen, ys, hyl with
  | [c0, c1, c2], _, [y0, y1, y2], _ =>
    have g0 : DataW.trod enc Tryz.prog w base (fun _ => true) held n' 3 [c0] = some y0 := by
      have := hg 0 _ rfl
      simpa [kInt, kInts, Value.cells] using this
    have g1 : DataW.trod enc Tryz.prog w base (fun _ => true) held n' 22 [c1] = some y1 := by
      have := hg 1 _ rfl
      simpa [kInt, kInts, Value.cells] using this
    have g2 : DataW.trod enc Tryz.prog w base (fun _ => true) held n' 3 [c2] = some y2 := by
      have := hg 2 _ rfl
      simpa [kInt, kInts, Value.cells] using this
    obtain ⟨a, rfl⟩ := int_is g0
    obtain ⟨b, rfl⟩ := int_is g2
    refine ((Ev.CanLay.same fun σ => same1 σ a).append (keepsS _) ((lay_ints g1).append keepsI (Ev.CanLay.same fun σ => same1 σ b))).mono ?_
    rintro h c ⟨x, y, rfl, rfl, x', y', rfl, ⟨p, len, cap, rfl⟩, rfl⟩
    exact ⟨⟨.int .i64 a, p, len, cap, .int .i64 b⟩, rfl⟩
set_option maxRecDepth 100000 in
/-- A list of rows. -/
theorem lay_rows {n : Nat} {v : Value} {x : DataW H × List MemPlace} (h : DataW.trod enc Tryz.prog w base (fun _ => true) held n 23 [v] = some x) :
    Ev.CanLay w [v] (fun h c => ∃ (p : Option Addr) (len cap : Nat) (l : List Ev.R.Rw), c = [.slice p len cap] ∧ Ev.Row Ev.R.ER h p len l) := by
  have fin : ∀ {len cap : Nat}, len ≤ cap → Ev.CanLay w [v] (Ev.RowQ len cap (fun _ _ c => ∃ r : Ev.R.Rw, c = Ev.R.rv r) 3) → Ev.CanLay w [v] (fun h c => ∃ (p : Option Addr) (len cap : Nat) (l : List Ev.R.Rw), c = [.slice p len cap] ∧ Ev.Row Ev.R.ER h p len l) := by
    intro len cap hl hc
    refine hc.mono fun h c hq => ?_
    obtain ⟨p, l, e, r, hp, -⟩ := Ev.RowQ.row (E := Ev.R.ER) (R := fun _ => True) hq hl (fun i c ⟨k, hk⟩ => ⟨k, hk, trivial⟩)
    exact ⟨p, len, cap, l, e, r⟩
  rcases open_slice Tryz.underlying23 h with ⟨e, -⟩ | ⟨a, len, cap, m, n, D, Pl, e, -, hl, -, hm, -, hx⟩
  · obtain rfl := (List.cons.inj e).1
    exact fin (Nat.le_refl 0) .nil
  · obtain rfl := (List.cons.inj e).1
    have hm : m = cap := by simpa using hm
    subst hm
    rw [kRow] at hx
    obtain ⟨f, hf⟩ := choose_lt (α := List Value) (p := fun i c => w.cells? base (a.add (i * 3)) 3 = some c ∧ Ev.CanLay w c (fun h c => ∃ r : Ev.R.Rw, c = Ev.R.rv r)) (fun i hi => by
      obtain ⟨cs', h1, h2⟩ := hx i hi
      exact ⟨cs', h1, lay_row h2⟩)
    refine fin hl (Ev.CanLay.slice (by decide) (f := f) (Q := fun _ _ c => ∃ r : Ev.R.Rw, c = Ev.R.rv r) (fun _ _ _ _ _ h => h) hl (fun i hi => ?_) (fun i j hi hj => ?_) (fun i hi => (hf i hi).2))
    · exact (World.cells?_some (hf i hi).1).2.1
    · rw [← Go.Deep.add_add]; exact (World.cells?_some (hf i hi).1).2.2 j hj
abbrev IsModel (h : Ev.T) (c : List Value) : Prop := ∃ (m0 m3 m4 m5 : Value) (p1 p2 p6 : Option Addr) (n1 c1 n2 c2 n6 c6 : Nat) (l : List Ev.R.Rw), c = [m0, .slice p1 n1 c1, .slice p2 n2 c2, m3, m4, m5, .slice p6 n6 c6] ∧ Ev.Row Ev.R.ER h p6 n6 l
set_option maxRecDepth 100000 in
/-- A model that comes in. -/
theorem open_model {r : Reach} {b0 : Nat} {v : Value} {d : DataW H} {p : List MemPlace} (hv : Value.okWide Tryz.prog w r b0 25 v) (h : DataW.Trod enc Tryz.prog w base (fun _ => true) held 25 v d p) :
    ∃ cs : List Value, v = .agg ⟨cs⟩ ∧ Ev.CanLay w cs IsModel := by
  obtain ⟨cs, rfl, hsz⟩ := okWide_struct Tryz.underlying25 hv
  have h7 : cs.size = 7 := hsz.trans kModel
  obtain ⟨l⟩ := cs
  match l, h7 with
  | [c0, c1, c2, c3, c4, c5, c6], _ =>
    obtain ⟨fuel, hf⟩ := h
    obtain ⟨ys, n', hn', hy, hlen, hyl, hg⟩ := DataW.trod_struct Tryz.underlying25 hf
    match ys, hyl with
    | [y0, y1, y2, y3, y4, y5, y6], _ =>
      have g0 : DataW.trod enc Tryz.prog w base (fun _ => true) held n' 3 [c0] = some y0 := by
        have := hg 0 _ rfl
        simpa [kInt, kInts, kRows, Value.cells] using this
      have g1 : DataW.trod enc Tryz.prog w base (fun _ => true) held n' 22 [c1] = some y1 := by
        have := hg 1 _ rfl
        simpa [kInt, kInts, kRows, Value.cells] using this
      have g2 : DataW.trod enc Tryz.prog w base (fun _ => true) held n' 22 [c2] = some y2 := by
        have := hg 2 _ rfl
        simpa [kInt, kInts, kRows, Value.cells] using this
      have g3 : DataW.trod enc Tryz.prog w base (fun _ => true) held n' 3 [c3] = some y3 := by
        have := hg 3 _ rfl
        simpa [kInt, kInts, kRows, Value.cells] using this
      have g4 : DataW.trod enc Tryz.prog w base (fun _ => true) held n' 3 [c4] = some y4 := by
        have := hg 4 _ rfl
        simpa [kInt, kInts, kRows, Value.cells] using this
      have g5 : DataW.trod enc Tryz.prog w base (fun _ => true) held n' 3 [c5] = some y5 := by
        have := hg 5 _ rfl
        simpa [kInt, kInts, kRows, Value.cells] using this
      have g6 : DataW.trod enc Tryz.prog w base (fun _ => true) held n' 23 [c6] = some y6 := by
        have := hg 6 _ rfl
        simpa [kInt, kInts, kRows, Value.cells] using this
      obtain ⟨a0, rfl⟩ := int_is g0
      obtain ⟨a3, rfl⟩ := int_is g3
      obtain ⟨a4, rfl⟩ := int_is g4
      obtain ⟨a5, rfl⟩ := int_is g5
      refine ⟨_, rfl, ?_⟩
      have s3 : ∀ σ, Ev.VRs σ [.int .i64 a3, .int .i64 a4, .int .i64 a5] [.int .i64 a3, .int .i64 a4, .int .i64 a5] := fun σ => .cons (.int _ _) (.cons (.int _ _) (.cons (.int _ _) .nil))
      refine ((Ev.CanLay.same fun σ => same1 σ a0).append (keepsS _) ((lay_ints g1).append keepsI ((lay_ints g2).append keepsI ((Ev.CanLay.same s3).append (keepsS _) (lay_rows g6))))).mono ?_
      rintro h c ⟨x0, y0, rfl, rfl, x1, y1, rfl, ⟨p1, n1, c1, rfl⟩, x2, y2, rfl, ⟨p2, n2, c2, rfl⟩, x3, y3, rfl, rfl, p6, n6, c6, l, rfl, r⟩
      exact ⟨_, _, _, _, p1, p2, p6, n1, c1, n2, c2, n6, c6, l, rfl, r⟩
set_option maxRecDepth 100000 in
/-- A setup that comes in: five numbers. -/
theorem open_setup {r : Reach} {b0 : Nat} {v : Value} {d : DataW H} {p : List MemPlace} (hv : Value.okWide Tryz.prog w r b0 27 v) (h : DataW.Trod enc Tryz.prog w base (fun _ => true) held 27 v d p) :
    ∃ a b c d e : Int, v = Ev.R.setup a b c d e := by
  obtain ⟨cs, rfl, hsz⟩ := okWide_struct Tryz.underlying27 hv
  have h5 : cs.size = 5 := hsz.trans kSetup
  obtain ⟨l⟩ := cs
  match l, h5 with
  | [c0, c1, c2, c3, c4], _ =>
    obtain ⟨fuel, hf⟩ := h
    obtain ⟨ys, n', hn', hy, hlen, hyl, hg⟩ := DataW.trod_struct Tryz.underlying27 hf
    match ys, hyl with
    | [y0, y1, y2, y3, y4], _ =>
      have g0 : DataW.trod enc Tryz.prog w base (fun _ => true) held n' 3 [c0] = some y0 := by
        have := hg 0 _ rfl
        simpa [kInt, Value.cells] using this
      have g1 : DataW.trod enc Tryz.prog w base (fun _ => true) held n' 3 [c1] = some y1 := by
        have := hg 1 _ rfl
        simpa [kInt, Value.cells] using this
      have g2 : DataW.trod enc Tryz.prog w base (fun _ => true) held n' 3 [c2] = some y2 := by
        have := hg 2 _ rfl
        simpa [kInt, Value.cells] using this
      have g3 : DataW.trod enc Tryz.prog w base (fun _ => true) held n' 3 [c3] = some y3 := by
        have := hg 3 _ rfl
        simpa [kInt, Value.cells] using this
      have g4 : DataW.trod enc Tryz.prog w base (fun _ => true) held n' 3 [c4] = some y4 := by
        have := hg 4 _ rfl
        simpa [kInt, Value.cells] using this
      obtain ⟨a0, rfl⟩ := int_is g0
      obtain ⟨a1, rfl⟩ := int_is g1
      obtain ⟨a2, rfl⟩ := int_is g2
      obtain ⟨a3, rfl⟩ := int_is g3
      obtain ⟨a4, rfl⟩ := int_is g4
      exact ⟨a0, a1, a2, a3, a4, rfl⟩
end
noncomputable abbrev kn : Ev.Known Tryz.prog := ⟨fun f => Nat.beq f 8, fun f h w => by obtain rfl := Nat.eq_of_beq_eq_true h; exact awake w⟩
set_option maxRecDepth 100000 in
theorem walk (cs : List Value) (a b c d e t : Int) (W : World) (hv : Ev.CanLay W cs IsModel) :
    Calls Tryz.prog 3 #[.agg ⟨cs⟩, Ev.R.setup a b c d e, .int .i64 t] W (fun e W' => e = .returned (.bool true) ∧ Below W.heap.size W W') := by
  letI : Ev.Known Tryz.prog := kn
  obtain ⟨σ, h, s, cs', lay, -, -, -, hvr, m0, m3, m4, m5, p1, p2, p6, n1, c1, n2, c2, n6, c6, l, rfl, r⟩ := hv _ _ _ (Ev.LaySt.start W)
  refine Ev.calls_wp (P := Tryz.prog) (N := 100000) (by kernel_rfl) (Ev.R.tab_ok 100000 rfl) (fun f h C args K s => by obtain rfl := Nat.eq_of_beq_eq_true h; kernel_rfl) (by kernel_rfl) (by kernel_rfl) (d := 5) (by decide) lay (args := [.agg ⟨[m0, .slice p1 n1 c1, .slice p2 n2 c2, m3, m4, m5, .slice p6 n6 c6]⟩, Ev.R.setup a b c d e, .int .i64 t])
    (.cons (Ev.VR.of_agg hvr) (.cons (Ev.VR.of_agg (.cons (.int _ _) (.cons (.int _ _) (.cons (.int _ _) (.cons (.int _ _) (.cons (.int _ _) .nil)))))) (.cons (.int _ _) .nil))) (pw := fun _ => True) ?_
  exact (Ev.R.s3 (N := 100000) (d := 0) (Nat.le_refl _) lay.fresh r a b c d e t).use (fun _ _ => trivial) fun h1 s1 _ _ => rfl
set_option maxRecDepth 100000 in
theorem lifted (os : Os) (started : os.Started) (H : Type) (enc : TypeId × Value → H) :
    ReturnsInHanded {} Tryz.checked os 3 .any (Rows.askNoneSpec.pre6 enc Tryz.prog Tryz.f3 Rows.askNoneRow.domain false) (Rows.askNoneSpec.post enc Tryz.prog Tryz.f3 false true false false) := by
  refine returnsInHanded_of_change_sized (C := Tryz.checked) own started (by kernel_rfl) Tryz.func3
    (ChangeSpec.witness6 (enc := enc) (C := Tryz.checked) false ⟨#[], #[.agg #[.int .i64 0, .slice none 0 0, .slice none 0 0, .int .i64 0, .int .i64 0, .int .i64 0, .slice none 0 0], .agg #[.int .i64 0, .int .i64 0, .int .i64 0, .int .i64 0, .int .i64 0], .int .i64 0], []⟩ 8 (by kernel_rfl) (by kernel_rfl) (by kernel_rfl) (by kernel_rfl)) ?_
  intro W base args ds gs before hval0 hW hcnd hsz0 _
  have hval : ∀ (j : Nat) t v, Tryz.f3.params[j]? = some t → args[j]? = some v → Value.okWide Tryz.prog W .any base t v := hval0
  have hW' := hW
  obtain ⟨p, q, hA0, hV, rfl, hfz, hnd⟩ := hW
  have hA : DataW.TrodAll enc Tryz.prog W 0 (fun _ => true) true Tryz.f3.params.toList args.toList ds p := hA0
  rw [Tryz.params3] at hA hval
  obtain ⟨v0, vs0, d0, ds0, p0, q0, hargs, rfl, rfl, h0, r0⟩ := trodAll_cons hA
  obtain ⟨v1, vs1, d1, ds1, p1, q1, rfl, rfl, rfl, h1, r1⟩ := trodAll_cons r0
  obtain ⟨v2, vs2, d2, ds2, p2, q2, rfl, rfl, rfl, h2, r2⟩ := trodAll_cons r1
  obtain ⟨rfl, rfl, rfl⟩ := trodAll_nil r2
  obtain rfl : args = #[v0, v1, v2] := by cases args; simp_all
  obtain ⟨rfl, rfl⟩ := trodVars_none hV
  have k0 := h0
  have lt0 : ∀ x ∈ p0, x.block < W.heap.size := by obtain ⟨m, hm⟩ := k0; exact DataW.trod_lt m _ _ _ hm
  have k1 := h1
  have lt1 : ∀ x ∈ p1, x.block < W.heap.size := by obtain ⟨m, hm⟩ := k1; exact DataW.trod_lt m _ _ _ hm
  have k2 := h2
  have lt2 : ∀ x ∈ p2, x.block < W.heap.size := by obtain ⟨m, hm⟩ := k2; exact DataW.trod_lt m _ _ _ hm
  obtain ⟨cs, rfl, lay⟩ := open_model (hval 0 25 v0 rfl rfl) h0
  obtain ⟨a, b, c, d, e, rfl⟩ := open_setup (hval 1 27 v1 rfl rfl) h1
  obtain ⟨t, rfl⟩ := okWide_int Tryz.underlying3 (hval 2 3 v2 rfl rfl)
  clear hA0 hval0 hsz0
  refine (walk cs a b c d e t W lay).mono fun e W' ⟨he, bel⟩ => ?_
  subst he
  exact ⟨_, rfl, _, _, _, [], _, [], hW', trodAll_mk1 (shut_bool Tryz.underlying4 _), (trodAll_cons_mk (Below.trod laidOut (by kernel_rfl) (of_decide_eq_true (by kernel_rfl)) k0 bel lt0) (trodAll_cons_mk (Below.trod laidOut (by kernel_rfl) (of_decide_eq_true (by kernel_rfl)) k1 bel lt1) (trodAll_cons_mk (Below.trod laidOut (by kernel_rfl) (of_decide_eq_true (by kernel_rfl)) k2 bel lt2) trodAll_mk0))), rfl, bel.frame _, fun h => by cases h⟩
theorem over : Rows.askNoneRow.holds Tryz.pinned (OpenSpec.ofChange Rows.askNoneSpec) :=
  OpenClaim.holds_of_wide 3 Tryz.f3 rfl rfl rfl rfl rfl rfl rfl ⟨rfl, rfl, rfl, rfl, rfl⟩ rfl rfl rfl rfl rfl (by kernel_rfl) Tryz.func3 (by kernel_rfl)
    (of_decide_eq_true (by kernel_rfl)) (by unfold Func.isWrapper; first | (rw [if_pos (by decide +kernel)]; kernel_rfl) | (rw [if_neg (by decide +kernel)]; exact ⟨rfl, rfl⟩))
    (fun os started H enc _ => lifted os started H enc)
theorem proved : Rows.AskNoneSaid := over
#print axioms proved
end Go.Proofs.YtgiemmoomdndaaaGreat.askNone
namespace Go.Proofs.YtgiemmoomdndaaaGreat
/-- The row, under a short name, for the claim. -/
theorem askNone_holds : Rows.AskNoneSaid := askNone.proved
end Go.Proofs.YtgiemmoomdndaaaGreat

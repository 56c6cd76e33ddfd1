/- The Go function EngineNone returns true for any entry and number: its functions are told as terms over a heap of names, whose answers the model's machine is proved to give. No condition. -/
import Derived.Test.YtgiemmoomdndaaaGreatRows
import Derived.Test.YtgiemmoomdndaaaGreatEngineNoneP0
import Derived.Test.YtgiemmoomdndaaaGreatEngineNoneA
import Derived.WalkKit
import Derived.ProofKit
import Derived.OpenShut
import Derived.ShutString
import Derived.ChangeOld
import Derived.Below
import Derived.SizedLaws
import Derived.Lib.SmallJoins
namespace Go.Proofs.YtgiemmoomdndaaaGreat.engineNone
open Go.ChangeShapes Go.WideShapes Go.ChangeAt Go.RowKit Go.Joins Go.Deep
set_option linter.unusedVariables false
theorem own : ownKnob Tryz.prog.godebug = none := by kernel_rfl
theorem laidOut : laidOutB Tryz.prog = true := by kernel_rfl
theorem kInt : Tryz.prog.cellsOf 3 = 1 := by kernel_rfl
theorem kInts : Tryz.prog.cellsOf 22 = 1 := by kernel_rfl
theorem kBool : Tryz.prog.cellsOf 4 = 1 := by kernel_rfl
theorem kEntry : Tryz.prog.cellsOf 51 = 5 := by kernel_rfl
section
variable {H : Type} {enc : TypeId × Value → H} {w : World} {base : Nat} {held : Bool}
theorem int_is {n : Nat} {v : Value} {x : DataW H × List MemPlace} (h : DataW.trod enc Tryz.prog w base (fun _ => true) held n 3 [v] = some x) : ∃ a : Int, v = .int .i64 a := by
  obtain ⟨a, ha, -, -⟩ := DataW.trod_int Tryz.underlying3 h
  exact ⟨a, (List.cons.inj ha).1⟩
theorem same1 (σ : Ev.Emb) (a : Int) : Ev.VRs σ [.int .i64 a] [.int .i64 a] := .cons (.int _ _) .nil
set_option maxRecDepth 100000 in
/-- A list of numbers. -/
theorem lay_ints {n : Nat} {v : Value} {x : DataW H × List MemPlace} (h : DataW.trod enc Tryz.prog w base (fun _ => true) held n 22 [v] = some x) :
    Ev.CanLay w [v] (fun h c => ∃ (p : Option Addr) (len cap : Nat), c = [.slice p len cap]) := by
  have fin : ∀ {len cap : Nat}, Ev.CanLay w [v] (Ev.RowQ len cap (fun _ _ _ => True) 1) → Ev.CanLay w [v] (fun h c => ∃ (p : Option Addr) (len cap : Nat), c = [.slice p len cap]) := by
    intro len cap hc
    exact hc.mono fun h c ⟨p, L, e, _⟩ => ⟨p, len, cap, e⟩
  rcases open_slice Tryz.underlying22 h with ⟨e, -⟩ | ⟨a, len, cap, m, n, D, Pl, e, -, hl, -, hm, -, hx⟩
  · obtain rfl := (List.cons.inj e).1
    exact fin .nil
  · obtain rfl := (List.cons.inj e).1
    have hm : m = cap := by simpa using hm
    subst hm
    rw [kInt] at hx
    obtain ⟨f, hf⟩ := choose_lt (α := List Value) (p := fun i c => w.cells? base (a.add (i * 1)) 1 = some c ∧ ∃ k : Int, c = [.int .i64 k]) (fun i hi => by
      obtain ⟨cs', h1, h2⟩ := hx i hi
      have hl := (World.cells?_some h1).2.1
      match cs', hl with
      | [v], _ =>
        obtain ⟨k, rfl⟩ := int_is h2
        exact ⟨_, h1, k, rfl⟩)
    refine fin (Ev.CanLay.slice (by decide) (f := f) (Q := fun _ _ _ => True) (fun _ _ _ _ _ h => h) hl (fun i hi => ?_) (fun i j hi hj => ?_) (fun i hi => ?_))
    · exact (World.cells?_some (hf i hi).1).2.1
    · rw [← Go.Deep.add_add]; exact (World.cells?_some (hf i hi).1).2.2 j hj
    · obtain ⟨k, hk⟩ := (hf i hi).2
      rw [hk]
      exact (Ev.CanLay.same fun σ => same1 σ k).mono fun h c e => trivial
theorem keepsI : Ev.Keeps (fun _ c => ∃ (p : Option Addr) (len cap : Nat), c = [.slice p len cap]) := fun _ _ _ _ h => h
theorem keepsS (x : List Value) : Ev.Keeps (fun _ c => c = x) := fun _ _ _ _ h => h
abbrev IsEntry (h : Ev.T) (c : List Value) : Prop := ∃ (x0 x1 x2 x3 : Value) (p : Option Addr) (n k : Nat), c = [x0, x1, x2, x3, .slice p n k]
set_option maxRecDepth 100000 in
/-- An entry that comes in. -/
theorem open_entry {r : Reach} {b0 : Nat} {v : Value} {d : DataW H} {p : List MemPlace} (hv : Value.okWide Tryz.prog w r b0 51 v) (h : DataW.Trod enc Tryz.prog w base (fun _ => true) held 51 v d p) :
    ∃ cs : List Value, v = .agg ⟨cs⟩ ∧ Ev.CanLay w cs IsEntry := by
  obtain ⟨cs, rfl, hsz⟩ := okWide_struct Tryz.underlying51 hv
  have h5 : cs.size = 5 := hsz.trans kEntry
  obtain ⟨l⟩ := cs
  match l, h5 with
  | [c0, c1, c2, c3, c4], _ =>
    obtain ⟨fuel, hf⟩ := h
    obtain ⟨ys, n', hn', hy, hlen, hyl, hg⟩ := DataW.trod_struct Tryz.underlying51 hf
    match ys, hyl with
    | [y0, y1, y2, y3, y4], _ =>
      have g0 : DataW.trod enc Tryz.prog w base (fun _ => true) held n' 3 [c0] = some y0 := by
        have := hg 0 _ rfl
        simpa [kInt, kInts, kBool, Value.cells] using this
      have g1 : DataW.trod enc Tryz.prog w base (fun _ => true) held n' 3 [c1] = some y1 := by
        have := hg 1 _ rfl
        simpa [kInt, kInts, kBool, Value.cells] using this
      have g2 : DataW.trod enc Tryz.prog w base (fun _ => true) held n' 3 [c2] = some y2 := by
        have := hg 2 _ rfl
        simpa [kInt, kInts, kBool, Value.cells] using this
      have g3 : DataW.trod enc Tryz.prog w base (fun _ => true) held n' 4 [c3] = some y3 := by
        have := hg 3 _ rfl
        simpa [kInt, kInts, kBool, Value.cells] using this
      have g4 : DataW.trod enc Tryz.prog w base (fun _ => true) held n' 22 [c4] = some y4 := by
        have := hg 4 _ rfl
        simpa [kInt, kInts, kBool, Value.cells] using this
      obtain ⟨a0, rfl⟩ := int_is g0
      obtain ⟨a1, rfl⟩ := int_is g1
      obtain ⟨a2, rfl⟩ := int_is g2
      obtain ⟨b, hb, -⟩ := DataW.trod_bool Tryz.underlying4 g3
      obtain rfl := (List.cons.inj hb).1
      refine ⟨_, rfl, ?_⟩
      have s4 : ∀ σ, Ev.VRs σ [.int .i64 a0, .int .i64 a1, .int .i64 a2, .bool b] [.int .i64 a0, .int .i64 a1, .int .i64 a2, .bool b] := fun σ => .cons (.int _ _) (.cons (.int _ _) (.cons (.int _ _) (.cons (.bool _) .nil)))
      refine ((Ev.CanLay.same s4).append (keepsS _) (lay_ints g4)).mono ?_
      rintro h c ⟨x0, y0, rfl, rfl, p, n, k, rfl⟩
      exact ⟨_, _, _, _, p, n, k, rfl⟩
end
noncomputable abbrev kn : Ev.Known Tryz.prog := ⟨fun f => Nat.beq f 22, fun f h w => by obtain rfl := Nat.eq_of_beq_eq_true h; exact awake w⟩
set_option maxRecDepth 100000 in
theorem walk (cs : List Value) (x : Int) (W : World) (hv : Ev.CanLay W cs IsEntry) :
    Calls Tryz.prog 5 #[.agg ⟨cs⟩, .int .i64 x] W (fun e W' => e = .returned (.bool true) ∧ Below W.heap.size W W') := by
  letI : Ev.Known Tryz.prog := kn
  obtain ⟨σ, h, s, cs', lay, -, -, -, hvr, x0, x1, x2, x3, p, n, k, rfl⟩ := hv _ _ _ (Ev.LaySt.start W)
  refine Ev.calls_wp (P := Tryz.prog) (N := 100000) (by kernel_rfl) (Ev.R.tab_ok 100000 rfl) (fun f h C args K s => by obtain rfl := Nat.eq_of_beq_eq_true h; kernel_rfl) (by kernel_rfl) (by kernel_rfl) (d := 5) (by decide) lay (args := [.agg ⟨[x0, x1, x2, x3, .slice p n k]⟩, .int .i64 x])
    (.cons (Ev.VR.of_agg hvr) (.cons (.int _ _) .nil)) (pw := fun _ => True) ?_
  exact (Ev.R.s5 (N := 100000) (d := 0) (Nat.le_refl _) lay.fresh x).use (fun _ _ => trivial) fun h1 s1 _ _ => rfl
set_option maxRecDepth 100000 in
theorem lifted (os : Os) (started : os.Started) (H : Type) (enc : TypeId × Value → H) :
    ReturnsInHanded {} Tryz.checked os 5 .any (Rows.engineNoneSpec.pre6 enc Tryz.prog Tryz.f5 Rows.engineNoneRow.domain false) (Rows.engineNoneSpec.post enc Tryz.prog Tryz.f5 false true false false) := by
  refine returnsInHanded_of_change_sized (C := Tryz.checked) own started (by kernel_rfl) Tryz.func5
    (ChangeSpec.witness6 (enc := enc) (C := Tryz.checked) false ⟨#[], #[.agg #[.int .i64 0, .int .i64 0, .int .i64 0, .bool false, .slice none 0 0], .int .i64 0], []⟩ 8 (by kernel_rfl) (by kernel_rfl) (by kernel_rfl) (by kernel_rfl)) ?_
  intro W base args ds gs before hval0 hW hcnd hsz0 _
  have hval : ∀ (j : Nat) t v, Tryz.f5.params[j]? = some t → args[j]? = some v → Value.okWide Tryz.prog W .any base t v := hval0
  have hW' := hW
  obtain ⟨p, q, hA0, hV, rfl, hfz, hnd⟩ := hW
  have hA : DataW.TrodAll enc Tryz.prog W 0 (fun _ => true) true Tryz.f5.params.toList args.toList ds p := hA0
  rw [Tryz.params5] at hA hval
  obtain ⟨v0, vs0, d0, ds0, p0, q0, hargs, rfl, rfl, h0, r0⟩ := trodAll_cons hA
  obtain ⟨v1, vs1, d1, ds1, p1, q1, rfl, rfl, rfl, h1, r1⟩ := trodAll_cons r0
  obtain ⟨rfl, rfl, rfl⟩ := trodAll_nil r1
  obtain rfl : args = #[v0, v1] := by cases args; simp_all
  obtain ⟨rfl, rfl⟩ := trodVars_none hV
  have k0 := h0
  have lt0 : ∀ x ∈ p0, x.block < W.heap.size := by obtain ⟨m, hm⟩ := k0; exact DataW.trod_lt m _ _ _ hm
  have k1 := h1
  have lt1 : ∀ x ∈ p1, x.block < W.heap.size := by obtain ⟨m, hm⟩ := k1; exact DataW.trod_lt m _ _ _ hm
  obtain ⟨cs, rfl, lay⟩ := open_entry (hval 0 51 v0 rfl rfl) h0
  obtain ⟨t, rfl⟩ := okWide_int Tryz.underlying3 (hval 1 3 v1 rfl rfl)
  clear hA0 hval0 hsz0
  refine (walk cs t W lay).mono fun e W' ⟨he, bel⟩ => ?_
  subst he
  exact ⟨_, rfl, _, _, _, [], _, [], hW', trodAll_mk1 (shut_bool Tryz.underlying4 _), (trodAll_cons_mk (Below.trod laidOut (by kernel_rfl) (of_decide_eq_true (by kernel_rfl)) k0 bel lt0) (trodAll_cons_mk (Below.trod laidOut (by kernel_rfl) (of_decide_eq_true (by kernel_rfl)) k1 bel lt1) trodAll_mk0)), rfl, bel.frame _, fun h => by cases h⟩
theorem over : Rows.engineNoneRow.holds Tryz.pinned (OpenSpec.ofChange Rows.engineNoneSpec) :=
  OpenClaim.holds_of_wide 5 Tryz.f5 rfl rfl rfl rfl rfl rfl rfl ⟨rfl, rfl, rfl, rfl, rfl⟩ rfl rfl rfl rfl rfl (by kernel_rfl) Tryz.func5 (by kernel_rfl)
    (of_decide_eq_true (by kernel_rfl)) (by unfold Func.isWrapper; first | (rw [if_pos (by decide +kernel)]; kernel_rfl) | (rw [if_neg (by decide +kernel)]; exact ⟨rfl, rfl⟩))
    (fun os started H enc _ => lifted os started H enc)
theorem proved : Rows.EngineNoneSaid := over
#print axioms proved
end Go.Proofs.YtgiemmoomdndaaaGreat.engineNone
namespace Go.Proofs.YtgiemmoomdndaaaGreat
/-- The row, under a short name, for the claim. -/
theorem engineNone_holds : Rows.EngineNoneSaid := engineNone.proved
end Go.Proofs.YtgiemmoomdndaaaGreat

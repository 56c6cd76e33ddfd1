/- The Go function TalkAgain returns true for any bytes and any byte: its functions are told as terms over a heap of names, whose answers the model's machine is proved to give. No condition. -/
import Derived.Test.YtnffkmnjpnlleaaRows
import Derived.Test.YtnffkmnjpnlleaaTalkAgainP2
import Derived.Test.YtnffkmnjpnlleaaTalkAgainA
import Derived.WalkKit
import Derived.ProofKit
import Derived.OpenShut
import Derived.ShutString
import Derived.ChangeOld
import Derived.Below
import Derived.SizedLaws
import Derived.Lib.SmallJoins
namespace Go.Proofs.Ytnffkmnjpnlleaa.talkAgain
open Go.ChangeShapes Go.WideShapes Go.ChangeAt Go.RowKit Go.Joins Go.Deep
set_option linter.unusedVariables false
set_option linter.unusedSimpArgs false
theorem own : ownKnob Try.prog.godebug = none := by kernel_rfl
theorem laidOut : laidOutB Try.prog = true := by kernel_rfl
theorem hd {σ : Ev.Emb} {x y : Value} (h : Ev.VRs σ [x] [y]) : Ev.VR σ x y := by cases h with | cons h _ => exact h
theorem k5 : Try.prog.cellsOf 5 = 1 := by kernel_rfl
theorem k25 : Try.prog.cellsOf 25 = 1 := by kernel_rfl
section
variable {H : Type} {enc : TypeId × Value → H} {w : World} {base : Nat} {held : Bool}
abbrev Is5 (h : Ev.T) (c : List Value) : Prop := ∃ a : Int, c = [.int .u8 a] ∧ (Lit.int .u8 a).wf = true
theorem keeps5 : Ev.Keeps Is5 := fun _ _ _ _ h => h
theorem lay5 {n : Nat} {cs : List Value} {x : DataW H × List MemPlace} (h : DataW.trod enc Try.prog w base (fun _ => true) held n 5 cs = some x) : Ev.CanLay w cs Is5 := by
  obtain ⟨a, rfl, -, hw⟩ := DataW.trod_int Try.underlying5 h
  exact (Ev.CanLay.same fun σ => .cons (.int _ _) .nil).mono fun h c e => ⟨a, e, hw⟩
abbrev Is25 (h : Ev.T) (c : List Value) : Prop := ∃ len cap, len ≤ cap ∧ Ev.RowQ len cap (fun _ => Is5) 1 h c
theorem keeps25 : Ev.Keeps Is25 := fun h h' c hs ⟨len, cap, a, b⟩ => ⟨len, cap, a, Ev.RowQ.keeps (fun _ => keeps5) h h' c hs b⟩
set_option maxRecDepth 100000 in
theorem lay25 {n : Nat} {cs : List Value} {x : DataW H × List MemPlace} (h : DataW.trod enc Try.prog w base (fun _ => true) held n 25 cs = some x) : Ev.CanLay w cs Is25 := by
  rcases open_slice Try.underlying25 h with ⟨rfl, -⟩ | ⟨a, len, cap, m, n, D, Pl, rfl, -, hl, -, hm, -, hx⟩
  · exact Ev.CanLay.nil.mono fun h c q => ⟨0, 0, Nat.le_refl _, q⟩
  · have hm : m = cap := by simpa using hm
    subst hm
    rw [k5] at hx
    obtain ⟨f, hf⟩ := choose_lt (α := List Value) (p := fun i c => w.cells? base (a.add (i * 1)) 1 = some c ∧ Ev.CanLay w c Is5) (fun i hi => by
      obtain ⟨cs', h1, h2⟩ := hx i hi
      exact ⟨cs', h1, lay5 h2⟩)
    exact (Ev.CanLay.slice (by decide) (f := f) (Q := fun _ => Is5) (fun _ => keeps5) hl (fun i hi => (World.cells?_some (hf i hi).1).2.1) (fun i j hi hj => by rw [← Go.Deep.add_add]; exact (World.cells?_some (hf i hi).1).2.2 j hj) (fun i hi => (hf i hi).2)).mono fun h c q => ⟨len, m, hl, q⟩
end
noncomputable abbrev kn : Ev.Known Try.prog := ⟨fun f => Nat.beq f 21, fun f h w => by obtain rfl := Nat.eq_of_beq_eq_true h; exact awake w⟩
theorem byteOf {a : Int} (h : (Lit.int .u8 a).wf = true) : Ev.R.isByte a := by
  have : 0 ≤ a ∧ a ≤ 255 := by simpa [Lit.wf, IntKind.min, IntKind.max, IntKind.signed, IntKind.bits] using h
  exact ⟨this.1, by omega⟩
theorem isB {h : Ev.T} {c : List Value} (q : Is5 h c) : ∃ x : Int, c = Ev.R.EB.f x ∧ Ev.R.isByte x := by
  obtain ⟨x, rfl, w⟩ := q
  exact ⟨x, rfl, byteOf w⟩
theorem isBytes {h : Ev.T} {c : List Value} (q : Is25 h c) : ∃ p len cap l, c = [.slice p len cap] ∧ Ev.Sl Ev.R.EB h p len cap l ∧ ∀ z ∈ l, Ev.R.isByte z := by
  obtain ⟨len, cap, hl, r⟩ := q
  obtain ⟨p, l, rfl, sl, hz⟩ := Ev.RowQ.sl (E := Ev.R.EB) (R := fun z => Ev.R.isByte z) r hl (fun i c q => isB q)
  exact ⟨p, len, cap, l, rfl, sl, hz⟩
set_option maxRecDepth 100000 in
theorem walk (v0 : Value) (v1 : Value) (W : World) (hv0 : Ev.CanLay W [v0] Is25) (hv1 : Ev.CanLay W [v1] Is5) :
    Calls Try.prog 15 #[v0, v1] W (fun e W' => e = .returned (.bool true) ∧ Below W.heap.size W W') := by
  letI : Ev.Known Try.prog := kn
  obtain ⟨σ0, h0, s0, c0, lay0, le0, -, sub0, vr0, q0⟩ := hv0 _ _ _ (Ev.LaySt.start W)
  obtain ⟨σ1, h1, s1, c1, lay1, le1, -, sub1, vr1, q1⟩ := hv1 _ _ _ lay0
  replace vr0 := vr0.mono le1
  replace q0 := keeps25 _ _ _ sub1 q0
  obtain ⟨p, len, cap, b, rfl, sl, hb⟩ := isBytes q0
  obtain ⟨m, rfl, wm⟩ := q1
  refine Ev.calls_wp (P := Try.prog) (N := 100000) (by kernel_rfl) (Ev.R.tab_ok 100000 rfl) (fun f h C args K s => by obtain rfl := Nat.eq_of_beq_eq_true h; kernel_rfl) (by kernel_rfl) (by kernel_rfl) (d := 14) (by decide) lay1 (args := [.slice p len cap, Ev.R.u8 m])
    (.cons (hd vr0) (.cons (hd vr1) .nil)) (pw := fun _ => True) ?_
  exact (Ev.R.s15 (N := 100000) (d := 0) rfl lay1.fresh sl hb (byteOf wm)).use (fun _ _ => trivial) fun h1 s1 _ _ => rfl
set_option maxRecDepth 100000 in
theorem lifted (os : Os) (started : os.Started) (H : Type) (enc : TypeId × Value → H) :
    ReturnsInHanded {} Try.checked os 15 .any (Rows.talkAgainSpec.pre6 enc Try.prog Try.f15 Rows.talkAgainRow.domain false) (Rows.talkAgainSpec.post enc Try.prog Try.f15 false true false false) := by
  refine returnsInHanded_of_change_sized (C := Try.checked) own started (by kernel_rfl) Try.func15
    (ChangeSpec.witness6 (enc := enc) (C := Try.checked) false ⟨#[], #[.slice none 0 0, .int .u8 0], []⟩ 8 (by kernel_rfl) (by kernel_rfl) (by kernel_rfl) (by kernel_rfl)) ?_
  intro W base args ds gs before hval0 hW hcnd hsz0 _
  have hval : ∀ (j : Nat) t v, Try.f15.params[j]? = some t → args[j]? = some v → Value.okWide Try.prog W .any base t v := hval0
  have hW' := hW
  obtain ⟨p, q, hA0, hV, rfl, hfz, hnd⟩ := hW
  have hA : DataW.TrodAll enc Try.prog W 0 (fun _ => true) true Try.f15.params.toList args.toList ds p := hA0
  rw [Try.params15] at hA hval
  obtain ⟨v0, vs0, d0, ds0, p0, q0, hargs, rfl, rfl, h0, r0⟩ := trodAll_cons hA
  obtain ⟨v1, vs1, d1, ds1, p1, q1, rfl, rfl, rfl, h1, r1⟩ := trodAll_cons r0
  obtain ⟨rfl, rfl, rfl⟩ := trodAll_nil r1
  obtain rfl : args = #[v0, v1] := by cases args; simp_all
  obtain ⟨rfl, rfl⟩ := trodVars_none hV
  have k0 := h0
  have lt0 : ∀ x ∈ p0, x.block < W.heap.size := by obtain ⟨m, hm⟩ := k0; exact DataW.trod_lt m _ _ _ hm
  have k1 := h1
  have lt1 : ∀ x ∈ p1, x.block < W.heap.size := by obtain ⟨m, hm⟩ := k1; exact DataW.trod_lt m _ _ _ hm
  obtain ⟨m0, hm0⟩ := h0
  obtain ⟨a0, len0, cap0, rfl⟩ := okWide_slice Try.underlying25 (hval 0 25 v0 rfl rfl)
  obtain ⟨m1, hm1⟩ := h1
  obtain ⟨a1, rfl⟩ := okWide_int Try.underlying5 (hval 1 5 v1 rfl rfl)
  clear hA0 hval0 hsz0
  refine (walk _ _ W (lay25 hm0) (lay5 hm1)).mono fun e W' ⟨he, bel⟩ => ?_
  subst he
  exact ⟨_, rfl, _, _, _, [], _, [], hW', trodAll_mk1 (shut_bool Try.underlying4 _), (trodAll_cons_mk (Below.trod laidOut (by kernel_rfl) (of_decide_eq_true (by kernel_rfl)) k0 bel lt0) (trodAll_cons_mk (Below.trod laidOut (by kernel_rfl) (of_decide_eq_true (by kernel_rfl)) k1 bel lt1) trodAll_mk0)), rfl, bel.frame _, fun h => by cases h⟩
theorem over : Rows.talkAgainRow.holds Try.pinned (OpenSpec.ofChange Rows.talkAgainSpec) :=
  OpenClaim.holds_of_wide 15 Try.f15 rfl rfl rfl rfl rfl rfl rfl ⟨rfl, rfl, rfl, rfl, rfl⟩ rfl rfl rfl rfl rfl (by kernel_rfl) Try.func15 (by kernel_rfl)
    (of_decide_eq_true (by kernel_rfl)) (by unfold Func.isWrapper; first | (rw [if_pos (by decide +kernel)]; kernel_rfl) | (rw [if_neg (by decide +kernel)]; exact ⟨rfl, rfl⟩))
    (fun os started H enc _ => lifted os started H enc)
theorem proved : Rows.TalkAgainSaid := over
#print axioms proved
end Go.Proofs.Ytnffkmnjpnlleaa.talkAgain
namespace Go.Proofs.Ytnffkmnjpnlleaa
/-- The row, under a short name, for the claim. -/
theorem talkAgain_holds : Rows.TalkAgainSaid := talkAgain.proved
end Go.Proofs.Ytnffkmnjpnlleaa

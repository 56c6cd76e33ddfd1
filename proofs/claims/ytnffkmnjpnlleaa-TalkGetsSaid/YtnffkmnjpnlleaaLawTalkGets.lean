/- The Go function TalkGets returns true for any bytes: its functions are told as terms over a heap of names, whose answers the model's machine is proved to give. No condition. -/
import Derived.Test.YtnffkmnjpnlleaaRows
import Derived.Test.YtnffkmnjpnlleaaTalkGetsP2
import Derived.Test.YtnffkmnjpnlleaaTalkGetsA
import Derived.WalkKit
import Derived.ProofKit
import Derived.OpenShut
import Derived.ShutString
import Derived.ChangeOld
import Derived.Below
import Derived.SizedLaws
import Derived.Lib.SmallJoins
namespace Go.Proofs.Ytnffkmnjpnlleaa.talkGets
open Go.ChangeShapes Go.WideShapes Go.ChangeAt Go.RowKit Go.Joins Go.Deep
set_option linter.unusedVariables false
set_option linter.unusedSimpArgs false
theorem own : ownKnob Try.prog.godebug = none := by kernel_rfl
theorem laidOut : laidOutB Try.prog = true := by kernel_rfl
theorem hd {σ : Ev.Emb} {x y : Value} (h : Ev.VRs σ [x] [y]) : Ev.VR σ x y := by cases h with | cons h _ => exact h
theorem k5 : Try.prog.cellsOf 5 = 1 := by kernel_rfl
theorem k25 : Try.prog.cellsOf 25 = 1 := by kernel_rfl
section
variable {H : Type} {enc : TypeId × Value → H} {w : World} {base : Nat} {held : Bool}
abbrev Is5 (h : Ev.T) (c : List Value) : Prop := ∃ a : Int, c = [.int .u8 a] ∧ (Lit.int .u8 a).wf = true
theorem keeps5 : Ev.Keeps Is5 := fun _ _ _ _ h => h
theorem lay5 {n : Nat} {cs : List Value} {x : DataW H × List MemPlace} (h : DataW.trod enc Try.prog w base (fun _ => true) held n 5 cs = some x) : Ev.CanLay w cs Is5 := by
  obtain ⟨a, rfl, -, hw⟩ := DataW.trod_int Try.underlying5 h
  exact (Ev.CanLay.same fun σ => .cons (.int _ _) .nil).mono fun h c e => ⟨a, e, hw⟩
abbrev Is25 (h : Ev.T) (c : List Value) : Prop := ∃ len cap, len ≤ cap ∧ Ev.RowQ len cap (fun _ => Is5) 1 h c
theorem keeps25 : Ev.Keeps Is25 := fun h h' c hs ⟨len, cap, a, b⟩ => ⟨len, cap, a, Ev.RowQ.keeps (fun _ => keeps5) h h' c hs b⟩
set_option maxRecDepth 100000 in
theorem lay25 {n : Nat} {cs : List Value} {x : DataW H × List MemPlace} (h : DataW.trod enc Try.prog w base (fun _ => true) held n 25 cs = some x) : Ev.CanLay w cs Is25 := by
  rcases open_slice Try.underlying25 h with ⟨rfl, -⟩ | ⟨a, len, cap, m, n, D, Pl, rfl, -, hl, -, hm, -, hx⟩
  · exact Ev.CanLay.nil.mono fun h c q => ⟨0, 0, Nat.le_refl _, q⟩
  · have hm : m = cap := by simpa using hm
    subst hm
    rw [k5] at hx
    obtain ⟨f, hf⟩ := choose_lt (α := List Value) (p := fun i c => w.cells? base (a.add (i * 1)) 1 = some c ∧ Ev.CanLay w c Is5) (fun i hi => by
      obtain ⟨cs', h1, h2⟩ := hx i hi
      exact ⟨cs', h1, lay5 h2⟩)
    exact (Ev.CanLay.slice (by decide) (f := f) (Q := fun _ => Is5) (fun _ => keeps5) hl (fun i hi => (World.cells?_some (hf i hi).1).2.1) (fun i j hi hj => by rw [← Go.Deep.add_add]; exact (World.cells?_some (hf i hi).1).2.2 j hj) (fun i hi => (hf i hi).2)).mono fun h c q => ⟨len, m, hl, q⟩
end
set_option maxRecDepth 100000 in
theorem keptOk (σ : Ev.Emb) (w0 : World) (h : Ev.T) (w : World) (args : List Value) (args' : Array Value) (os : List Obj) (st : Ev.St σ w0 h w) (ha : Ev.VRs σ args args'.toList) (hr : Ev.readT h (Ev.keptN args) = some os) (hc : Ev.keptC args os = true) : Calls Try.prog 75 args' w (fun q w' => q = .returned (.bool true) ∧ Below w.heap.size w w') := by
  refine Ev.kept_ok (fun w σ h s args args' lay ha hx => ?_) σ w0 h w args args' os st ha hr hc
  obtain ⟨r, q, n, e, cap, l, rfl, hl, hn, hc, h1, h2⟩ := hx
  letI : Ev.Known Try.prog := Ev.Known.no Try.prog
  refine Ev.calls_wp (P := Try.prog) (N := 100000) (by kernel_rfl) (Ev.R.tab75_ok 100000) (fun f h => by cases h) (by kernel_rfl) (by kernel_rfl) (d := 1) (by decide) lay ha (pw := fun _ => True) ?_
  have hD : ∀ (args : List Value) (K : Value → Nat → Ev.AM) (s : Nat), Ev.deepF (Ev.tabF (Ev.R.tab75 100000)) 1 75 args K s = Ev.R.F75 100000 (Ev.deepF (Ev.tabF (Ev.R.tab75 100000)) 0) args K s := fun args K s => by kernel_rfl
  rw [hD]
  refine Ev.R.f75 lay.fresh (fun _ _ => trivial) hl hn hc h1 ?_ (fun h' s' => rfl)
  rcases h2 with h0 | ⟨r2, rfl, h2⟩
  · subst h0
    obtain rfl := List.eq_nil_of_length_eq_zero hl
    exact .nil _ _
  · exact .of_cells (by rw [h2, Ev.R.flatB]) hl
noncomputable abbrev kn : Ev.Known Try.prog := { kn := fun f => Nat.beq f 21, ok := fun f h w => by obtain rfl := Nat.eq_of_beq_eq_true h; exact awake w, k2 := fun f => Nat.beq f 75, need := fun _ => Ev.keptN, cond := fun _ => Ev.keptC, ok2 := fun f h => by obtain rfl := Nat.eq_of_beq_eq_true h; exact keptOk }
theorem byteOf {a : Int} (h : (Lit.int .u8 a).wf = true) : Ev.R.isByte a := by
  have : 0 ≤ a ∧ a ≤ 255 := by simpa [Lit.wf, IntKind.min, IntKind.max, IntKind.signed, IntKind.bits] using h
  exact ⟨this.1, by omega⟩
theorem isB {h : Ev.T} {c : List Value} (q : Is5 h c) : ∃ x : Int, c = Ev.R.EB.f x ∧ Ev.R.isByte x := by
  obtain ⟨x, rfl, w⟩ := q
  exact ⟨x, rfl, byteOf w⟩
theorem isBytes {h : Ev.T} {c : List Value} (q : Is25 h c) : ∃ p len cap l, c = [.slice p len cap] ∧ Ev.Sl Ev.R.EB h p len cap l ∧ (cap = 0 → p = none ∨ p = some ⟨0, 0, some 0⟩) ∧ ∀ z ∈ l, Ev.R.isByte z := by
  obtain ⟨len, cap, hl, r⟩ := q
  obtain ⟨p, l, rfl, sl, hz⟩ := Ev.RowQ.sl (E := Ev.R.EB) (R := fun z => Ev.R.isByte z) r hl (fun i c q => isB q)
  exact ⟨p, len, cap, l, rfl, sl, r.p0, hz⟩
set_option maxRecDepth 100000 in
theorem walk (v0 : Value) (W : World) (hv0 : Ev.CanLay W [v0] Is25) :
    Calls Try.prog 13 #[v0] W (fun e W' => e = .returned (.bool true) ∧ Below W.heap.size W W') := by
  letI : Ev.Known Try.prog := kn
  obtain ⟨σ0, h0, s0, c0, lay0, le0, -, sub0, vr0, q0⟩ := hv0 _ _ _ (Ev.LaySt.start W)
  obtain ⟨p, len, cap, b, rfl, sl, hp0, hb⟩ := isBytes q0
  refine Ev.calls_wp (P := Try.prog) (N := 100000) (by kernel_rfl) (Ev.R.tab_ok 100000 rfl rfl) (fun f h C args K s => by obtain rfl := Nat.eq_of_beq_eq_true h; kernel_rfl) (by kernel_rfl) (by kernel_rfl) (d := 14) (by decide) lay0 (args := [.slice p len cap])
    (.cons (hd vr0) .nil) (pw := fun _ => True) ?_ (hkt2 := fun f h => by obtain rfl := Nat.eq_of_beq_eq_true h; exact ⟨by kernel_rfl, fun C args K s => by kernel_rfl⟩)
  exact (Ev.R.s13 (N := 100000) (d := 0) rfl lay0.fresh sl hp0 hb).use (fun _ _ => trivial) fun h1 s1 _ _ => rfl
set_option maxRecDepth 100000 in
theorem lifted (os : Os) (started : os.Started) (H : Type) (enc : TypeId × Value → H) :
    ReturnsInHanded {} Try.checked os 13 .any (Rows.talkGetsSpec.pre6 enc Try.prog Try.f13 Rows.talkGetsRow.domain false) (Rows.talkGetsSpec.post enc Try.prog Try.f13 false true false false) := by
  refine returnsInHanded_of_change_sized (C := Try.checked) own started (by kernel_rfl) Try.func13
    (ChangeSpec.witness6 (enc := enc) (C := Try.checked) false ⟨#[], #[.slice none 0 0], []⟩ 8 (by kernel_rfl) (by kernel_rfl) (by kernel_rfl) (by kernel_rfl)) ?_
  intro W base args ds gs before hval0 hW hcnd hsz0 _
  have hval : ∀ (j : Nat) t v, Try.f13.params[j]? = some t → args[j]? = some v → Value.okWide Try.prog W .any base t v := hval0
  have hW' := hW
  obtain ⟨p, q, hA0, hV, rfl, hfz, hnd⟩ := hW
  have hA : DataW.TrodAll enc Try.prog W 0 (fun _ => true) true Try.f13.params.toList args.toList ds p := hA0
  rw [Try.params13] at hA hval
  obtain ⟨v0, vs0, d0, ds0, p0, q0, hargs, rfl, rfl, h0, r0⟩ := trodAll_cons hA
  obtain ⟨rfl, rfl, rfl⟩ := trodAll_nil r0
  obtain rfl : args = #[v0] := by cases args; simp_all
  obtain ⟨rfl, rfl⟩ := trodVars_none hV
  have k0 := h0
  have lt0 : ∀ x ∈ p0, x.block < W.heap.size := by obtain ⟨m, hm⟩ := k0; exact DataW.trod_lt m _ _ _ hm
  obtain ⟨m0, hm0⟩ := h0
  obtain ⟨a0, len0, cap0, rfl⟩ := okWide_slice Try.underlying25 (hval 0 25 v0 rfl rfl)
  clear hA0 hval0 hsz0
  refine (walk _ W (lay25 hm0)).mono fun e W' ⟨he, bel⟩ => ?_
  subst he
  exact ⟨_, rfl, _, _, _, [], _, [], hW', trodAll_mk1 (shut_bool Try.underlying4 _), (trodAll_cons_mk (Below.trod laidOut (by kernel_rfl) (of_decide_eq_true (by kernel_rfl)) k0 bel lt0) trodAll_mk0), rfl, bel.frame _, fun h => by cases h⟩
theorem over : Rows.talkGetsRow.holds Try.pinned (OpenSpec.ofChange Rows.talkGetsSpec) :=
  OpenClaim.holds_of_wide 13 Try.f13 rfl rfl rfl rfl rfl rfl rfl ⟨rfl, rfl, rfl, rfl, rfl⟩ rfl rfl rfl rfl rfl (by kernel_rfl) Try.func13 (by kernel_rfl)
    (of_decide_eq_true (by kernel_rfl)) (by unfold Func.isWrapper; first | (rw [if_pos (by decide +kernel)]; kernel_rfl) | (rw [if_neg (by decide +kernel)]; exact ⟨rfl, rfl⟩))
    (fun os started H enc _ => lifted os started H enc)
theorem proved : Rows.TalkGetsSaid := over
#print axioms proved
end Go.Proofs.Ytnffkmnjpnlleaa.talkGets
namespace Go.Proofs.Ytnffkmnjpnlleaa
/-- The row, under a short name, for the claim. -/
theorem talkGets_holds : Rows.TalkGetsSaid := talkGets.proved
end Go.Proofs.Ytnffkmnjpnlleaa

/- The Go function ServerNone returns true for any bytes: its functions are told as terms over a heap of names, whose answers the model's machine is proved to give. No condition. -/
import Derived.Test.YtpfnoffadfahmaaGreatRows
import Derived.Test.YtpfnoffadfahmaaGreatServerNoneP0
import Derived.Test.YtpfnoffadfahmaaGreatServerNoneC
import Derived.Test.YtpfnoffadfahmaaGreatServerNoneA
import Derived.WalkKit
import Derived.ProofKit
import Derived.OpenShut
import Derived.ShutString
import Derived.ChangeOld
import Derived.Below
import Derived.SizedLaws
import Derived.Lib.SmallJoins
namespace Go.Proofs.YtpfnoffadfahmaaGreat.serverNone
open Go.ChangeShapes Go.WideShapes Go.ChangeAt Go.RowKit Go.Joins Go.Deep
set_option linter.unusedVariables false
set_option linter.unusedSimpArgs false
theorem own : ownKnob Tryz.prog.godebug = none := by kernel_rfl
theorem laidOut : laidOutB Tryz.prog = true := by kernel_rfl
theorem hd {σ : Ev.Emb} {x y : Value} (h : Ev.VRs σ [x] [y]) : Ev.VR σ x y := by cases h with | cons h _ => exact h
theorem k5 : Tryz.prog.cellsOf 5 = 1 := by kernel_rfl
theorem k64 : Tryz.prog.cellsOf 64 = 1 := by kernel_rfl
section
variable {H : Type} {enc : TypeId × Value → H} {w : World} {base : Nat} {held : Bool}
abbrev Is5 (h : Ev.T) (c : List Value) : Prop := ∃ a : Int, c = [.int .u8 a] ∧ (Lit.int .u8 a).wf = true
theorem keeps5 : Ev.Keeps Is5 := fun _ _ _ _ h => h
theorem lay5 {n : Nat} {cs : List Value} {x : DataW H × List MemPlace} (h : DataW.trod enc Tryz.prog w base (fun _ => true) held n 5 cs = some x) : Ev.CanLay w cs Is5 := by
  obtain ⟨a, rfl, -, hw⟩ := DataW.trod_int Tryz.underlying5 h
  exact (Ev.CanLay.same fun σ => .cons (.int _ _) .nil).mono fun h c e => ⟨a, e, hw⟩
abbrev Is64 (h : Ev.T) (c : List Value) : Prop := ∃ len cap, len ≤ cap ∧ Ev.RowQ len cap (fun _ => Is5) 1 h c
theorem keeps64 : Ev.Keeps Is64 := fun h h' c hs ⟨len, cap, a, b⟩ => ⟨len, cap, a, Ev.RowQ.keeps (fun _ => keeps5) h h' c hs b⟩
set_option maxRecDepth 100000 in
theorem lay64 {n : Nat} {cs : List Value} {x : DataW H × List MemPlace} (h : DataW.trod enc Tryz.prog w base (fun _ => true) held n 64 cs = some x) : Ev.CanLay w cs Is64 := by
  rcases open_slice Tryz.underlying64 h with ⟨rfl, -⟩ | ⟨a, len, cap, m, n, D, Pl, rfl, -, hl, -, hm, -, hx⟩
  · exact Ev.CanLay.nil.mono fun h c q => ⟨0, 0, Nat.le_refl _, q⟩
  · have hm : m = cap := by simpa using hm
    subst hm
    rw [k5] at hx
    obtain ⟨f, hf⟩ := choose_lt (α := List Value) (p := fun i c => w.cells? base (a.add (i * 1)) 1 = some c ∧ Ev.CanLay w c Is5) (fun i hi => by
      obtain ⟨cs', h1, h2⟩ := hx i hi
      exact ⟨cs', h1, lay5 h2⟩)
    exact (Ev.CanLay.slice (by decide) (f := f) (Q := fun _ => Is5) (fun _ => keeps5) hl (fun i hi => (World.cells?_some (hf i hi).1).2.1) (fun i j hi hj => by rw [← Go.Deep.add_add]; exact (World.cells?_some (hf i hi).1).2.2 j hj) (fun i hi => (hf i hi).2)).mono fun h c q => ⟨len, m, hl, q⟩
end
noncomputable abbrev kn : Ev.Known Tryz.prog := { kn := fun f => Nat.beq f 23, ok := fun f h w => by obtain rfl := Nat.eq_of_beq_eq_true h; exact awake w }
set_option maxRecDepth 100000 in
theorem walk (v0 : Value) (W : World) (hv0 : Ev.CanLay W [v0] Is64) :
    Calls Tryz.prog 5 #[v0] W (fun e W' => e = .returned (.bool true) ∧ Below W.heap.size W W') := by
  letI : Ev.Known Tryz.prog := kn
  obtain ⟨σ0, h0, s0, c0, lay0, le0, -, sub0, vr0, q0⟩ := hv0 _ _ _ (Ev.LaySt.start W)
  obtain ⟨len, cap, hl, p, L, rfl, -⟩ := q0
  refine Ev.calls_wp (P := Tryz.prog) (N := 100000) (by kernel_rfl) (Ev.R.tab_ok 100000 rfl) (fun f h C args K s => by obtain rfl := Nat.eq_of_beq_eq_true h; kernel_rfl) (by kernel_rfl) (by kernel_rfl) (d := 5) (by decide) lay0 (args := [.slice p len cap])
    (.cons (hd vr0) .nil) (pw := fun _ => True) ?_
  exact (Ev.R.s5 (N := 100000) (d := 0) (Nat.le_refl _) lay0.fresh).use (fun _ _ => trivial) fun h1 s1 _ _ => rfl
set_option maxRecDepth 100000 in
theorem lifted (os : Os) (started : os.Started) (H : Type) (enc : TypeId × Value → H) :
    ReturnsInHanded {} Tryz.checked os 5 .any (Rows.serverNoneSpec.pre6 enc Tryz.prog Tryz.f5 Rows.serverNoneRow.domain false) (Rows.serverNoneSpec.post enc Tryz.prog Tryz.f5 false true false false) := by
  refine returnsInHanded_of_change_sized (C := Tryz.checked) own started (by kernel_rfl) Tryz.func5
    (ChangeSpec.witness6 (enc := enc) (C := Tryz.checked) false ⟨#[], #[.slice none 0 0], []⟩ 8 (by kernel_rfl) (by kernel_rfl) (by kernel_rfl) (by kernel_rfl)) ?_
  intro W base args ds gs before hval0 hW hcnd hsz0 _
  have hval : ∀ (j : Nat) t v, Tryz.f5.params[j]? = some t → args[j]? = some v → Value.okWide Tryz.prog W .any base t v := hval0
  have hW' := hW
  obtain ⟨p, q, hA0, hV, rfl, hfz, hnd⟩ := hW
  have hA : DataW.TrodAll enc Tryz.prog W 0 (fun _ => true) true Tryz.f5.params.toList args.toList ds p := hA0
  rw [Tryz.params5] at hA hval
  obtain ⟨v0, vs0, d0, ds0, p0, q0, hargs, rfl, rfl, h0, r0⟩ := trodAll_cons hA
  obtain ⟨rfl, rfl, rfl⟩ := trodAll_nil r0
  obtain rfl : args = #[v0] := by cases args; simp_all
  obtain ⟨rfl, rfl⟩ := trodVars_none hV
  have k0 := h0
  have lt0 : ∀ x ∈ p0, x.block < W.heap.size := by obtain ⟨m, hm⟩ := k0; exact DataW.trod_lt m _ _ _ hm
  obtain ⟨m0, hm0⟩ := h0
  obtain ⟨a0, len0, cap0, rfl⟩ := okWide_slice Tryz.underlying64 (hval 0 64 v0 rfl rfl)
  clear hA0 hval0 hsz0
  refine (walk _ W (lay64 hm0)).mono fun e W' ⟨he, bel⟩ => ?_
  subst he
  exact ⟨_, rfl, _, _, _, [], _, [], hW', trodAll_mk1 (shut_bool Tryz.underlying4 _), (trodAll_cons_mk (Below.trod laidOut (by kernel_rfl) (of_decide_eq_true (by kernel_rfl)) k0 bel lt0) trodAll_mk0), rfl, bel.frame _, fun h => by cases h⟩
theorem over : Rows.serverNoneRow.holds Tryz.pinned (OpenSpec.ofChange Rows.serverNoneSpec) :=
  OpenClaim.holds_of_wide 5 Tryz.f5 rfl rfl rfl rfl rfl rfl rfl ⟨rfl, rfl, rfl, rfl, rfl⟩ rfl rfl rfl rfl rfl (by kernel_rfl) Tryz.func5 joined
    (of_decide_eq_true (by kernel_rfl)) (by unfold Func.isWrapper; first | (rw [if_pos (by decide +kernel)]; kernel_rfl) | (rw [if_neg (by decide +kernel)]; exact ⟨rfl, rfl⟩))
    (fun os started H enc _ => lifted os started H enc)
theorem proved : Rows.ServerNoneSaid := over
#print axioms proved
end Go.Proofs.YtpfnoffadfahmaaGreat.serverNone
namespace Go.Proofs.YtpfnoffadfahmaaGreat
/-- The row, under a short name, for the claim. -/
theorem serverNone_holds : Rows.ServerNoneSaid := serverNone.proved
end Go.Proofs.YtpfnoffadfahmaaGreat

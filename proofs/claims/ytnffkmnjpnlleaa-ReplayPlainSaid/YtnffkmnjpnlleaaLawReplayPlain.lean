/- The Go function ReplayPlain returns true for any story: its functions are told as terms over a heap of names, whose answers the model's machine is proved to give. No condition. -/
import Derived.Test.YtnffkmnjpnlleaaRows
import Derived.Test.YtnffkmnjpnlleaaReplayPlainP2
import Derived.Test.YtnffkmnjpnlleaaReplayPlainA
import Derived.WalkKit
import Derived.ProofKit
import Derived.OpenShut
import Derived.ShutString
import Derived.ChangeOld
import Derived.Below
import Derived.SizedLaws
import Derived.Lib.SmallJoins
namespace Go.Proofs.Ytnffkmnjpnlleaa.replayPlain
open Go.ChangeShapes Go.WideShapes Go.ChangeAt Go.RowKit Go.Joins Go.Deep
set_option linter.unusedVariables false
set_option linter.unusedSimpArgs false
theorem own : ownKnob Try.prog.godebug = none := by kernel_rfl
theorem laidOut : laidOutB Try.prog = true := by kernel_rfl
theorem hd {σ : Ev.Emb} {x y : Value} (h : Ev.VRs σ [x] [y]) : Ev.VR σ x y := by cases h with | cons h _ => exact h
theorem k5 : Try.prog.cellsOf 5 = 1 := by kernel_rfl
theorem k25 : Try.prog.cellsOf 25 = 1 := by kernel_rfl
theorem k3 : Try.prog.cellsOf 3 = 1 := by kernel_rfl
theorem k27 : Try.prog.cellsOf 27 = 2 := by kernel_rfl
theorem k22 : Try.prog.cellsOf 22 = 1 := by kernel_rfl
section
variable {H : Type} {P : Program}
theorem weightsAll_mem {e : TypeId} : ∀ {l : List (DataW H)} {d : DataW H}, d ∈ l → ∀ q ∈ d.weights P e, q ∈ DataW.weightsAll P e l
  | x :: l, d, hd, q, hq => by
    rcases List.mem_cons.1 hd with rfl | hd
    · exact List.mem_append.2 (.inl hq)
    · exact List.mem_append.2 (.inr (weightsAll_mem hd q hq))
theorem sliceW {t e : TypeId} {len m : Nat} {D : Nat → DataW H} (hu : P.underlying t = some (.slice e)) (hb : 1 ≤ P.bytesOf e) (hl : len ≤ m) (hz : ∀ q ∈ DataW.weights P t (DataW.slice ((List.range len).map D) ((List.range (m - len)).map fun j => D (len + j))), q ≤ reachBytes) :
    m ≤ 140737488355328 ∧ ∀ i, i < m → ∀ q ∈ (D i).weights P e, q ≤ reachBytes := by
  have hw : DataW.weights P t (DataW.slice ((List.range len).map D) ((List.range (m - len)).map fun j => D (len + j))) = (((List.range len).map D).length + ((List.range (m - len)).map fun j => D (len + j)).length) * P.bytesOf e :: (DataW.weightsAll P e ((List.range len).map D) ++ DataW.weightsAll P e ((List.range (m - len)).map fun j => D (len + j))) := by
    simp only [DataW.weights, hu]
  rw [hw] at hz
  refine ⟨?_, fun i hi q hq => ?_⟩
  · have h1 := hz _ (List.mem_cons_self ..)
    rw [List.length_map, List.length_map, List.length_range, List.length_range] at h1
    have h2 : (len + (m - len)) * 1 ≤ (len + (m - len)) * P.bytesOf e := Nat.mul_le_mul (Nat.le_refl _) hb
    have h3 := reachBytes_lt
    have h4 : (2 : Nat) ^ 47 = 140737488355328 := by decide
    omega
  · refine hz q (List.mem_cons_of_mem _ (List.mem_append.2 ?_))
    rcases Nat.lt_or_ge i len with h1 | h1
    · exact .inl (weightsAll_mem (List.mem_map.2 ⟨i, List.mem_range.2 h1, rfl⟩) q hq)
    · exact .inr (weightsAll_mem (List.mem_map.2 ⟨i - len, List.mem_range.2 (by omega), by rw [Nat.add_sub_cancel' h1]⟩) q hq)
theorem structW {t : TypeId} {fs : Array Field} {ds : List (DataW H)} (hu : P.underlying t = some (.struct fs)) (hz : ∀ q ∈ DataW.weights P t (DataW.agg ds), q ≤ reachBytes) {j : Nat} {f : TypeId} {d : DataW H} (hf : (fs.toList.map (·.type))[j]? = some f) (hd : ds[j]? = some d) : ∀ q ∈ d.weights P f, q ≤ reachBytes := fun q hq => by
  refine hz q ?_
  have hw : DataW.weights P t (DataW.agg ds) = DataW.weightsEach P (fs.toList.map (·.type)) ds := by simp only [DataW.weights, hu]
  rw [hw]
  exact DataW.weights_mem_each hf hd q hq
end
section
variable {H : Type} {enc : TypeId × Value → H} {w : World} {base : Nat} {held : Bool}
abbrev Is5 (h : Ev.T) (c : List Value) : Prop := ∃ a : Int, c = [.int .u8 a] ∧ (Lit.int .u8 a).wf = true
theorem keeps5 : Ev.Keeps Is5 := fun _ _ _ _ h => h
theorem lay5 {n : Nat} {cs : List Value} {x : DataW H × List MemPlace} (h : DataW.trod enc Try.prog w base (fun _ => true) held n 5 cs = some x) (hz : ∀ q ∈ DataW.weights Try.prog 5 x.1, q ≤ reachBytes) : Ev.CanLay w cs Is5 := by
  obtain ⟨a, rfl, -, hw⟩ := DataW.trod_int Try.underlying5 h
  exact (Ev.CanLay.same fun σ => .cons (.int _ _) .nil).mono fun h c e => ⟨a, e, hw⟩
abbrev Is25 (h : Ev.T) (c : List Value) : Prop := ∃ len cap, len ≤ cap ∧ cap ≤ 140737488355328 ∧ Ev.RowQ len cap (fun _ => Is5) 1 h c
theorem keeps25 : Ev.Keeps Is25 := fun h h' c hs ⟨len, cap, a, a2, b⟩ => ⟨len, cap, a, a2, Ev.RowQ.keeps (fun _ => keeps5) h h' c hs b⟩
set_option maxRecDepth 100000 in
theorem lay25 {n : Nat} {cs : List Value} {x : DataW H × List MemPlace} (h : DataW.trod enc Try.prog w base (fun _ => true) held n 25 cs = some x) (hz : ∀ q ∈ DataW.weights Try.prog 25 x.1, q ≤ reachBytes) : Ev.CanLay w cs Is25 := by
  rcases open_slice Try.underlying25 h with ⟨rfl, -⟩ | ⟨a, len, cap, m, n, D, Pl, rfl, -, hl, -, hm, hxe, hx⟩
  · exact Ev.CanLay.nil.mono fun h c q => ⟨0, 0, Nat.le_refl _, Nat.zero_le _, q⟩
  · have hm : m = cap := by simpa using hm
    subst hm
    rw [hxe] at hz
    have hzs := sliceW Try.underlying25 (Nat.le_of_ble_eq_true (by kernel_rfl : Nat.ble 1 (Try.prog.bytesOf 5) = true)) hl hz
    have hzc := hzs.1
    have hze := hzs.2
    rw [k5] at hx
    obtain ⟨f, hf⟩ := choose_lt (α := List Value) (p := fun i c => w.cells? base (a.add (i * 1)) 1 = some c ∧ Ev.CanLay w c Is5) (fun i hi => by
      obtain ⟨cs', h1, h2⟩ := hx i hi
      exact ⟨cs', h1, lay5 h2 (hze i hi)⟩)
    exact (Ev.CanLay.slice (by decide) (f := f) (Q := fun _ => Is5) (fun _ => keeps5) hl (fun i hi => (World.cells?_some (hf i hi).1).2.1) (fun i j hi hj => by rw [← Go.Deep.add_add]; exact (World.cells?_some (hf i hi).1).2.2 j hj) (fun i hi => (hf i hi).2)).mono fun h c q => ⟨len, m, hl, hzc, q⟩
abbrev Is3 (h : Ev.T) (c : List Value) : Prop := ∃ a : Int, c = [.int .i64 a] ∧ (Lit.int .i64 a).wf = true
theorem keeps3 : Ev.Keeps Is3 := fun _ _ _ _ h => h
theorem lay3 {n : Nat} {cs : List Value} {x : DataW H × List MemPlace} (h : DataW.trod enc Try.prog w base (fun _ => true) held n 3 cs = some x) (hz : ∀ q ∈ DataW.weights Try.prog 3 x.1, q ≤ reachBytes) : Ev.CanLay w cs Is3 := by
  obtain ⟨a, rfl, -, hw⟩ := DataW.trod_int Try.underlying3 h
  exact (Ev.CanLay.same fun σ => .cons (.int _ _) .nil).mono fun h c e => ⟨a, e, hw⟩
abbrev Is27 (h : Ev.T) (c : List Value) : Prop := ∃ x0 x1 : List Value, c = x0 ++ (x1) ∧ Is25 h x0 ∧ Is3 h x1
theorem keeps27 : Ev.Keeps Is27 := fun h h' c hs ⟨x0, x1, e, qx0, qx1⟩ => ⟨x0, x1, e, keeps25 h h' x0 hs qx0, keeps3 h h' x1 hs qx1⟩
set_option maxRecDepth 100000 in
theorem lay27 {n : Nat} {cs : List Value} {x : DataW H × List MemPlace} (h : DataW.trod enc Try.prog w base (fun _ => true) held n 27 cs = some x) (hz : ∀ q ∈ DataW.weights Try.prog 27 x.1, q ≤ reachBytes) : Ev.CanLay w cs Is27 := by
  obtain ⟨ys, n', _, hxe, hlen, hyl, hg⟩ := DataW.trod_struct Try.underlying27 h
  rw [k27] at hlen
  rw [hxe] at hz
  clear hxe
  match cs, hlen, ys, hyl, hz with
  | [c0, c1], _, [y0, y1], _, hz =>
    have g0 : DataW.trod enc Try.prog w base (fun _ => true) held n' 25 [c0] = some y0 := by
      have := hg 0 _ rfl
      simpa [k5, k25, k3, k27, k22, Value.cells] using this
    have g1 : DataW.trod enc Try.prog w base (fun _ => true) held n' 3 [c1] = some y1 := by
      have := hg 1 _ rfl
      simpa [k5, k25, k3, k27, k22, Value.cells] using this
    refine ((lay25 g0 (structW Try.underlying27 hz (j := 0) rfl rfl)).append keeps25 (lay3 g1 (structW Try.underlying27 hz (j := 1) rfl rfl))).mono ?_
    rintro h c ⟨x0, z0, rfl, q0, q1⟩
    exact ⟨x0, _, rfl, q0, q1⟩
abbrev Is22 (h : Ev.T) (c : List Value) : Prop := ∃ len cap, len ≤ cap ∧ cap ≤ 140737488355328 ∧ Ev.RowQ len cap (fun _ => Is27) 2 h c
theorem keeps22 : Ev.Keeps Is22 := fun h h' c hs ⟨len, cap, a, a2, b⟩ => ⟨len, cap, a, a2, Ev.RowQ.keeps (fun _ => keeps27) h h' c hs b⟩
set_option maxRecDepth 100000 in
theorem lay22 {n : Nat} {cs : List Value} {x : DataW H × List MemPlace} (h : DataW.trod enc Try.prog w base (fun _ => true) held n 22 cs = some x) (hz : ∀ q ∈ DataW.weights Try.prog 22 x.1, q ≤ reachBytes) : Ev.CanLay w cs Is22 := by
  rcases open_slice Try.underlying22 h with ⟨rfl, -⟩ | ⟨a, len, cap, m, n, D, Pl, rfl, -, hl, -, hm, hxe, hx⟩
  · exact Ev.CanLay.nil.mono fun h c q => ⟨0, 0, Nat.le_refl _, Nat.zero_le _, q⟩
  · have hm : m = cap := by simpa using hm
    subst hm
    rw [hxe] at hz
    have hzs := sliceW Try.underlying22 (Nat.le_of_ble_eq_true (by kernel_rfl : Nat.ble 1 (Try.prog.bytesOf 27) = true)) hl hz
    have hzc := hzs.1
    have hze := hzs.2
    rw [k27] at hx
    obtain ⟨f, hf⟩ := choose_lt (α := List Value) (p := fun i c => w.cells? base (a.add (i * 2)) 2 = some c ∧ Ev.CanLay w c Is27) (fun i hi => by
      obtain ⟨cs', h1, h2⟩ := hx i hi
      exact ⟨cs', h1, lay27 h2 (hze i hi)⟩)
    exact (Ev.CanLay.slice (by decide) (f := f) (Q := fun _ => Is27) (fun _ => keeps27) hl (fun i hi => (World.cells?_some (hf i hi).1).2.1) (fun i j hi hj => by rw [← Go.Deep.add_add]; exact (World.cells?_some (hf i hi).1).2.2 j hj) (fun i hi => (hf i hi).2)).mono fun h c q => ⟨len, m, hl, hzc, q⟩
end
noncomputable abbrev kn : Ev.Known Try.prog := { kn := fun f => Nat.beq f 16, ok := fun f h w => by obtain rfl := Nat.eq_of_beq_eq_true h; exact awake w }
theorem byteOf {a : Int} (h : (Lit.int .u8 a).wf = true) : Ev.R.isByte a := by
  have : 0 ≤ a ∧ a ≤ 255 := by simpa [Lit.wf, IntKind.min, IntKind.max, IntKind.signed, IntKind.bits] using h
  exact ⟨this.1, by omega⟩
theorem isB {h : Ev.T} {c : List Value} (q : Is5 h c) : ∃ x : Int, c = Ev.R.EB.f x ∧ Ev.R.isByte x := by
  obtain ⟨x, rfl, w⟩ := q
  exact ⟨x, rfl, byteOf w⟩
theorem isBytes {h : Ev.T} {c : List Value} (q : Is25 h c) : ∃ p len cap l, c = [.slice p len cap] ∧ len ≤ 140737488355328 ∧ Ev.Sl Ev.R.EB h p len cap l ∧ ∀ z ∈ l, Ev.R.isByte z := by
  obtain ⟨len, cap, hl, hc, r⟩ := q
  obtain ⟨p, l, rfl, sl, hz⟩ := Ev.RowQ.sl (E := Ev.R.EB) (R := fun z => Ev.R.isByte z) r hl (fun i c q => isB q)
  exact ⟨p, len, cap, l, rfl, by omega, sl, hz⟩
theorem isRun {h : Ev.T} {c : List Value} (q : Is27 h c) : ∃ x : Ev.R.RU, c = Ev.R.EU.f x ∧ (x.n ≤ 140737488355328 ∧ Ev.Row Ev.R.EB h x.p x.n x.b ∧ Ev.R.allBytes x.b) := by
  obtain ⟨_, _, rfl, z, ⟨t, rfl, -⟩⟩ := q
  obtain ⟨p, len, cap, l, rfl, hn, sl, hz⟩ := isBytes z
  exact ⟨⟨p, len, cap, t, l⟩, rfl, hn, sl.row, hz⟩
theorem isRuns {h : Ev.T} {c : List Value} (q : Is22 h c) : ∃ p len cap l, c = [.slice p len cap] ∧ Ev.R.InU h p len l ∧ (∀ y ∈ l, y.n ≤ 140737488355328) ∧ ∀ y ∈ l, Ev.R.allBytes y.b := by
  obtain ⟨len, cap, hl, hc, r⟩ := q
  obtain ⟨p, l, rfl, sl, hz⟩ := Ev.RowQ.sl (E := Ev.R.EU) (R := fun x => x.n ≤ 140737488355328 ∧ Ev.Row Ev.R.EB h x.p x.n x.b ∧ Ev.R.allBytes x.b) r hl (fun i c q => isRun q)
  exact ⟨p, len, cap, l, rfl, ⟨sl.row, fun y hy => (hz y hy).2.1⟩, fun y hy => (hz y hy).1, fun y hy => (hz y hy).2.2⟩
set_option maxRecDepth 100000 in
theorem walk (v0 : Value) (W : World) (hv0 : Ev.CanLay W [v0] Is22) :
    Calls Try.prog 3 #[v0] W (fun e W' => e = .returned (.bool true) ∧ Below W.heap.size W W') := by
  letI : Ev.Known Try.prog := kn
  obtain ⟨σ0, h0, s0, c0, lay0, le0, -, sub0, vr0, q0⟩ := hv0 _ _ _ (Ev.LaySt.start W)
  obtain ⟨p, len, cap, l, rfl, hx, hn, hb⟩ := isRuns q0
  refine Ev.calls_wp (P := Try.prog) (N := 100000) (by kernel_rfl) (Ev.R.tab_ok 100000 rfl) (fun f h C args K s => by obtain rfl := Nat.eq_of_beq_eq_true h; kernel_rfl) (by kernel_rfl) (by kernel_rfl) (d := 10) (by decide) lay0 (args := [.slice p len cap])
    (.cons (hd vr0) .nil) (pw := fun _ => True) ?_
  exact (Ev.R.s3 (N := 100000) (d := 0) lay0.fresh rfl hx hn hb).use (fun _ _ => trivial) fun h1 s1 _ _ => rfl
set_option maxRecDepth 100000 in
theorem lifted (os : Os) (started : os.Started) (H : Type) (enc : TypeId × Value → H) :
    ReturnsInHanded {} Try.checked os 3 .any (Rows.replayPlainSpec.pre6 enc Try.prog Try.f3 Rows.replayPlainRow.domain false) (Rows.replayPlainSpec.post enc Try.prog Try.f3 false true false false) := by
  refine returnsInHanded_of_change_sized (C := Try.checked) own started (by kernel_rfl) Try.func3
    (ChangeSpec.witness6 (enc := enc) (C := Try.checked) false ⟨#[], #[.slice none 0 0], []⟩ 8 (by kernel_rfl) (by kernel_rfl) (by kernel_rfl) (by kernel_rfl)) ?_
  intro W base args ds gs before hval0 hW hcnd hsz0 _
  have hval : ∀ (j : Nat) t v, Try.f3.params[j]? = some t → args[j]? = some v → Value.okWide Try.prog W .any base t v := hval0
  have hW' := hW
  obtain ⟨p, q, hA0, hV, rfl, hfz, hnd⟩ := hW
  have hA : DataW.TrodAll enc Try.prog W 0 (fun _ => true) true Try.f3.params.toList args.toList ds p := hA0
  rw [Try.params3] at hA hval
  obtain ⟨v0, vs0, d0, ds0, p0, q0, hargs, rfl, rfl, h0, r0⟩ := trodAll_cons hA
  obtain ⟨rfl, rfl, rfl⟩ := trodAll_nil r0
  obtain rfl : args = #[v0] := by cases args; simp_all
  obtain ⟨rfl, rfl⟩ := trodVars_none hV
  have k0 := h0
  have lt0 : ∀ x ∈ p0, x.block < W.heap.size := by obtain ⟨m, hm⟩ := k0; exact DataW.trod_lt m _ _ _ hm
  obtain ⟨m0, hm0⟩ := h0
  obtain ⟨a0, len0, cap0, rfl⟩ := okWide_slice Try.underlying22 (hval 0 22 v0 rfl rfl)
  clear hA0 hval0
  have hz0 : ∀ q ∈ DataW.weights Try.prog 22 d0, q ≤ reachBytes := fun q hq => by
    have := List.all_eq_true.1 hsz0 q (DataW.weights_mem_each (j := 0) (t := 22) (d := d0) rfl rfl q hq)
    exact of_decide_eq_true this
  refine (walk _ W (lay22 hm0 hz0)).mono fun e W' ⟨he, bel⟩ => ?_
  subst he
  exact ⟨_, rfl, _, _, _, [], _, [], hW', trodAll_mk1 (shut_bool Try.underlying4 _), (trodAll_cons_mk (Below.trod laidOut (by kernel_rfl) (of_decide_eq_true (by kernel_rfl)) k0 bel lt0) trodAll_mk0), rfl, bel.frame _, fun h => by cases h⟩
theorem over : Rows.replayPlainRow.holds Try.pinned (OpenSpec.ofChange Rows.replayPlainSpec) :=
  OpenClaim.holds_of_wide 3 Try.f3 rfl rfl rfl rfl rfl rfl rfl ⟨rfl, rfl, rfl, rfl, rfl⟩ rfl rfl rfl rfl rfl (by kernel_rfl) Try.func3 (by kernel_rfl)
    (of_decide_eq_true (by kernel_rfl)) (by unfold Func.isWrapper; first | (rw [if_pos (by decide +kernel)]; kernel_rfl) | (rw [if_neg (by decide +kernel)]; exact ⟨rfl, rfl⟩))
    (fun os started H enc _ => lifted os started H enc)
theorem proved : Rows.ReplayPlainSaid := over
#print axioms proved
end Go.Proofs.Ytnffkmnjpnlleaa.replayPlain
namespace Go.Proofs.Ytnffkmnjpnlleaa
/-- The row, under a short name, for the claim. -/
theorem replayPlain_holds : Rows.ReplayPlainSaid := replayPlain.proved
end Go.Proofs.Ytnffkmnjpnlleaa

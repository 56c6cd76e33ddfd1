/- The Go function EntryKeys returns true for any two keys and any list of keys: its functions are told as terms over a heap of names, whose answers the model's machine is proved to give. No condition. -/
import Derived.Test.YtgadiajhhjfmbaaRows
import Derived.Test.YtgadiajhhjfmbaaEntryKeysP1
import Derived.WalkKit
import Derived.ProofKit
import Derived.OpenShut
import Derived.ShutString
import Derived.ChangeOld
import Derived.Below
import Derived.SizedLaws
import Derived.Lib.SmallJoins
namespace Go.Proofs.Ytgadiajhhjfmbaa.entryKeys
open Go.ChangeShapes Go.WideShapes Go.ChangeAt Go.RowKit Go.Joins Go.Deep
set_option linter.unusedVariables false
theorem own : ownKnob Try.prog.godebug = none := by kernel_rfl
theorem laidOut : laidOutB Try.prog = true := by kernel_rfl
section
variable {H : Type} {enc : TypeId × Value → H} {w : World} {base : Nat} {spare : Nat → Bool} {held : Bool}
set_option maxRecDepth 100000 in
/-- A key that comes in: three numbers. -/
theorem open_key {r : Reach} {b0 : Nat} {v : Value} {d : DataW H} {p : List MemPlace} (hv : Value.okWide Try.prog w r b0 23 v) (h : DataW.Trod enc Try.prog w base spare held 23 v d p) :
    ∃ x : Ev.R.K3, v = Ev.R.kval x := by
  obtain ⟨v0, v1, v2, y0, y1, y2, n, rfl, -, -, h0, h1, h2⟩ := open_agg3 Try.underlying23 (by kernel_rfl) (by kernel_rfl) hv h
  obtain ⟨a, ha, -, -⟩ := DataW.trod_int Try.underlying3 h0
  obtain ⟨b, hb, -, -⟩ := DataW.trod_int Try.underlying3 h1
  obtain ⟨c, hc, -, -⟩ := DataW.trod_int Try.underlying3 h2
  obtain rfl := (List.cons.inj ha).1
  obtain rfl := (List.cons.inj hb).1
  obtain rfl := (List.cons.inj hc).1
  exact ⟨⟨a, b, c⟩, rfl⟩
set_option maxRecDepth 100000 in
/-- A key in a list. -/
theorem key_cells {n : Nat} {cs : List Value} {x : DataW H × List MemPlace} (h : DataW.trod enc Try.prog w base spare held n 23 cs = some x) : ∃ k : Ev.R.K3, cs = Ev.R.kv k := by
  obtain ⟨ys, n', _, _, hlen, hyl, hg⟩ := DataW.trod_struct Try.underlying23 h
  have k23 : Try.prog.cellsOf 23 = 3 := by kernel_rfl
  have k3 : Try.prog.cellsOf 3 = 1 := by kernel_rfl
  rw [k23] at hlen
  match cs, hlen, ys, hyl with
  | [c0, c1, c2], _, [y0, y1, y2], _ =>
    have g0 : DataW.trod enc Try.prog w base spare held n' 3 [c0] = some y0 := by
      have := hg 0 _ rfl
      simpa [k3, Value.cells] using this
    have g1 : DataW.trod enc Try.prog w base spare held n' 3 [c1] = some y1 := by
      have := hg 1 _ rfl
      simpa [k3, Value.cells] using this
    have g2 : DataW.trod enc Try.prog w base spare held n' 3 [c2] = some y2 := by
      have := hg 2 _ rfl
      simpa [k3, Value.cells] using this
    obtain ⟨a, ha, -, -⟩ := DataW.trod_int Try.underlying3 g0
    obtain ⟨b, hb, -, -⟩ := DataW.trod_int Try.underlying3 g1
    obtain ⟨c, hc, -, -⟩ := DataW.trod_int Try.underlying3 g2
    obtain rfl := (List.cons.inj ha).1
    obtain rfl := (List.cons.inj hb).1
    obtain rfl := (List.cons.inj hc).1
    exact ⟨⟨a, b, c⟩, rfl⟩
theorem kv_same (σ : Ev.Emb) (k : Ev.R.K3) : Ev.VRs σ (Ev.R.kv k) (Ev.R.kv k) := .cons (.int _ _) (.cons (.int _ _) (.cons (.int _ _) .nil))
set_option maxRecDepth 100000 in
/-- A list of keys that comes in. -/
theorem open_keys {n : Nat} {v : Value} {x : DataW H × List MemPlace} (h : DataW.trod enc Try.prog w base (fun _ => true) held n 24 [v] = some x) :
    Ev.CanLay w [v] (fun h c => ∃ (p : Option Addr) (len cap : Nat) (l : List Ev.R.K3), c = [.slice p len cap] ∧ Ev.Row Ev.R.EK h p len l ∧ (p = none → len = 0 ∧ cap = 0)) := by
  have k23 : Try.prog.cellsOf 23 = 3 := by kernel_rfl
  have fin : ∀ {len cap : Nat}, len ≤ cap → Ev.CanLay w [v] (Ev.RowQ len cap (fun _ _ c => ∃ k : Ev.R.K3, c = Ev.R.kv k) 3) → Ev.CanLay w [v] (fun h c => ∃ (p : Option Addr) (len cap : Nat) (l : List Ev.R.K3), c = [.slice p len cap] ∧ Ev.Row Ev.R.EK h p len l ∧ (p = none → len = 0 ∧ cap = 0)) := by
    intro len cap hl hc
    refine hc.mono fun h c hq => ?_
    obtain ⟨p, l, e, r, hp, -⟩ := Ev.RowQ.row (E := Ev.R.EK) (R := fun _ => True) hq hl (fun i c ⟨k, hk⟩ => ⟨k, hk, trivial⟩)
    exact ⟨p, len, cap, l, e, r, hp⟩
  rcases open_slice Try.underlying24 h with ⟨e, -⟩ | ⟨a, len, cap, m, n, D, Pl, e, -, hl, -, hm, -, hx⟩
  · obtain rfl := (List.cons.inj e).1
    exact fin (Nat.le_refl 0) .nil
  · obtain rfl := (List.cons.inj e).1
    have hm : m = cap := by simpa using hm
    subst hm
    rw [k23] at hx
    obtain ⟨f, hf⟩ := choose_lt (α := List Value) (p := fun i c => w.cells? base (a.add (i * 3)) 3 = some c ∧ ∃ k : Ev.R.K3, c = Ev.R.kv k) (fun i hi => by
      obtain ⟨cs', h1, h2⟩ := hx i hi
      exact ⟨cs', h1, key_cells h2⟩)
    refine fin hl (Ev.CanLay.slice (by decide) (f := f) (Q := fun _ _ c => ∃ k : Ev.R.K3, c = Ev.R.kv k) (fun _ _ _ _ _ h => h) hl (fun i hi => ?_) (fun i j hi hj => ?_) (fun i hi => ?_))
    · exact (World.cells?_some (hf i hi).1).2.1
    · rw [← Go.Deep.add_add]; exact (World.cells?_some (hf i hi).1).2.2 j hj
    · obtain ⟨k, hk⟩ := (hf i hi).2
      rw [hk]
      exact (Ev.CanLay.same fun σ => kv_same σ k).mono fun h c e => ⟨k, e⟩
end
set_option maxRecDepth 100000 in
theorem walk (x y : Ev.R.K3) (v : Value) (W : World) (hv : Ev.CanLay W [v] (fun h c => ∃ (p : Option Addr) (len cap : Nat) (l : List Ev.R.K3), c = [.slice p len cap] ∧ Ev.Row Ev.R.EK h p len l ∧ (p = none → len = 0 ∧ cap = 0))) :
    Calls Try.prog 3 #[Ev.R.kval x, Ev.R.kval y, v] W (fun e W' => e = .returned (.bool true) ∧ Below W.heap.size W W') := by
  obtain ⟨σ, h, s, c, lay, -, -, -, hvr, p, len, cap, l, rfl, r, hp⟩ := hv _ _ _ (Ev.LaySt.start W)
  refine Ev.calls_wp (P := Try.prog) (N := 100000) (by kernel_rfl) (Ev.R.tab_ok 100000) (by kernel_rfl) (by kernel_rfl) (d := 9) (by decide) lay (args := [Ev.R.kval x, Ev.R.kval y, .slice p len cap]) (.cons (Ev.VR.of_agg (kv_same σ x)) (.cons (Ev.VR.of_agg (kv_same σ y)) hvr)) (pw := fun _ => True) ?_
  exact (Ev.R.s3_mid (N := 100000) (d := 0) (Nat.le_refl _) lay.fresh x y r).use (fun _ _ => trivial) fun h1 s1 _ _ => rfl
set_option maxRecDepth 100000 in
theorem lifted (os : Os) (started : os.Started) (H : Type) (enc : TypeId × Value → H) :
    ReturnsInHanded {} Try.checked os 3 .any (Rows.entryKeysSpec.pre6 enc Try.prog Try.f3 Rows.entryKeysRow.domain false) (Rows.entryKeysSpec.post enc Try.prog Try.f3 false true false false) := by
  refine returnsInHanded_of_change_sized (C := Try.checked) own started (by kernel_rfl) Try.func3
    (ChangeSpec.witness6 (enc := enc) (C := Try.checked) false ⟨#[], #[.agg #[.int .i64 0, .int .i64 0, .int .i64 0], .agg #[.int .i64 0, .int .i64 0, .int .i64 0], .slice none 0 0], []⟩ 8 (by kernel_rfl) (by kernel_rfl) (by kernel_rfl) (by kernel_rfl)) ?_
  intro W base args ds gs before hval0 hW hcnd hsz0 _
  have hval : ∀ (j : Nat) t v, Try.f3.params[j]? = some t → args[j]? = some v → Value.okWide Try.prog W .any base t v := hval0
  have hW' := hW
  obtain ⟨p, q, hA0, hV, rfl, hfz, hnd⟩ := hW
  have hA : DataW.TrodAll enc Try.prog W 0 (fun _ => true) true Try.f3.params.toList args.toList ds p := hA0
  rw [Try.params3] at hA hval
  obtain ⟨v0, vs0, d0, ds0, p0, q0, hargs, rfl, rfl, h0, r0⟩ := trodAll_cons hA
  obtain ⟨v1, vs1, d1, ds1, p1, q1, rfl, rfl, rfl, h1, r1⟩ := trodAll_cons r0
  obtain ⟨v2, vs2, d2, ds2, p2, q2, rfl, rfl, rfl, h2, r2⟩ := trodAll_cons r1
  obtain ⟨rfl, rfl, rfl⟩ := trodAll_nil r2
  obtain rfl : args = #[v0, v1, v2] := by cases args; simp_all
  obtain ⟨rfl, rfl⟩ := trodVars_none hV
  have k0 := h0
  have lt0 : ∀ x ∈ p0, x.block < W.heap.size := by obtain ⟨m, hm⟩ := k0; exact DataW.trod_lt m _ _ _ hm
  have k1 := h1
  have lt1 : ∀ x ∈ p1, x.block < W.heap.size := by obtain ⟨m, hm⟩ := k1; exact DataW.trod_lt m _ _ _ hm
  have k2 := h2
  have lt2 : ∀ x ∈ p2, x.block < W.heap.size := by obtain ⟨m, hm⟩ := k2; exact DataW.trod_lt m _ _ _ hm
  obtain ⟨x, rfl⟩ := open_key (hval 0 23 v0 rfl rfl) h0
  obtain ⟨y, rfl⟩ := open_key (hval 1 23 v1 rfl rfl) h1
  obtain ⟨m2, hm2⟩ := h2
  obtain ⟨a2, len2, cap2, rfl⟩ := okWide_slice Try.underlying24 (hval 2 24 v2 rfl rfl)
  clear hA0 hval0 hsz0
  refine (walk x y (.slice a2 len2 cap2) W (open_keys (n := m2) hm2)).mono fun e W' ⟨he, bel⟩ => ?_
  subst he
  exact ⟨_, rfl, _, _, _, [], _, [], hW', trodAll_mk1 (shut_bool Try.underlying4 _), (trodAll_cons_mk (Below.trod laidOut (by kernel_rfl) (of_decide_eq_true (by kernel_rfl)) k0 bel lt0) (trodAll_cons_mk (Below.trod laidOut (by kernel_rfl) (of_decide_eq_true (by kernel_rfl)) k1 bel lt1) (trodAll_cons_mk (Below.trod laidOut (by kernel_rfl) (of_decide_eq_true (by kernel_rfl)) k2 bel lt2) trodAll_mk0))), rfl, bel.frame _, fun h => by cases h⟩
theorem over : Rows.entryKeysRow.holds Try.pinned (OpenSpec.ofChange Rows.entryKeysSpec) :=
  OpenClaim.holds_of_wide 3 Try.f3 rfl rfl rfl rfl rfl rfl rfl ⟨rfl, rfl, rfl, rfl, rfl⟩ rfl rfl rfl rfl rfl (by kernel_rfl) Try.func3 (by kernel_rfl)
    (of_decide_eq_true (by kernel_rfl)) (by unfold Func.isWrapper; first | (rw [if_pos (by decide +kernel)]; kernel_rfl) | (rw [if_neg (by decide +kernel)]; exact ⟨rfl, rfl⟩))
    (fun os started H enc _ => lifted os started H enc)
theorem proved : Rows.EntryKeysSaid := over
#print axioms proved
end Go.Proofs.Ytgadiajhhjfmbaa.entryKeys
namespace Go.Proofs.Ytgadiajhhjfmbaa
/-- The row, under a short name, for the claim. -/
theorem entryKeys_holds : Rows.EntryKeysSaid := entryKeys.proved
end Go.Proofs.Ytgadiajhhjfmbaa

/- The Go function EntryPlace returns true for any list of keys: its functions are told as terms over a heap of names, whose answers the model's machine is proved to give. No condition. -/
import Derived.Test.YtgadiajhhjfmbaaRows
import Derived.Test.YtgadiajhhjfmbaaEntryPlaceP2
import Derived.WalkKit
import Derived.ProofKit
import Derived.OpenShut
import Derived.ShutString
import Derived.ChangeOld
import Derived.Below
import Derived.SizedLaws
import Derived.Lib.SmallJoins
namespace Go.Proofs.Ytgadiajhhjfmbaa.entryPlace
open Go.ChangeShapes Go.WideShapes Go.ChangeAt Go.RowKit Go.Joins Go.Deep
set_option linter.unusedVariables false
theorem own : ownKnob Try.prog.godebug = none := by kernel_rfl
theorem laidOut : laidOutB Try.prog = true := by kernel_rfl
section
variable {H : Type} {enc : TypeId × Value → H} {w : World} {base : Nat} {spare : Nat → Bool} {held : Bool}
set_option maxRecDepth 100000 in
/-- A key in a list. -/
theorem key_cells {n : Nat} {cs : List Value} {x : DataW H × List MemPlace} (h : DataW.trod enc Try.prog w base spare held n 23 cs = some x) : ∃ k : Ev.R.K3, cs = Ev.R.kv k := by
  obtain ⟨ys, n', _, _, hlen, hyl, hg⟩ := DataW.trod_struct Try.underlying23 h
  have k23 : Try.prog.cellsOf 23 = 3 := by kernel_rfl
  have k3 : Try.prog.cellsOf 3 = 1 := by kernel_rfl
  rw [k23] at hlen
  match cs, hlen, ys, hyl with
  | [c0, c1, c2], _, [y0, y1, y2], _ =>
    have g0 : DataW.trod enc Try.prog w base spare held n' 3 [c0] = some y0 := by
      have := hg 0 _ rfl
      simpa [k3, Value.cells] using this
    have g1 : DataW.trod enc Try.prog w base spare held n' 3 [c1] = some y1 := by
      have := hg 1 _ rfl
      simpa [k3, Value.cells] using this
    have g2 : DataW.trod enc Try.prog w base spare held n' 3 [c2] = some y2 := by
      have := hg 2 _ rfl
      simpa [k3, Value.cells] using this
    obtain ⟨a, ha, -, -⟩ := DataW.trod_int Try.underlying3 g0
    obtain ⟨b, hb, -, -⟩ := DataW.trod_int Try.underlying3 g1
    obtain ⟨c, hc, -, -⟩ := DataW.trod_int Try.underlying3 g2
    obtain rfl := (List.cons.inj ha).1
    obtain rfl := (List.cons.inj hb).1
    obtain rfl := (List.cons.inj hc).1
    exact ⟨⟨a, b, c⟩, rfl⟩
theorem kv_same (σ : Ev.Emb) (k : Ev.R.K3) : Ev.VRs σ (Ev.R.kv k) (Ev.R.kv k) := .cons (.int _ _) (.cons (.int _ _) (.cons (.int _ _) .nil))
set_option maxRecDepth 100000 in
/-- A list of keys that comes in. -/
theorem open_keys {n : Nat} {v : Value} {x : DataW H × List MemPlace} (h : DataW.trod enc Try.prog w base (fun _ => true) held n 24 [v] = some x) :
    Ev.CanLay w [v] (fun h c => ∃ (p : Option Addr) (len cap : Nat) (l : List Ev.R.K3), c = [.slice p len cap] ∧ Ev.Row Ev.R.EK h p len l ∧ (p = none → len = 0 ∧ cap = 0)) := by
  have k23 : Try.prog.cellsOf 23 = 3 := by kernel_rfl
  have fin : ∀ {len cap : Nat}, len ≤ cap → Ev.CanLay w [v] (Ev.RowQ len cap (fun _ _ c => ∃ k : Ev.R.K3, c = Ev.R.kv k) 3) → Ev.CanLay w [v] (fun h c => ∃ (p : Option Addr) (len cap : Nat) (l : List Ev.R.K3), c = [.slice p len cap] ∧ Ev.Row Ev.R.EK h p len l ∧ (p = none → len = 0 ∧ cap = 0)) := by
    intro len cap hl hc
    refine hc.mono fun h c hq => ?_
    obtain ⟨p, l, e, r, hp, -⟩ := Ev.RowQ.row (E := Ev.R.EK) (R := fun _ => True) hq hl (fun i c ⟨k, hk⟩ => ⟨k, hk, trivial⟩)
    exact ⟨p, len, cap, l, e, r, hp⟩
  rcases open_slice Try.underlying24 h with ⟨e, -⟩ | ⟨a, len, cap, m, n, D, Pl, e, -, hl, -, hm, -, hx⟩
  · obtain rfl := (List.cons.inj e).1
    exact fin (Nat.le_refl 0) .nil
  · obtain rfl := (List.cons.inj e).1
    have hm : m = cap := by simpa using hm
    subst hm
    rw [k23] at hx
    obtain ⟨f, hf⟩ := choose_lt (α := List Value) (p := fun i c => w.cells? base (a.add (i * 3)) 3 = some c ∧ ∃ k : Ev.R.K3, c = Ev.R.kv k) (fun i hi => by
      obtain ⟨cs', h1, h2⟩ := hx i hi
      exact ⟨cs', h1, key_cells h2⟩)
    refine fin hl (Ev.CanLay.slice (by decide) (f := f) (Q := fun _ _ c => ∃ k : Ev.R.K3, c = Ev.R.kv k) (fun _ _ _ _ _ h => h) hl (fun i hi => ?_) (fun i j hi hj => ?_) (fun i hi => ?_))
    · exact (World.cells?_some (hf i hi).1).2.1
    · rw [← Go.Deep.add_add]; exact (World.cells?_some (hf i hi).1).2.2 j hj
    · obtain ⟨k, hk⟩ := (hf i hi).2
      rw [hk]
      exact (Ev.CanLay.same fun σ => kv_same σ k).mono fun h c e => ⟨k, e⟩
end
set_option maxRecDepth 100000 in
theorem walk (v : Value) (W : World) (hv : Ev.CanLay W [v] (fun h c => ∃ (p : Option Addr) (len cap : Nat) (l : List Ev.R.K3), c = [.slice p len cap] ∧ Ev.Row Ev.R.EK h p len l ∧ (p = none → len = 0 ∧ cap = 0))) :
    Calls Try.prog 6 #[v] W (fun e W' => e = .returned (.bool true) ∧ Below W.heap.size W W') := by
  letI : Ev.Known Try.prog := Ev.Known.no Try.prog
  obtain ⟨σ, h, s, c, lay, -, -, -, hvr, p, len, cap, l, rfl, r, hp⟩ := hv _ _ _ (Ev.LaySt.start W)
  refine Ev.calls_wp (P := Try.prog) (N := 100000) (by kernel_rfl) (Ev.R.tab_ok 100000) (fun f h => by cases h) (by kernel_rfl) (by kernel_rfl) (d := 9) (by decide) lay (args := [.slice p len cap]) hvr (pw := fun _ => True) ?_
  exact (Ev.R.s6 (N := 100000) (d := 0) (Nat.le_refl _) lay.fresh r).use (fun _ _ => trivial) fun h1 s1 _ _ => rfl
set_option maxRecDepth 100000 in
theorem lifted (os : Os) (started : os.Started) (H : Type) (enc : TypeId × Value → H) :
    ReturnsInHanded {} Try.checked os 6 .any (Rows.entryPlaceSpec.pre6 enc Try.prog Try.f6 Rows.entryPlaceRow.domain false) (Rows.entryPlaceSpec.post enc Try.prog Try.f6 false true false false) := by
  refine returnsInHanded_of_change_sized (C := Try.checked) own started (by kernel_rfl) Try.func6
    (ChangeSpec.witness6 (enc := enc) (C := Try.checked) false ⟨#[], #[.slice none 0 0], []⟩ 8 (by kernel_rfl) (by kernel_rfl) (by kernel_rfl) (by kernel_rfl)) ?_
  intro W base args ds gs before hval0 hW hcnd hsz0 _
  have hval : ∀ (j : Nat) t v, Try.f6.params[j]? = some t → args[j]? = some v → Value.okWide Try.prog W .any base t v := hval0
  have hW' := hW
  obtain ⟨p, q, hA0, hV, rfl, hfz, hnd⟩ := hW
  have hA : DataW.TrodAll enc Try.prog W 0 (fun _ => true) true Try.f6.params.toList args.toList ds p := hA0
  rw [Try.params6] at hA hval
  obtain ⟨v0, vs0, d0, ds0, p0, q0, hargs, rfl, rfl, h0, r0⟩ := trodAll_cons hA
  obtain ⟨rfl, rfl, rfl⟩ := trodAll_nil r0
  obtain rfl : args = #[v0] := by cases args; simp_all
  obtain ⟨rfl, rfl⟩ := trodVars_none hV
  have k0 := h0
  have lt0 : ∀ x ∈ p0, x.block < W.heap.size := by obtain ⟨m, hm⟩ := k0; exact DataW.trod_lt m _ _ _ hm
  obtain ⟨m2, hm2⟩ := h0
  obtain ⟨a2, len2, cap2, rfl⟩ := okWide_slice Try.underlying24 (hval 0 24 v0 rfl rfl)
  clear hA0 hval0 hsz0
  refine (walk (.slice a2 len2 cap2) W (open_keys (n := m2) hm2)).mono fun e W' ⟨he, bel⟩ => ?_
  subst he
  exact ⟨_, rfl, _, _, _, [], _, [], hW', trodAll_mk1 (shut_bool Try.underlying4 _), (trodAll_cons_mk (Below.trod laidOut (by kernel_rfl) (of_decide_eq_true (by kernel_rfl)) k0 bel lt0) trodAll_mk0), rfl, bel.frame _, fun h => by cases h⟩
theorem over : Rows.entryPlaceRow.holds Try.pinned (OpenSpec.ofChange Rows.entryPlaceSpec) :=
  OpenClaim.holds_of_wide 6 Try.f6 rfl rfl rfl rfl rfl rfl rfl ⟨rfl, rfl, rfl, rfl, rfl⟩ rfl rfl rfl rfl rfl (by kernel_rfl) Try.func6 (by kernel_rfl)
    (of_decide_eq_true (by kernel_rfl)) (by unfold Func.isWrapper; first | (rw [if_pos (by decide +kernel)]; kernel_rfl) | (rw [if_neg (by decide +kernel)]; exact ⟨rfl, rfl⟩))
    (fun os started H enc _ => lifted os started H enc)
theorem proved : Rows.EntryPlaceSaid := over
#print axioms proved
end Go.Proofs.Ytgadiajhhjfmbaa.entryPlace
namespace Go.Proofs.Ytgadiajhhjfmbaa
/-- The row, under a short name, for the claim. -/
theorem entryPlace_holds : Rows.EntryPlaceSaid := entryPlace.proved
end Go.Proofs.Ytgadiajhhjfmbaa

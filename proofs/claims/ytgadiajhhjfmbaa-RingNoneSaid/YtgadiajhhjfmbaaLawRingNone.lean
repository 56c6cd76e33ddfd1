/- The Go function RingNone returns true for any turn. No condition. -/
import Derived.Test.YtgadiajhhjfmbaaRows
import Derived.Test.YtgadiajhhjfmbaaRingNo
import Derived.Test.YtgadiajhhjfmbaaClosed
import Derived.WalkKit
import Derived.ProofKit
import Derived.OpenShut
import Derived.ShutString
import Derived.ChangeOld
import Derived.Below
import Derived.SizedLaws
import Derived.Lib.SmallJoins
import Derived.Deep.Slices
import Derived.Deep.Fields
namespace Go.Proofs.Ytgadiajhhjfmbaa.ringNone
open Go.ChangeShapes Go.WideShapes Go.ChangeAt Go.RowKit Go.Joins Go.Deep
set_option linter.unusedVariables false
set_option linter.unusedSimpArgs false
theorem own : ownKnob Try.prog.godebug = none := by kernel_rfl
theorem laidOut : laidOutB Try.prog = true := by kernel_rfl
section
variable {H : Type} {enc : TypeId × Value → H} {w : World} {base : Nat} {spare : Nat → Bool} {held : Bool}
set_option maxRecDepth 100000 in
/-- A turn that comes in. -/
theorem open_turn {r : Reach} {b0 : Nat} {v : Value} {d : DataW H} {p : List MemPlace} (hv : Value.okWide Try.prog w r b0 64 v) (h : DataW.Trod enc Try.prog w base spare held 64 v d p) :
    ∃ (c0 c1 c2 c3 : Value) (A : Option Addr) (n c : Nat) (c5 : Value) (q : Int), v = .agg #[c0, c1, c2, c3, .slice A n c, c5, .int .i64 q] := by
  obtain ⟨cs, rfl, hsz⟩ := okWide_struct Try.underlying64 hv
  have h7 : cs.size = 7 := hsz.trans (by kernel_rfl)
  obtain ⟨l⟩ := cs
  match l, h7 with
  | [c0, c1, c2, c3, c4, c5, c6], _ =>
    obtain ⟨fuel, hf⟩ := h
    obtain ⟨ys, n', hn', hy, hlen, hyl, hg⟩ := DataW.trod_struct Try.underlying64 hf
    have k3 : Try.prog.cellsOf 3 = 1 := by kernel_rfl
    have k43 : Try.prog.cellsOf 43 = 5 := by kernel_rfl
    have k41 : Try.prog.cellsOf 41 = 1 := by kernel_rfl
    match ys, hyl with
    | [y0, y1, y2], _ =>
      have g2 : DataW.trod enc Try.prog w base spare held n' 3 [c6] = some y2 := by
        have := hg 2 _ rfl
        simpa [k3, Value.cells] using this
      have g0 : DataW.trod enc Try.prog w base spare held n' 43 [c0, c1, c2, c3, c4] = some y0 := by
        have := hg 0 _ rfl
        simpa [k43, Value.cells] using this
      obtain ⟨q, hq, -, -⟩ := DataW.trod_int Try.underlying3 g2
      obtain rfl := (List.cons.inj hq).1
      obtain ⟨zs, n2, _, _, _, hzl, hz⟩ := DataW.trod_struct Try.underlying43 g0
      match zs, hzl with
      | [z0, z1, z2, z3, z4], _ =>
        have g4 : DataW.trod enc Try.prog w base spare held n2 41 [c4] = some z4 := by
          have := hz 4 _ rfl
          simpa [k41, Value.cells] using this
        rcases open_slice Try.underlying41 g4 with ⟨h4, _⟩ | ⟨a, len, cap, _, _, _, _, h4, _⟩
        · obtain rfl := (List.cons.inj h4).1
          exact ⟨_, _, _, _, _, _, _, _, _, rfl⟩
        · obtain rfl := (List.cons.inj h4).1
          exact ⟨_, _, _, _, _, _, _, _, _, rfl⟩
end
set_option maxRecDepth 100000 in
theorem lifted (os : Os) (started : os.Started) (H : Type) (enc : TypeId × Value → H) :
    ReturnsInHanded {} Try.checked os 10 .any (Rows.ringNoneSpec.pre6 enc Try.prog Try.f10 Rows.ringNoneRow.domain false) (Rows.ringNoneSpec.post enc Try.prog Try.f10 false true false false) := by
  refine returnsInHanded_of_change_sized (C := Try.checked) own started (by kernel_rfl) Try.func10
    (ChangeSpec.witness6 (enc := enc) (C := Try.checked) false ⟨#[], #[.agg #[.int .i64 0, .int .i64 0, .int .i64 0, .bool false, .slice none 0 0, .bool false, .int .i64 0]], []⟩ 8 (by kernel_rfl) (by kernel_rfl) (by kernel_rfl) (by kernel_rfl)) ?_
  intro W base args ds gs before hval0 hW hcnd hsz0 _
  have hval : ∀ (j : Nat) t v, Try.f10.params[j]? = some t → args[j]? = some v → Value.okWide Try.prog W .any base t v := hval0
  have hW' := hW
  obtain ⟨p, q, hA0, hV, rfl, hfz, hnd⟩ := hW
  have hA : DataW.TrodAll enc Try.prog W 0 (fun _ => true) true Try.f10.params.toList args.toList ds p := hA0
  rw [Try.params10] at hA hval
  obtain ⟨v0, vs0, d0, ds0, p0, q0, hargs, rfl, rfl, h0, r0⟩ := trodAll_cons hA
  obtain ⟨rfl, rfl, rfl⟩ := trodAll_nil r0
  obtain rfl : args = #[v0] := by cases args; simp_all
  obtain ⟨rfl, rfl⟩ := trodVars_none hV
  have k0 := h0
  have lt0 : ∀ x ∈ p0, x.block < W.heap.size := by obtain ⟨m, hm⟩ := k0; exact DataW.trod_lt m _ _ _ hm
  obtain ⟨c0, c1, c2, c3, A, n, c, c5, i, rfl⟩ := open_turn (hval 0 64 v0 rfl rfl) h0
  clear hA0 hval0 hsz0
  refine (RingNo.law c0 c1 c2 c3 A n c c5 i W Closed.c26).mono fun e W' ⟨he, bel⟩ => ?_
  subst he
  exact ⟨_, rfl, _, _, _, [], _, [], hW', trodAll_mk1 (shut_bool Try.underlying4 _), (trodAll_cons_mk (Below.trod laidOut (by kernel_rfl) (of_decide_eq_true (by kernel_rfl)) k0 bel lt0) trodAll_mk0), rfl, bel.frame _, fun h => by cases h⟩
theorem over : Rows.ringNoneRow.holds Try.pinned (OpenSpec.ofChange Rows.ringNoneSpec) :=
  OpenClaim.holds_of_wide 10 Try.f10 rfl rfl rfl rfl rfl rfl rfl ⟨rfl, rfl, rfl, rfl, rfl⟩ rfl rfl rfl rfl rfl (by kernel_rfl) Try.func10 (by kernel_rfl)
    (of_decide_eq_true (by kernel_rfl)) (by unfold Func.isWrapper; first | (rw [if_pos (by decide +kernel)]; kernel_rfl) | (rw [if_neg (by decide +kernel)]; exact ⟨rfl, rfl⟩))
    (fun os started H enc _ => lifted os started H enc)
theorem proved : Rows.RingNoneSaid := over
#print axioms proved
end Go.Proofs.Ytgadiajhhjfmbaa.ringNone
namespace Go.Proofs.Ytgadiajhhjfmbaa
/-- The row, under a short name, for the claim. -/
theorem ringNone_holds : Rows.RingNoneSaid := ringNone.proved
end Go.Proofs.Ytgadiajhhjfmbaa

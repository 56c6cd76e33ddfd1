/- Calls, boxes and rows, told from a heap on. No condition. -/
import Derived.Test.YtpfnoffadfahmaaGreatXM
namespace Go.Ev
open Go Go.RowKit
set_option linter.unusedVariables false
set_option linter.unusedSimpArgs false

/-- From a heap on: it has grown. -/
structure From (s0 : Nat) (h0 h : T) (s : Nat) : Prop where
  le : s0 ≤ s
  keep : ∀ n, n < s0 → h.get n = h0.get n
  fresh : ∀ n, s ≤ n → h.get n = none
theorem From.refl {s : Nat} {h : T} (hf : ∀ n, s ≤ n → h.get n = none) : From s h h s := ⟨Nat.le_refl _, fun _ _ => rfl, hf⟩
theorem From.grow {s0 : Nat} {h0 h : T} {s : Nat} (g : From s0 h0 h s) : Grow s0 h0 h s := ⟨g.keep, g.fresh⟩
theorem From.trans {s0 s1 s2 : Nat} {h0 h1 h2 : T} (a : From s0 h0 h1 s1) (b : From s1 h1 h2 s2) : From s0 h0 h2 s2 := ⟨Nat.le_trans a.le b.le, fun n hn => (b.keep n (Nat.lt_of_lt_of_le hn a.le)).trans (a.keep n hn), b.fresh⟩
theorem Grow.from {s0 : Nat} {h0 h : T} {s : Nat} (g : Grow s0 h0 h s) (hs : s0 ≤ s) : From s0 h0 h s := ⟨hs, g.keep, g.fresh⟩
section
variable {C : CallT} {f : Nat} {args : List Value} {s0 s : Nat} {h0 h : T} {pw : Nat → Prop} {Z : Value → T → Prop}
theorem PureS.go {Q : Value → T → Nat → Prop} {K : Value → Nat → AM} (g : From s0 h0 h s) (hp : ∀ n, s0 ≤ n → pw n) (hc : PureS C f args h s Q)
    (hk : ∀ v h' s', From s0 h0 h' s' → From s h h' s' → Q v h' s' → (K v s').wp pw Z h') : (C f args K s).wp pw Z h :=
  hc.use (fun n hn => hp n (Nat.le_trans g.le hn)) fun v h' s' hs gg hq => hk v h' s' (g.trans (gg.from hs)) (gg.from hs) hq
theorem ValS.go {v : Value} {K : Value → Nat → AM} (g : From s0 h0 h s) (hp : ∀ n, s0 ≤ n → pw n) (hc : ValS C f args h s v)
    (hk : ∀ h' s', From s0 h0 h' s' → From s h h' s' → (K v s').wp pw Z h') : (C f args K s).wp pw Z h :=
  PureS.go g hp hc fun u h' s' a b hu => by subst hu; exact hk h' s' a b
theorem PureS.goL {Q : Value → T → Nat → Prop} {j : LogT} (g : From s0 h0 h s) (hp : ∀ n, s0 ≤ n → pw n) (hc : PureS C f args h s Q)
    (hk : ∀ v h' s' ts ws, From s0 h0 h' s' → From s h h' s' → Q v h' s' → (∀ n ∈ ws, s ≤ n ∧ n < s') → (∀ n ∈ ts, n < s') → (j v ts ws s').wp pw Z h') : (AM.log (C f args (fun v s => .ret (pk v s)) s) (logU j)).wp pw Z h :=
  hc.logB (fun n hn => hp n (Nat.le_trans g.le hn)) fun v h' s' ts ws hs gg hq hw ht => hk v h' s' ts ws (g.trans (gg.from hs)) (gg.from hs) hq hw ht
theorem ValS.goL {v : Value} {j : LogT} (g : From s0 h0 h s) (hp : ∀ n, s0 ≤ n → pw n) (hc : ValS C f args h s v)
    (hk : ∀ h' s' ts ws, From s0 h0 h' s' → From s h h' s' → (∀ n ∈ ws, s ≤ n ∧ n < s') → (∀ n ∈ ts, n < s') → (j v ts ws s').wp pw Z h') : (AM.log (C f args (fun v s => .ret (pk v s)) s) (logU j)).wp pw Z h :=
  PureS.goL g hp hc fun u h' s' ts ws a b hu hw ht => by subst hu; exact hk h' s' ts ws a b hw ht
/-- What is new. -/
theorem wp_newF {o : Obj} {k : Nat → Nat → AM} (g : From s0 h0 h s) (hp : ∀ n, s0 ≤ n → pw n)
    (hk : ∀ h', From s0 h0 h' (s + 1) → From s h h' (s + 1) → h'.get s = some o → (k s (s + 1)).wp pw Z h') : (anew o k s).wp pw Z h := by
  rw [wp_anew, g.fresh s (Nat.le_refl _)]
  have b : From s h (h.set s o) (s + 1) := ⟨by omega, fun n hn => get_ne (by omega), fun n hn => by rw [get_ne (by omega)]; exact g.fresh n (by omega)⟩
  exact ⟨hp s g.le, hk _ (g.trans b) b get_eq⟩
theorem wp_boxF {t : TypeId} {v : Value} {k : Value → Nat → AM} (g : From s0 h0 h s) (hp : ∀ n, s0 ≤ n → pw n)
    (hk : ∀ h', From s0 h0 h' (s + 1) → From s h h' (s + 1) → h'.get s = some (.cells v.cells t (0, 0)) → (k (.pointer (some ⟨s, 0, none⟩)) (s + 1)).wp pw Z h') : (abox t v k s).wp pw Z h :=
  wp_newF (k := fun b => k (.pointer (some ⟨b, 0, none⟩))) g hp hk
theorem wp_newL {o : Obj} {q : Nat → Value} {j : LogT} (g : From s0 h0 h s) (hp : ∀ n, s0 ≤ n → pw n)
    (hk : ∀ h', From s0 h0 h' (s + 1) → From s h h' (s + 1) → h'.get s = some o → (j (q s) [s] [s] (s + 1)).wp pw Z h') : (AM.log (anew o (fun b s => .ret (pk (q b) s)) s) (logU j)).wp pw Z h := by
  rw [wp_log_anew, g.fresh s (Nat.le_refl _)]
  have b : From s h (h.set s o) (s + 1) := ⟨by omega, fun n hn => get_ne (by omega), fun n hn => by rw [get_ne (by omega)]; exact g.fresh n (by omega)⟩
  exact ⟨hp s g.le, hk _ (g.trans b) b get_eq⟩
/-- Contracts, begun and ended. -/
theorem ValS.of {v : Value} (hf : ∀ n, s ≤ n → h.get n = none) (hk : ∀ (K : Value → Nat → AM) (pw : Nat → Prop) (Z : Value → T → Prop), From s h h s → (∀ n, s ≤ n → pw n) → (∀ h' s', From s h h' s' → (K v s').wp pw Z h') → (C f args K s).wp pw Z h) : ValS C f args h s v :=
  ValS.mk fun K pw Z hp hz => hk K pw Z (.refl hf) hp fun h' s' g => hz h' s' g.le g.grow
theorem PureS.of {Q : Value → T → Nat → Prop} (hf : ∀ n, s ≤ n → h.get n = none) (hk : ∀ (K : Value → Nat → AM) (pw : Nat → Prop) (Z : Value → T → Prop), From s h h s → (∀ n, s ≤ n → pw n) → (∀ v h' s', From s h h' s' → Q v h' s' → (K v s').wp pw Z h') → (C f args K s).wp pw Z h) : PureS C f args h s Q :=
  PureS.mk fun K pw Z hp hz => hk K pw Z (.refl hf) hp fun v h' s' g hq => hz v h' s' g.le g.grow hq
theorem From.row {α : Type} {E : Enc α} {p : Option Addr} {len : Nat} {l : List α} (g : From s0 h0 h s) (hf : ∀ n, s0 ≤ n → h0.get n = none) (r : Row E h0 p len l) : Row E h p len l := r.grow hf g.grow
theorem From.box {n : Nat} {o : Obj} (g : From s0 h0 h s) (hb : h0.get n = some o) (hn : n < s0) : h.get n = some o := (g.keep n hn).trans hb
end
/-! ### boxes -/
section
variable {pw : Nat → Prop} {Z : Value → T → Prop} {h : T} {n : Nat} {cs : List Value} {t : TypeId} {f : Nat × Nat}
theorem ldB (hb : h.get n = some (.cells ⟨cs⟩ t f)) (off : Nat) (k : Value → Nat → AM) (s : Nat) : (aload n off k s).wp pw Z h = match nth cs off with | some v => (k v s).wp pw Z h | none => False := by
  rw [wp_load, hb]; rfl
theorem clB (hb : h.get n = some (.cells ⟨cs⟩ t f)) (off len : Nat) (k : List Value → Nat → AM) (s : Nat) : (acells n off len k s).wp pw Z h = (((cs.drop off).take len).length = len ∧ (k ((cs.drop off).take len) s).wp pw Z h) := by
  rw [wp_cells, hb]
theorem ldBL (hb : h.get n = some (.cells ⟨cs⟩ t f)) (off : Nat) (j : LogT) (s : Nat) : (AM.log (aload n off (fun v s => .ret (pk v s)) s) (logU j)).wp pw Z h = match nth cs off with | some v => (j v [n] [] s).wp pw Z h | none => False := by
  rw [wp_log_load, hb]; rfl
theorem clBL (hb : h.get n = some (.cells ⟨cs⟩ t f)) (off len : Nat) (q : List Value → Value) (j : LogT) (s : Nat) : (AM.log (acells n off len (fun l s => .ret (pk (q l) s)) s) (logU j)).wp pw Z h = (((cs.drop off).take len).length = len ∧ (j (q ((cs.drop off).take len)) [n] [] s).wp pw Z h) := by
  rw [wp_log_cells, hb]
end
section
variable {s0 s : Nat} {h0 h : T} {pw : Nat → Prop} {Z : Value → T → Prop}
theorem wp_boxA {t : TypeId} {cs : List Value} {k : Value → Nat → AM} (g : From s0 h0 h s) (hp : ∀ n, s0 ≤ n → pw n)
    (hk : ∀ h', From s0 h0 h' (s + 1) → From s h h' (s + 1) → h'.get s = some (.cells ⟨cs⟩ t (0, 0)) → (k (.pointer (some ⟨s, 0, none⟩)) (s + 1)).wp pw Z h') : (abox t (.agg ⟨cs⟩) k s).wp pw Z h := wp_boxF g hp hk
theorem wp_box1 {t : TypeId} {v : Value} (hv : v.cells = ⟨[v]⟩) {k : Value → Nat → AM} (g : From s0 h0 h s) (hp : ∀ n, s0 ≤ n → pw n)
    (hk : ∀ h', From s0 h0 h' (s + 1) → From s h h' (s + 1) → h'.get s = some (.cells ⟨[v]⟩ t (0, 0)) → (k (.pointer (some ⟨s, 0, none⟩)) (s + 1)).wp pw Z h') : (abox t v k s).wp pw Z h := wp_boxF g hp fun h' a b c => hk h' a b (by rw [c, hv])
/-- A store into a box. -/
theorem wp_putB {n off : Nat} {vs cs : List Value} {t : TypeId} {f g : Nat} {k : Unit → Nat → AM} (hb : h.get n = some (.cells ⟨cs⟩ t (f, 0))) (hn : n < s) (hpn : pw n) (hfr : ∀ n, s ≤ n → h.get n = none) (hl : off + vs.length ≤ cs.length) (hv : vs.all Value.oneCell' = true)
    (hk : ∀ h', h'.get n = some (.cells ⟨overL cs off vs⟩ t (f, 0)) → (∀ i, i ≠ n → h'.get i = h.get i) → (∀ i, s ≤ i → h'.get i = none) → (k () s).wp pw Z h') : (aput n off vs k s).wp pw Z h := by
  rw [wp_aput, hb]
  refine ⟨?_, hpn, hk _ get_eq (fun i hi => get_ne (Ne.symm hi)) fun i hi => by rw [get_ne (by omega)]; exact hfr i hi⟩
  rw [hv]
  simp only [Bool.and_eq_true, Nat.ble_eq]
  exact ⟨hl, trivial, by simp [ro, roF]; exact .inr rfl⟩
end
theorem funX_eq (f : FuncId) (xs ys : List Value) (k : Value → Nat → AM) (s : Nat) : funX (.func f) xs ys k s = k (.func (.func f) ⟨xs⟩ ⟨ys⟩) s := rfl
theorem wrapS {i : Nat} (h : i < 1000000000000) : IntKind.i64.wrap ((i : Int) + 1) = ((i + 1 : Nat) : Int) := wrap_id (by omega) (by omega)
end Go.Ev

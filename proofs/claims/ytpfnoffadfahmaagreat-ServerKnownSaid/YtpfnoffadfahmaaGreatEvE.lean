/- Single operations, over a heap of names, beside the model's: places, slices. No condition. -/
import Derived.Test.YtpfnoffadfahmaaGreatEvD
namespace Go.Ev
set_option linter.unusedVariables false
set_option linter.unusedSimpArgs false
open Go Go.RowKit

section
variable {P : Program} {w0 : World} {σ : Emb} {h : T} {w : World}

abbrev M.ret {α : Type} (a : α) : M α := fun k s => k a s
noncomputable def M.opt {α : Type} : Option α → M α
  | some a => fun k s => k a s
  | none => fun _ _ => .fail

theorem Sim.opt {α β : Type} {S : Sem β} {R : Emb → α → β → Prop} {o : Option α} (st : St σ w0 h w) (hS : ∀ a, o = some a → ∃ b, S.run P w = .ok b w ∧ R σ a b) : Sim P w0 σ h w (M.opt o) S R := by
  cases o with
  | none => exact Sim.fail
  | some a =>
    obtain ⟨b, r, q⟩ := hS a rfl
    exact Sim.congr (Sim.pure st q) r

/-! ### fields and elements -/
noncomputable def afieldAt (P : Program) (t : TypeId) (x : Value) (f : Nat) : Option Value :=
  match P.underlying t, aaddr x with
  | some (.struct fs), some (n, o) => match fs[f]? with
    | some g => match P.info? g.type with
      | some i => bif Nat.beq i.size 0 then none else some (.pointer (some ⟨n, o + g.offset, none⟩))
      | none => none
    | none => none
  | _, _ => none
theorem Sim.fieldAt (st : St σ w0 h w) {t : TypeId} {x x' : Value} (hx : VR σ x x') {f : Nat} : Sim P w0 σ h w (M.opt (afieldAt P t x f)) (Instr.fieldAt t x' f) VR := by
  refine Sim.opt st fun a ha => ?_
  unfold afieldAt at ha
  split at ha
  · rename_i fs n o hd hn
    obtain ⟨e, he, rfl⟩ := hx.addr hn
    split at ha
    · rename_i g hg
      split at ha
      · rename_i i hi
        cases hz : Nat.beq i.size 0 with
        | true => rw [hz] at ha; cases ha
        | false =>
          rw [hz] at ha
          obtain rfl := Option.some.inj ha
          have hne : i.size ≠ 0 := fun h0 => by rw [h0] at hz; cases hz
          refine ⟨.pointer (some ⟨e.blk, e.shift + (o + g.offset), none⟩), ?_, .ptr _ _ _ he⟩
          simp [Instr.fieldAt, run_und hd, hg, Instr.sureAddr, fieldPlace, sizeOf, run_inf hi, hne, addr_add, Nat.add_assoc]
      · cases ha
    · cases ha
  · cases ha

theorem VR.slice_inv {x' : Value} {n o len cap : Nat} {q : Option Nat} (k : VR σ (.slice (some ⟨n, o, q⟩) len cap) x') :
    (∃ e cap', σ n = some e ∧ capOk e o cap cap' ∧ (q = none ∨ cap' = cap) ∧ x' = .slice (some ⟨e.blk, e.shift + o, none⟩) len cap') ∨ (len = 0 ∧ cap = 0 ∧ ∃ a', x' = .slice (some a') 0 0) := by
  cases k with
  | slice _ _ _ _ e cap' he hc hq => exact .inl ⟨e, cap', he, hc, hq, rfl⟩
  | slice0 _ a' => exact .inr ⟨rfl, rfl, a', rfl⟩

noncomputable def aindexAt (P : Program) (t : TypeId) (x i : Value) : Option Value :=
  match P.underlying t, x, i with
  | some (.slice el), .slice (some ⟨n, o, _⟩) len _, .int _ j => match P.info? el with
    | some z => bif decide (0 ≤ j) && decide (j < len) then some (.pointer (some ⟨n, o + j.toNat * z.size, none⟩)) else none
    | none => none
  | some (.array len el), .pointer (some ⟨n, o, none⟩), .int _ j => match P.info? el with
    | some z => bif decide (0 ≤ j) && decide (j < len) then some (.pointer (some ⟨n, o + j.toNat * z.size, none⟩)) else none
    | none => none
  | _, _, _ => none
theorem Sim.indexAt (st : St σ w0 h w) {t : TypeId} {x x' i i' : Value} (hx : VR σ x x') (hi : VR σ i i') : Sim P w0 σ h w (M.opt (aindexAt P t x i)) (Instr.indexAt t x' i') VR := by
  refine Sim.opt st fun a ha => ?_
  unfold aindexAt at ha
  split at ha
  · rename_i el n o qq len cap k j hd
    split at ha
    · rename_i z hz
      cases hb : (decide (0 ≤ j) && decide (j < len)) with
      | false => rw [hb] at ha; cases ha
      | true =>
        rw [hb] at ha
        obtain rfl := Option.some.inj ha
        simp only [Bool.and_eq_true, decide_eq_true_eq] at hb
        cases hi
        rcases hx.slice_inv with ⟨e, cap', he, hc, hqq, rfl⟩ | ⟨h0, _, _⟩
        · refine ⟨.pointer (some ⟨e.blk, e.shift + (o + j.toNat * z.size), none⟩), ?_, .ptr _ _ _ he⟩
          simp [Instr.indexAt, asIntOf, run_und hd, sizeOf, run_inf hz, hb, addr_add, Nat.add_assoc]
        · omega
    · cases ha
  · rename_i len el n o k j hd
    split at ha
    · rename_i z hz
      cases hb : (decide (0 ≤ j) && decide (j < len)) with
      | false => rw [hb] at ha; cases ha
      | true =>
        rw [hb] at ha
        obtain rfl := Option.some.inj ha
        simp only [Bool.and_eq_true, decide_eq_true_eq] at hb
        cases hi
        obtain ⟨e, he, rfl⟩ := hx.addr (n := n) (o := o) rfl
        refine ⟨.pointer (some ⟨e.blk, e.shift + (o + j.toNat * z.size), none⟩), ?_, .ptr _ _ _ he⟩
        simp [Instr.indexAt, asIntOf, run_und hd, Instr.sureAddr, sizeOf, run_inf hz, hb, addr_add, Nat.add_assoc]
    · cases ha
  · cases ha

/-- An element of an array that is a value. -/
noncomputable def aindex (P : Program) (t : TypeId) (x i : Value) : Option Value :=
  match P.underlying t, x, i with
  | some (.array len el), .agg cs, .int _ j => match P.info? el with
    | some z => bif decide (0 ≤ j) && decide (j < len) then apart P el cs.toList (j.toNat * z.size) else none
    | none => none
  | _, _, _ => none
theorem Sim.index (st : St σ w0 h w) {t : TypeId} {x x' i i' : Value} (hx : VR σ x x') (hi : VR σ i i') : Sim P w0 σ h w (M.opt (aindex P t x i)) (Instr.index t x' i') VR := by
  refine Sim.opt st fun a ha => ?_
  unfold aindex at ha
  split at ha
  · rename_i len el cs k j hd
    split at ha
    · rename_i z hz
      cases hb : (decide (0 ≤ j) && decide (j < len)) with
      | false => rw [hb] at ha; cases ha
      | true =>
        rw [hb] at ha
        simp only [Bool.and_eq_true, decide_eq_true_eq] at hb
        cases hi
        obtain ⟨cs', rfl, q⟩ := hx.agg_inv
        obtain ⟨v', r, q'⟩ := apart_spec (P := P) (w := w) q ha
        exact ⟨v', by simp [Instr.index, asIntOf, run_und hd, sizeOf, run_inf hz, hb, r], q'⟩
    · cases ha
  · cases ha

/-! ### cutting slices -/
noncomputable def abound (x : Option Value) (dflt top : Nat) : Option Nat :=
  match x with
  | none => some dflt
  | some (.int _ j) => bif decide (0 ≤ j) && decide (j ≤ top) then some j.toNat else none
  | _ => none
noncomputable def OVR (σ : Emb) : Option Value → Option Value → Prop
  | none, none => True
  | some v, some v' => VR σ v v'
  | _, _ => False

theorem abound_spec {x x' : Option Value} {d top r : Nat} (hx : OVR σ x x') (hr : abound x d top = some r) :
    (x = none ∧ x' = none ∧ r = d) ∨ ∃ v', x' = some v' ∧ r ≤ top ∧ ∀ (top' : Nat) (c : BoundsCode), top ≤ top' → (Instr.sliceBound v' top' c).run P w = .ok r w := by
  unfold abound at hr
  split at hr
  · cases x' with
    | none => exact .inl ⟨rfl, rfl, (Option.some.inj hr).symm⟩
    | some v => exact hx.elim
  · rename_i k j
    cases hb : (decide (0 ≤ j) && decide (j ≤ top)) with
    | false => rw [hb] at hr; cases hr
    | true =>
      rw [hb] at hr
      obtain rfl := Option.some.inj hr
      simp only [Bool.and_eq_true, decide_eq_true_eq] at hb
      cases x' with
      | none => exact hx.elim
      | some v =>
        cases hx
        refine .inr ⟨_, rfl, by omega, fun top' c ht => ?_⟩
        simp [Instr.sliceBound, asIntOf, hb.1, show j ≤ top' by omega]
  · cases hr

/-- The bounds of a cut. -/
noncomputable def abounds (len cap : Nat) (lo hi mx : Option Value) : Option (Nat × Nat × Nat) :=
  match abound mx cap cap with
  | some m => match hi, mx with
    | none, some _ => none
    | _, _ => match abound hi len m with
      | some h => match abound lo 0 h with
        | some l => bif Nat.ble l h && Nat.ble h m then some (l, h, m) else none
        | none => none
      | none => none
  | none => none

theorem abounds_spec {len cap cap' l h' m : Nat} {lo lo' hi hi' mx mx' : Option Value} (b : Bool) (hlo : OVR σ lo lo') (hhi : OVR σ hi hi') (hmx : OVR σ mx mx') (hc : cap ≤ cap')
    (hr : abounds len cap lo hi mx = some (l, h', m)) :
    l ≤ h' ∧ h' ≤ m ∧ m ≤ cap ∧ ∃ m', (Instr.sliceBounds b len cap' lo' hi' mx').run P w = .ok (l, h', m') w ∧ ((mx = none ∧ m = cap ∧ m' = cap') ∨ m' = m) := by
  unfold abounds at hr
  split at hr
  · rename_i m0 hm
    have hmx2 := abound_spec (P := P) (w := w) hmx hm
    split at hr
    · cases hr
    · rename_i hno
      split at hr
      · rename_i h0 hh
        have hhi2 := abound_spec (P := P) (w := w) hhi hh
        split at hr
        · rename_i l0 hl
          have hlo2 := abound_spec (P := P) (w := w) hlo hl
          cases hb : (Nat.ble l0 h0 && Nat.ble h0 m0) with
          | false => rw [hb] at hr; cases hr
          | true =>
            rw [hb] at hr
            simp only [Bool.and_eq_true, Nat.ble_eq] at hb
            obtain ⟨⟩ := Option.some.inj hr
            obtain ⟨hb1, hb2⟩ := hb
            rcases hmx2 with ⟨e1, e2, e3⟩ | ⟨mv, e1, e2, e3⟩
            · subst e1; subst e2; subst e3
              refine ⟨hb1, hb2, Nat.le_refl _, cap', ?_, .inl ⟨rfl, rfl, rfl⟩⟩
              rcases hhi2 with ⟨f1, f2, f3⟩ | ⟨hv, f1, f2, f3⟩
              · subst f1; subst f2; subst f3
                rcases hlo2 with ⟨g1, g2, g3⟩ | ⟨lv, g1, g2, g3⟩
                · subst g1; subst g2; subst g3; simp [Instr.sliceBounds]
                · subst g1; simp [Instr.sliceBounds, g3 _ _ (Nat.le_refl _)]
              · subst f1
                rcases hlo2 with ⟨g1, g2, g3⟩ | ⟨lv, g1, g2, g3⟩
                · subst g1; subst g2; subst g3; simp [Instr.sliceBounds, f3 _ _ hc]
                · subst g1; simp [Instr.sliceBounds, f3 _ _ hc, g3 _ _ (Nat.le_refl _)]
            · subst e1
              refine ⟨hb1, hb2, e2, _, ?_, .inr rfl⟩
              rcases hhi2 with ⟨f1, f2, f3⟩ | ⟨hv, f1, f2, f3⟩
              · subst f1
                cases mx with
                | none => exact hmx.elim
                | some y => exact (hno y rfl rfl).elim
              · subst f1
                rcases hlo2 with ⟨g1, g2, g3⟩ | ⟨lv, g1, g2, g3⟩
                · subst g1; subst g2; subst g3; simp [Instr.sliceBounds, e3 _ _ hc, f3 _ _ (Nat.le_refl _)]
                · subst g1; simp [Instr.sliceBounds, e3 _ _ hc, f3 _ _ (Nat.le_refl _), g3 _ _ (Nat.le_refl _)]
        · cases hr
      · cases hr
  · cases hr

/-- A slice whose end was told has that capacity, and no more. -/
def spotOf (mx : Option Value) (q : Option Nat) : Option Nat := match mx with | some _ => some 0 | none => q

/-- A cut of a slice, or of an array behind an address. -/
noncomputable def aslice (P : Program) (t : TypeId) (x : Value) (lo hi mx : Option Value) : M Value := fun k s =>
  match P.underlying t, x with
  | some (.slice el), .slice base len cap => match P.info? el, abounds len cap lo hi mx with
    | some z, some (l, h, m) => match base with
      | none => bif Nat.beq cap 0 && Nat.beq len 0 then k x s else .fail
      | some ⟨n, o, q⟩ => bif Nat.beq cap 0 then (bif Nat.beq len 0 then k x s else .fail) else .get n fun
        | .cells _ _ (f, _) => bif Nat.beq f 0 || Nat.beq f (z.size + 1) then k (.slice (some ⟨n, o + l * z.size, spotOf mx q⟩) (h - l) (m - l)) s else .fail
        | _ => .fail
    | _, _ => .fail
  | some (.array c el), .pointer (some ⟨n, o, none⟩) => match P.info? el, abounds c c lo hi mx with
    | some z, some (l, h, m) => .get n fun
        | .cells _ _ (0, _) => k (.slice (some ⟨n, o + l * z.size, none⟩) (h - l) (m - l)) s
        | _ => .fail
    | _, _ => .fail
  | _, _ => .fail

theorem add_ite (b o l m z : Nat) : ((if m = l then (⟨b, o, none⟩ : Addr) else (⟨b, o, none⟩ : Addr).add (l * z))) = if m = l then ⟨b, o, none⟩ else ⟨b, o + l * z, none⟩ := by
  rw [addr_add]

theorem Sim.slice (st : St σ w0 h w) {t : TypeId} {x x' : Value} (hx : VR σ x x') {lo lo' hi hi' mx mx' : Option Value} (hlo : OVR σ lo lo') (hhi : OVR σ hi hi') (hmx : OVR σ mx mx') :
    Sim P w0 σ h w (aslice P t x lo hi mx) (Instr.sliceAt t x' lo' hi' mx') VR := by
  unfold aslice
  intro k s r e
  dsimp only at e
  split at e
  · rename_i el base len cap hd
    split at e
    · rename_i z l h' m hz hb
      split at e
      · -- nil
        cases hg : (Nat.beq cap 0 && Nat.beq len 0) with
        | false => rw [hg] at e; cases e
        | true =>
          rw [hg] at e
          simp only [Bool.and_eq_true] at hg
          have hc0 := Nat.eq_of_beq_eq_true hg.1
          have hl0 := Nat.eq_of_beq_eq_true hg.2
          subst hc0; subst hl0
          cases hx
          obtain ⟨h1, h2, h3, m', r1, r2⟩ := abounds_spec (P := P) (w := w) true hlo hhi hmx (Nat.le_refl 0) hb
          have : m' = 0 := by rcases r2 with ⟨_, _, q⟩ | q <;> omega
          subst this
          have hl : l = 0 := by omega
          have hh : h' = 0 := by omega
          subst hl; subst hh
          exact ⟨_, s, h, e, _, w, σ, by simp [Instr.sliceAt, Instr.slice, run_und hd, r1, sizeOf, run_inf hz], .refl _, st, .sliceNil⟩
      · -- a row
        rename_i n o qq
        cases hcz : Nat.beq cap 0 with
        | true =>
          rw [hcz] at e
          have hc0 := Nat.eq_of_beq_eq_true hcz
          cases hlz : Nat.beq len 0 with
          | false => rw [hlz] at e; cases e
          | true =>
          rw [hlz] at e
          have hl0 := Nat.eq_of_beq_eq_true hlz
          subst hc0; subst hl0
          rcases hx.slice_inv with ⟨en, cap', he, hc, hqq, rfl⟩ | ⟨_, _, a', rfl⟩
          · obtain ⟨h1, h2, h3, m', r1, r2⟩ := abounds_spec (P := P) (w := w) true hlo hhi hmx (Nat.zero_le cap') hb
            have hl : l = 0 := by omega
            have hh : h' = 0 := by omega
            subst hl; subst hh
            refine ⟨_, s, h, e, .slice (some ⟨en.blk, en.shift + o, none⟩) 0 m', w, σ, ?_, .refl _, st, ?_⟩
            · simp [Instr.sliceAt, Instr.slice, run_und hd, r1, sizeOf, run_inf hz]
              intro _; exact addr_add _ _ 0
            · rcases r2 with ⟨_, _, q⟩ | q
              · subst q; exact .slice _ _ _ _ _ _ he hc hqq
              · have : m' = 0 := by omega
                subst this; exact .slice0 _ _
          · obtain ⟨h1, h2, h3, m', r1, r2⟩ := abounds_spec (P := P) (w := w) true hlo hhi hmx (Nat.le_refl 0) hb
            have : m' = 0 := by rcases r2 with ⟨_, _, q⟩ | q <;> omega
            subst this
            have hl : l = 0 := by omega
            have hh : h' = 0 := by omega
            subst hl; subst hh
            exact ⟨_, s, h, e, .slice (some a') 0 0, w, σ, by simp [Instr.sliceAt, Instr.slice, run_und hd, r1, sizeOf, run_inf hz], .refl _, st, .slice0 _ _⟩
        | false =>
          rw [hcz] at e
          simp only [cond_false] at e
          rw [AM.run_get] at e
          split at e
          · rename_i ob hob
            split at e
            · rename_i c t' f g
              cases hf : (Nat.beq f 0 || Nat.beq f (z.size + 1)) with
              | false => rw [hf] at e; cases e
              | true =>
                rw [hf] at e
                simp only [Bool.or_eq_true] at hf
                rcases hx.slice_inv with ⟨en, cap', he, hc, hqq, rfl⟩ | ⟨_, h0, _⟩
                · obtain ⟨_, cs, u, fr, q1, q2, q3, q4, q5, q6, q7⟩ := st.row hob he
                  have hcc : cap ≤ cap' := by
                    unfold capOk at hc
                    cases hs : en.soft with
                    | none => rw [hs] at hc; dsimp only at hc; omega
                    | some p => obtain ⟨a, b, d⟩ := p; rw [hs] at hc; dsimp only at hc; omega
                  obtain ⟨h1, h2, h3, m', r1, r2⟩ := abounds_spec (P := P) (w := w) true hlo hhi hmx hcc hb
                  refine ⟨_, s, h, e, .slice (some (if m' = l then ⟨en.blk, en.shift + o, none⟩ else ⟨en.blk, en.shift + o + l * z.size, none⟩)) (h' - l) (m' - l), w, σ, ?_, .refl _, st, ?_⟩
                  · simp only [Instr.sliceAt, Instr.slice, Sem.run_bind, run_und hd, r1, sizeOf, run_inf hz, Result.andThen_ok, Sem.run_pure]
                    congr 2
                    by_cases hm : m' = l
                    · rw [if_pos hm, if_pos hm]
                    · rw [if_neg hm, if_neg hm]; simp [addr_add]
                  · have hmm : m ≤ m' := by rcases r2 with ⟨_, _, q⟩ | q <;> omega
                    by_cases hm : m' = l
                    · have e1 : h' - l = 0 := by omega
                      have e2 : m - l = 0 := by omega
                      have e3 : m' - l = 0 := by omega
                      rw [e1, e2, e3]; exact .slice0 _ _
                    · rw [if_neg hm]
                      have : en.shift + o + l * z.size = en.shift + (o + l * z.size) := by omega
                      rw [this]
                      refine .slice _ _ _ _ _ _ he ?_ (by
                        rcases r2 with ⟨y, y2, y3⟩ | y
                        · rcases hqq with z | z
                          · left; rw [y, z]; rfl
                          · right; omega
                        · right; omega)
                      unfold capOk at hc ⊢
                      rcases hf with hf | hf
                      · have hf0 := Nat.eq_of_beq_eq_true hf
                        subst hf0
                        have hs : en.soft = none := q7
                        rw [hs] at hc ⊢
                        dsimp only at hc ⊢
                        rcases r2 with ⟨_, y, q⟩ | q <;> omega
                      · have hf0 := Nat.eq_of_beq_eq_true hf
                        subst hf0
                        obtain ⟨sz, tot, hs⟩ := (q7 : ∃ sz tot, en.soft = some (z.size, sz, tot))
                        rw [hs] at hc ⊢
                        dsimp only at hc ⊢
                        obtain ⟨c1, c2⟩ := hc
                        have hmul : m' * z.size ≤ cap' * z.size := Nat.mul_le_mul_right _ (by rcases r2 with ⟨_, y, q⟩ | q <;> omega)
                        have hlm : l * z.size + (m' - l) * z.size = m' * z.size := by rw [← Nat.add_mul]; congr 1; omega
                        have hlm2 : l * z.size + (m - l) * z.size = m * z.size := by rw [← Nat.add_mul]; congr 1; omega
                        refine ⟨?_, by omega⟩
                        rcases r2 with ⟨_, y, q⟩ | q
                        · subst y; subst q
                          rcases c1 with c1 | ⟨c1, _⟩
                          · exact .inl (by omega)
                          · exact .inr ⟨by omega, by omega⟩
                        · exact .inl (by omega)
                · subst h0; simp at hcz
            · cases e
          · cases e
    · cases e
  · rename_i c el n o hd
    split at e
    · rename_i z l h' m hz hb
      rw [AM.run_get] at e
      split at e
      · rename_i ob hob
        split at e
        · rename_i cc t' g
          obtain ⟨en, he, rfl⟩ := hx.addr (n := n) (o := o) rfl
          obtain ⟨_, cs, u, fr, q1, q2, q3, q4, q5, q6, q7⟩ := st.row hob he
          have hs : en.soft = none := q7
          obtain ⟨h1, h2, h3, m', r1, r2⟩ := abounds_spec (P := P) (w := w) false hlo hhi hmx (Nat.le_refl c) hb
          have hmm : m' = m := by rcases r2 with ⟨_, y, q⟩ | q <;> omega
          subst hmm
          refine ⟨_, s, h, e, .slice (some (if m' = l then ⟨en.blk, en.shift + o, none⟩ else ⟨en.blk, en.shift + o + l * z.size, none⟩)) (h' - l) (m' - l), w, σ, ?_, .refl _, st, ?_⟩
          · simp only [Instr.sliceAt, Sem.run_bind, run_und hd, Instr.sureAddr, r1, sizeOf, run_inf hz, Result.andThen_ok, Sem.run_pure, addr_add]
          · by_cases hm : m' = l
            · have e1 : h' - l = 0 := by omega
              have e2 : m' - l = 0 := by omega
              rw [e1, e2]; exact .slice0 _ _
            · rw [if_neg hm]
              have : en.shift + o + l * z.size = en.shift + (o + l * z.size) := by omega
              rw [this]
              exact .slice _ _ _ _ _ _ he (by unfold capOk; rw [hs]) (.inl rfl)
        · cases e
      · cases e
    · cases e
  · cases e

end
end Go.Ev

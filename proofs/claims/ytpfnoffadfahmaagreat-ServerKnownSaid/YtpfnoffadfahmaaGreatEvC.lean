/- Programs over a heap of names beside the model's programs: what the one tells, the other does. No condition. -/
import Derived.Test.YtpfnoffadfahmaaGreatEvB
namespace Go.Ev
set_option linter.unusedVariables false
set_option linter.unusedSimpArgs false
open Go Go.RowKit

structure St (σ : Emb) (w0 : World) (h : T) (w : World) : Prop where
  hr : HR σ w0.heap.size h.get w.heap
  below : Below w0.heap.size w0 w

theorem St.heap {σ : Emb} {w0 : World} {h : T} {w w' : World} (s : St σ w0 h w) (e : w'.heap = w.heap) (os : w'.os = w.os) (tape : w'.tape = w.tape) (out : w'.output = w.output) : St σ w0 h w' :=
  ⟨by rw [e]; exact s.hr, ⟨os.trans s.below.os, tape.trans s.below.tape, out.trans s.below.output, by rw [e]; exact s.below.size, fun k hk => by rw [e]; exact s.below.block k hk⟩⟩

abbrev M (α : Type) := (α → Nat → AM) → Nat → AM

/-- What A tells at these heaps, S does. -/
def Sim (P : Program) (w0 : World) (σ : Emb) (h : T) (w : World) {α β : Type} (A : M α) (S : Sem β) (R : Emb → α → β → Prop) : Prop :=
  ∀ k s r, (A k s).run h = some r → ∃ a s' h', (k a s').run h' = some r ∧ ∃ b w' σ', S.run P w = .ok b w' ∧ σ.le σ' ∧ St σ' w0 h' w' ∧ R σ' a b

section
variable {P : Program} {w0 : World} {σ : Emb} {h : T} {w : World}

theorem Sim.pure {α β : Type} {R : Emb → α → β → Prop} {a : α} {b : β} (st : St σ w0 h w) (hR : R σ a b) : Sim P w0 σ h w (fun k => k a) (Pure.pure b) R :=
  fun _ s _ e => ⟨a, s, h, e, b, w, σ, rfl, .refl _, st, hR⟩

theorem Sim.bind {α β γ δ : Type} {A : M α} {S : Sem β} {R : Emb → α → β → Prop} {F : α → M γ} {G : β → Sem δ} {R' : Emb → γ → δ → Prop} (hA : Sim P w0 σ h w A S R)
    (hF : ∀ a b σ' h' w', σ.le σ' → St σ' w0 h' w' → R σ' a b → Sim P w0 σ' h' w' (F a) (G b) R') : Sim P w0 σ h w (fun k => A (fun a => F a k)) (S >>= G) R' := by
  intro k s r e
  obtain ⟨a, s', h', e', b, w', σ', run, le, st, hR⟩ := hA _ _ _ e
  obtain ⟨c, s2, h2, e2, d, w2, σ2, run2, le2, st2, hR2⟩ := hF a b σ' h' w' le st hR k s' r e'
  exact ⟨c, s2, h2, e2, d, w2, σ2, by simp only [Sem.run_bind, run, Result.andThen_ok, run2], le.trans le2, st2, hR2⟩

/-- Where the model's program has the same run as another one. -/
theorem Sim.congr {α β : Type} {A : M α} {S S' : Sem β} {R : Emb → α → β → Prop} (hA : Sim P w0 σ h w A S R) (e : S'.run P w = S.run P w) : Sim P w0 σ h w A S' R := by
  intro k s r x
  obtain ⟨a, s', h', e', b, w', σ', run, rest⟩ := hA k s r x
  exact ⟨a, s', h', e', b, w', σ', e.trans run, rest⟩

theorem Sim.weaken {α β : Type} {A : M α} {S : Sem β} {R R' : Emb → α → β → Prop} (hA : Sim P w0 σ h w A S R) (hR : ∀ τ a b, R τ a b → R' τ a b) : Sim P w0 σ h w A S R' := by
  intro k s r x
  obtain ⟨a, s', h', e', b, w', σ', run, le, st, q⟩ := hA k s r x
  exact ⟨a, s', h', e', b, w', σ', run, le, st, hR _ _ _ q⟩

theorem Sim.fail {α β : Type} {S : Sem β} {R : Emb → α → β → Prop} : Sim P w0 σ h w (fun _ _ => .fail) S R := by
  intro k s r e; cases e

theorem Sim.cond {α β : Type} {c : Bool} {A B : M α} {S : Sem β} {R : Emb → α → β → Prop} (hA : c = true → Sim P w0 σ h w A S R) (hB : c = false → Sim P w0 σ h w B S R) :
    Sim P w0 σ h w (fun k s => bif c then A k s else B k s) S R := by
  cases c with
  | true => exact hA rfl
  | false => exact hB rfl

/-- A test that the machine makes for itself. -/
theorem Sim.guard {α β : Type} {c : Bool} {A : M α} {S : Sem β} {R : Emb → α → β → Prop} (hA : c = true → Sim P w0 σ h w A S R) :
    Sim P w0 σ h w (fun k s => bif c then A k s else .fail) S R := .cond hA fun _ => .fail

/-! ### looking at an object -/
theorem Sim.get {α β : Type} {n : Nat} {F : Obj → M α} {S : Sem β} {R : Emb → α → β → Prop} (hF : ∀ o, h.get n = some o → Sim P w0 σ h w (F o) S R) :
    Sim P w0 σ h w (fun k s => .get n fun o => F o k s) S R := by
  intro k s r e
  rw [AM.run_get] at e
  split at e
  · rename_i o ho; exact hF o ho k s r e
  · cases e

/-! ### loads -/
noncomputable def nth (l : List Value) : Nat → Option Value :=
  List.rec (motive := fun _ => Nat → Option Value) (fun _ => none) (fun x _ ih n => Nat.rec (motive := fun _ => Option Value) (some x) (fun m _ => ih m) n) l
theorem nth_eq : ∀ (l : List Value) (n : Nat), nth l n = l[n]?
  | [], _ => rfl
  | _ :: _, 0 => rfl
  | _ :: l, n + 1 => by rw [List.getElem?_cons_succ]; exact nth_eq l n

theorem addr_add (b o i : Nat) : (⟨b, o, none⟩ : Addr).add i = ⟨b, o + i, none⟩ := by
  unfold Addr.add; split
  · rename_i h; subst h; rfl
  · rfl

/-- A live row: its cells, beside the model's. -/
theorem St.row (st : St σ w0 h w) {n : Nat} {c : Array Value} {t : TypeId} {f : Nat × Nat} {e : En} (hn : h.get n = some (.cells c t f)) (he : σ n = some e) :
    (ro (.cells c t f) = false → w0.heap.size ≤ e.blk) ∧ ∃ cs t' fr, w.heap[e.blk]? = some (.cells cs t' fr) ∧ e.shift + Ev.ext e c.size ≤ cs.size ∧ (∀ (i : Nat) (x : Value), c[i]? = some x → ∃ x', cs[e.shift + i]? = some x' ∧ VR σ x x') ∧
      (roF f = false → ∀ i, i < Ev.ext e c.size → ¬ (fr.1 ≤ e.shift + i ∧ e.shift + i < fr.2)) ∧ c.size ≤ Ev.ext e c.size ∧ (∀ esz sz tot, e.soft = some (esz, sz, tot) → sz = c.size) ∧ flagOk f.1 e.soft := by
  obtain ⟨a, b⟩ := st.hr.entry hn he
  refine ⟨fun hr => ?_, b⟩
  have := a rfl
  rw [hr] at this; exact this

theorem cell_of (w : World) (b i : Nat) {cs : Array Value} {t : TypeId} {fr : Nat × Nat} (hb : w.heap[b]? = some (.cells cs t fr)) : w.cell? ⟨b, i, none⟩ = cs[i]? := by
  simp [World.cell?, hb]
theorem frozen_of (w : World) (b i : Nat) {cs : Array Value} {t : TypeId} {fr : Nat × Nat} (hb : w.heap[b]? = some (.cells cs t fr)) : w.frozen? ⟨b, i, none⟩ = (decide (fr.1 ≤ i) && decide (i < fr.2)) := by
  simp [World.frozen?, hb]

noncomputable def aload (n off : Nat) : M Value := fun k s => .get n fun
  | .cells c _ _ => match nth c.toList off with
    | some v => k v s
    | none => .fail
  | _ => .fail

theorem Sim.load (st : St σ w0 h w) {n off : Nat} {e : En} (he : σ n = some e) (m : Mode) : Sim P w0 σ h w (aload n off) (load ⟨e.blk, e.shift + off, none⟩ m) VR := by
  refine Sim.get (F := fun o k s => match o with | .cells c _ _ => (match nth c.toList off with | some v => k v s | none => .fail) | _ => .fail) (fun o ho => ?_)
  cases o with
  | cells c t f =>
    obtain ⟨_, cs, t', fr, h1, _, h3, _⟩ := st.row ho he
    intro k s r x
    dsimp only at x
    rw [nth_eq] at x
    cases hv : c.toList[off]? with
    | none => rw [hv] at x; cases x
    | some v =>
      rw [hv] at x
      obtain ⟨v', a, b⟩ := h3 off v (by simpa using hv)
      exact ⟨v, s, h, x, v', w, σ, by simp [cell_of w _ _ h1, a], .refl _, st, b⟩
  | _ => exact Sim.fail

def acells (n off len : Nat) : M (List Value) := fun k s => .get n fun
  | .cells c _ _ => (fun l => bif Nat.beq l.length len then k l s else .fail) ((c.toList.drop off).take len)
  | _ => .fail

/-- What looks alone: no heap turns, and the model tells the same at whatever world has this heap. -/
def SimQ (P : Program) (h : T) (w : World) {α β : Type} (A : M α) (S : Sem β) (R : α → β → Prop) : Prop :=
  ∀ k s r, (A k s).run h = some r → ∃ a, (k a s).run h = some r ∧ ∃ b, (∀ w' : World, w'.heap = w.heap → S.run P w' = .ok b w') ∧ R a b

theorem SimQ.sim {α β : Type} {A : M α} {S : Sem β} {R : α → β → Prop} (st : St σ w0 h w) (q : SimQ P h w A S R) : Sim P w0 σ h w A S (fun _ => R) := by
  intro k s r e
  obtain ⟨a, e', b, run, hR⟩ := q k s r e
  exact ⟨a, s, h, e', b, w, σ, run w rfl, .refl _, st, hR⟩

theorem SimQ.pure {α β : Type} {R : α → β → Prop} {a : α} {b : β} (hR : R a b) : SimQ P h w (fun k => k a) (Pure.pure b) R :=
  fun _ _ _ e => ⟨a, e, b, fun _ _ => rfl, hR⟩
theorem SimQ.of_run {α β : Type} {R : α → β → Prop} {a : α} {b : β} {S : Sem β} (hS : ∀ w' : World, w'.heap = w.heap → S.run P w' = .ok b w') (hR : R a b) : SimQ P h w (fun k => k a) S R :=
  fun _ _ _ e => ⟨a, e, b, hS, hR⟩
theorem SimQ.fail {α β : Type} {S : Sem β} {R : α → β → Prop} : SimQ P h w (fun _ _ => .fail) S R := by
  intro k s r e; cases e
theorem SimQ.cond {α β : Type} {c : Bool} {A B : M α} {S : Sem β} {R : α → β → Prop} (hA : c = true → SimQ P h w A S R) (hB : c = false → SimQ P h w B S R) :
    SimQ P h w (fun k s => bif c then A k s else B k s) S R := by
  cases c with
  | true => exact hA rfl
  | false => exact hB rfl
theorem SimQ.get {α β : Type} {n : Nat} {F : Obj → M α} {S : Sem β} {R : α → β → Prop} (hF : ∀ o, h.get n = some o → SimQ P h w (F o) S R) :
    SimQ P h w (fun k s => .get n fun o => F o k s) S R := by
  intro k s r e
  rw [AM.run_get] at e
  split at e
  · rename_i o ho; exact hF o ho k s r e
  · cases e

theorem SimQ.cells (st : St σ w0 h w) {n off len : Nat} {e : En} (he : σ n = some e) : SimQ P h w (acells n off len) (loadCells ⟨e.blk, e.shift + off, none⟩ len) (fun l a => VRs σ l a.toList ∧ l.length = len) := by
  refine SimQ.get (F := fun o k s => match o with | .cells c _ _ => (fun l => bif Nat.beq l.length len then k l s else .fail) ((c.toList.drop off).take len) | _ => .fail) (fun o ho => ?_)
  cases o with
  | cells c t f =>
    obtain ⟨_, cs, t', fr, h1, _, h3, _⟩ := st.row ho he
    refine SimQ.cond (A := fun k s => k ((c.toList.drop off).take len) s) (fun hl => ?_) (fun _ => SimQ.fail)
    have hl' : ((c.toList.drop off).take len).length = len := Nat.eq_of_beq_eq_true hl
    have hlen : off + len ≤ c.size ∨ len = 0 := by
      simp only [List.length_take, List.length_drop, Array.length_toList] at hl'; omega
    have hcs : ∀ i, i < len → ∃ x x', c[off + i]? = some x ∧ cs[e.shift + off + i]? = some x' ∧ VR σ x x' := by
      intro i hi
      have hlt : off + i < c.size := by omega
      obtain ⟨x', a, b⟩ := h3 (off + i) c[off + i] (by simp [hlt])
      exact ⟨c[off + i], x', by simp [hlt], by rw [← a]; congr 1; omega, b⟩
    have hsz : e.shift + off + len ≤ cs.size ∨ len = 0 := by
      by_cases hz : len = 0
      · exact .inr hz
      · obtain ⟨x, x', _, b, _⟩ := hcs (len - 1) (by omega)
        have := lt_of_get? b
        exact .inl (by omega)
    have hlen2 : ((cs.toList.drop (e.shift + off)).take len).length = len := by
      simp only [List.length_take, List.length_drop, Array.length_toList]; omega
    intro k s r x
    refine ⟨_, x, ((cs.toList.drop (e.shift + off)).take len).toArray, fun w' hw' => ?_, ?_, hl'⟩
    · have h1' : w'.heap[e.blk]? = some (.cells cs t' fr) := by rw [hw']; exact h1
      have := run_loadCells_list (P := P) (w := w') ⟨e.blk, e.shift + off, none⟩ ((cs.toList.drop (e.shift + off)).take len) (fun j v hj => by
        rw [addr_add, cell_of w' _ _ h1']
        rw [List.getElem?_take] at hj
        split at hj
        · rw [List.getElem?_drop] at hj; simpa using hj
        · cases hj)
      rw [hlen2] at this; exact this
    · refine VRs.of_get (by simp only [hlen2, hl']) (fun i x x' hx hx' => ?_)
      simp only [List.getElem?_take] at hx hx'
      split at hx
      · rename_i hi
        rw [if_pos hi] at hx'
        rw [List.getElem?_drop] at hx hx'
        obtain ⟨y, y', a, b, c'⟩ := hcs i hi
        simp at hx hx'
        rw [a] at hx; cases hx
        rw [b] at hx'; cases hx'
        exact c'
      · cases hx
  | _ => exact SimQ.fail

theorem Sim.cells (st : St σ w0 h w) {n off len : Nat} {e : En} (he : σ n = some e) : Sim P w0 σ h w (acells n off len) (loadCells ⟨e.blk, e.shift + off, none⟩ len) (fun τ l a => VRs τ l a.toList ∧ l.length = len) := by
  intro k s r x
  obtain ⟨a, e', b, run, hR⟩ := SimQ.cells (P := P) st he k s r x
  exact ⟨a, s, h, e', b, w, σ, run w rfl, .refl _, st, hR⟩

/-! ### new objects -/
def anew (o : Obj) : M Nat := fun k s => .new s o (k s (s + 1))

theorem Sim.new (st : St σ w0 h w) {o O : Obj} (hro : ro o = false) (ho : ∀ n, σ n = none → OR (σ.ext n ⟨w.heap.size, 0, none⟩) ⟨w.heap.size, 0, none⟩ o (some O)) :
    Sim P w0 σ h w (anew o) (newObj O) (fun τ n b => τ n = some ⟨b, 0, none⟩) := by
  intro k s r x
  unfold anew at x
  rw [AM.run_new] at x
  split at x
  · cases x
  · rename_i hs
    have hf := st.hr.fresh hs
    refine ⟨s, s + 1, h.set s o, x, w.heap.size, { w with heap := w.heap.push O }, σ.ext s ⟨w.heap.size, 0, none⟩, rfl, Emb.ext_le _ hf, ⟨?_, ?_⟩, Emb.ext_same _ _ _⟩
    · exact (st.hr.new hs none (ho s hf) hro).congr (fun m => T.get_set h s m o)
    · exact st.below.alloc st.below.size O

theorem Sim.newCells (st : St σ w0 h w) {c cs : Array Value} {t : TypeId} (hc : VRs σ c.toList cs.toList) : Sim P w0 σ h w (anew (.cells c t (0, 0))) (newObj (.cells cs t)) (fun τ n b => τ n = some ⟨b, 0, none⟩) :=
  Sim.new st rfl fun n hn => by
    have hle := Emb.ext_le (σ := σ) (n := n) ⟨w.heap.size, 0, none⟩ hn
    obtain ⟨hs, hv⟩ := VRs.arr hc
    refine ⟨cs, t, (0, 0), rfl, by simp [Ev.ext, hs], fun i x hx => ?_, fun i _ => by simp, by simp [Ev.ext], (fun _ _ _ h => by cases h), rfl⟩
    have hlt := lt_of_get? hx
    refine ⟨cs[i], by simp [hs, hlt], (hv i x _ hx (by simp [hs, hlt])).mono hle⟩

/-! ### stores -/
def overL : List Value → Nat → List Value → List Value
  | [], _, _ => []
  | x :: xs, 0, [] => x :: xs
  | _ :: xs, 0, v :: vs => v :: overL xs 0 vs
  | x :: xs, i + 1, vs => x :: overL xs i vs
theorem overL_length : ∀ (xs : List Value) (i : Nat) (vs : List Value), (overL xs i vs).length = xs.length
  | [], _, _ => rfl
  | _ :: _, 0, [] => rfl
  | _ :: xs, 0, _ :: vs => by simp [overL, overL_length xs 0 vs]
  | _ :: xs, i + 1, vs => by simp [overL, overL_length xs i vs]
theorem overL_get : ∀ (xs : List Value) (i : Nat) (vs : List Value) (j : Nat), i + vs.length ≤ xs.length → (overL xs i vs)[j]? = if i ≤ j ∧ j < i + vs.length then vs[j - i]? else xs[j]?
  | [], i, vs, j, h => by
    cases vs with
    | nil => simp [overL]
    | cons v vs => simp at h
  | x :: xs, 0, [], j, h => by simp [overL]
  | x :: xs, 0, v :: vs, 0, h => by simp [overL]
  | x :: xs, 0, v :: vs, j + 1, h => by
    have ih := overL_get xs 0 vs j (by simpa using h)
    simp only [overL, List.getElem?_cons_succ, ih]
    by_cases hj : j < vs.length <;> simp [hj]
  | x :: xs, i + 1, vs, 0, h => by simp [overL]
  | x :: xs, i + 1, vs, j + 1, h => by
    have ih := overL_get xs i vs j (by simp at h; omega)
    simp only [overL, List.getElem?_cons_succ, ih]
    by_cases hj : i ≤ j ∧ j < i + vs.length
    · rw [if_pos hj, if_pos (by omega)]; congr 1; omega
    · rw [if_neg hj, if_neg (by omega)]

/-- Many stores in the model. -/
theorem run_storeCells (b : Nat) (t : TypeId) (fr : Nat × Nat) (vs : List Value) : ∀ (w : World) (cs : Array Value) (o i : Nat), w.heap[b]? = some (.cells cs t fr) → o + i + vs.length ≤ cs.size →
    (∀ v ∈ vs, v.oneCell' = true) → (∀ j, o + i ≤ j → j < o + i + vs.length → ¬ (fr.1 ≤ j ∧ j < fr.2)) →
    ∃ w', (storeCells ⟨b, o, none⟩ vs i).run P w = .ok () w' ∧ w'.heap.size = w.heap.size ∧ (∀ k, k ≠ b → w'.heap[k]? = w.heap[k]?) ∧ w'.os = w.os ∧ w'.tape = w.tape ∧ w'.output = w.output ∧
      ∃ cs', w'.heap[b]? = some (.cells cs' t fr) ∧ cs'.size = cs.size ∧ ∀ j, cs'[j]? = if o + i ≤ j ∧ j < o + i + vs.length then vs[j - (o + i)]? else cs[j]? := by
  induction vs with
  | nil =>
    intro w cs o i hb _ _ _
    exact ⟨w, rfl, rfl, fun _ _ => rfl, rfl, rfl, rfl, cs, hb, rfl, fun j => by rw [if_neg (by simp)]⟩
  | cons v vs ih =>
    intro w cs o i hb hl hv hf
    simp only [List.length_cons] at hl hf
    have hlt : o + i < cs.size := by omega
    have hc : w.cell? ⟨b, o + i, none⟩ = some cs[o + i] := by rw [cell_of w _ _ hb]; simp [hlt]
    have hz : w.frozen? ⟨b, o + i, none⟩ = false := by
      rw [frozen_of w _ _ hb]
      have := hf (o + i) (Nat.le_refl _) (by omega)
      simp only [Bool.and_eq_false_iff, decide_eq_false_iff_not]; omega
    have hb1 : (w.setCell ⟨b, o + i, none⟩ v).heap[b]? = some (.cells (cs.setIfInBounds (o + i) v) t fr) := by
      simp [World.setCell, Array.getElem?_modify, hb]
    obtain ⟨w', r1, r2, r3, r4, r5, r6, cs', r7, r8, r9⟩ := ih (w.setCell ⟨b, o + i, none⟩ v) _ o (i + 1) hb1 (by simp; omega) (fun x hx => hv x (by simp [hx])) (fun j h1 h2 => hf j (by omega) (by omega))
    refine ⟨w', ?_, ?_, ?_, r4, r5, r6, cs', r7, ?_, ?_⟩
    · show (do store ((⟨b, o, none⟩ : Addr).add i) v; storeCells ⟨b, o, none⟩ vs (i + 1) : Sem Unit).run P w = _
      rw [addr_add, Sem.run_bind, run_store P w _ v .plain (hv v (by simp)), hc]
      simp only [hz, Bool.false_eq_true, if_false, Result.andThen_ok]
      exact r1
    · rw [r2]; simp [World.setCell]
    · intro k hk
      rw [r3 k hk]; exact Below.heap_setCell w ⟨b, o + i, none⟩ v k hk
    · rw [r8]; simp
    · intro j
      rw [r9]
      by_cases h1 : o + (i + 1) ≤ j ∧ j < o + (i + 1) + vs.length
      · rw [if_pos h1, if_pos (by simp; omega)]
        have : j - (o + i) = (j - (o + (i + 1))) + 1 := by omega
        rw [this]; simp
      · rw [if_neg h1, Array.getElem?_setIfInBounds]
        by_cases h2 : o + i = j
        · subst h2; rw [if_pos rfl, if_pos hlt, if_pos (by simp)]; simp
        · rw [if_neg h2, if_neg (by simp; omega)]

def aput (n off : Nat) (vs : List Value) : M Unit := fun k s => .get n fun
  | .cells c t f => bif Nat.ble (off + vs.length) c.size && (vs.all Value.oneCell' && !ro (.cells c t f)) then .put n (.cells ⟨overL c.toList off vs⟩ t f) (k () s) else .fail
  | _ => .fail

theorem VR.oneCell {v v' : Value} (k : VR σ v v') : v'.oneCell' = v.oneCell' := by cases k <;> rfl

theorem VRs.oneCells {vs vs' : List Value} (k : VRs σ vs vs') (ha : ∀ v ∈ vs, v.oneCell' = true) : ∀ v ∈ vs', v.oneCell' = true := by
  induction k with
  | nil => intro v hv; cases hv
  | cons hx _ ih =>
    intro v hv
    rcases List.mem_cons.1 hv with h | h
    · subst h; rw [hx.oneCell]; exact ha _ (by simp)
    · exact ih (fun y hy => ha y (by simp [hy])) v h

theorem Sim.put (st : St σ w0 h w) {n off : Nat} {e : En} (he : σ n = some e) {vs vs' : List Value} (hv : VRs σ vs vs') :
    Sim P w0 σ h w (aput n off vs) (storeCells ⟨e.blk, e.shift + off, none⟩ vs') (fun _ _ _ => True) := by
  refine Sim.get (F := fun o k s => match o with | .cells c t f => bif Nat.ble (off + vs.length) c.size && (vs.all Value.oneCell' && !ro (.cells c t f)) then .put n (.cells ⟨overL c.toList off vs⟩ t f) (k () s) else .fail | _ => .fail) (fun o ho => ?_)
  cases o with
  | cells c t f =>
    refine Sim.guard (A := fun k s => .put n (.cells ⟨overL c.toList off vs⟩ t f) (k () s)) (fun hg => ?_)
    simp only [Bool.and_eq_true, Nat.ble_eq, List.all_eq_true, Bool.not_eq_true'] at hg
    obtain ⟨hl, ha, hro⟩ := hg
    have hf2 : roF f = false := hro
    obtain ⟨hbase, cs, t', fr, h1, h2, h3, h4, h5, h6, h7⟩ := st.row ho he
    have hbase := hbase hro
    have hvl := hv.length
    have hsz : (overL c.toList off vs).length = c.size := by rw [overL_length]; simp
    obtain ⟨w', r1, r2, r3, r4, r5, r6, cs', r7, r8, r9⟩ := run_storeCells (P := P) e.blk t' fr vs' w cs (e.shift + off) 0 h1 (by omega) (hv.oneCells ha)
      (fun j a b => by have := h4 hf2 (j - e.shift) (by omega); rwa [show e.shift + (j - e.shift) = j by omega] at this)
    intro k s r x
    rw [AM.run_put, ho] at x
    refine ⟨(), s, h.set n (.cells ⟨overL c.toList off vs⟩ t f), x, (), w', σ, r1, .refl _, ⟨?_, ?_⟩, trivial⟩
    · refine (st.hr.upd (o' := .cells ⟨overL c.toList off vs⟩ t f) ho he rfl hro hro r2 r3 ?_ ?_ ?_).congr (fun m => T.get_set h n m _)
      · refine ⟨cs', t', fr, r7, ?_, ?_, ?_, ?_, ?_, h7⟩
        · rw [r8]; simpa [hsz] using h2
        · intro i y hy
          have hy' : (overL c.toList off vs)[i]? = some y := by simpa using hy
          rw [overL_get _ _ _ _ (by simpa using hl)] at hy'
          rw [r9]
          by_cases hi : off ≤ i ∧ i < off + vs.length
          · rw [if_pos hi] at hy'
            obtain ⟨y', z1, z2⟩ := hv.get _ _ hy'
            refine ⟨y', ?_, z2⟩
            rw [if_pos (by omega), ← z1]; congr 1; omega
          · rw [if_neg hi] at hy'
            obtain ⟨y', z1, z2⟩ := h3 i y (by simpa using hy')
            exact ⟨y', by rw [if_neg (by omega)]; exact z1, z2⟩
        · simpa [hsz] using h4
        · simpa [hsz] using h5
        · intro a b d hs; rw [h6 a b d hs]; simp [hsz]
      · intro c1 t1 f1 d u fs e1 e2
        cases e1
        rw [h1] at e2; cases e2
        refine ⟨cs', r7, r8, fun i hi => ?_⟩
        rw [r9, if_neg (by omega)]
      · intro c1 t1 f1 e1
        cases e1
        exact ⟨_, _, _, rfl, by simp [hsz]⟩
    · exact st.below.trans ⟨r4, r5, r6, by omega, fun k hk => r3 k (by omega)⟩
  | _ => exact Sim.fail

/-! ### objects that are no cells -/
theorem Sim.setObj (st : St σ w0 h w) {n : Nat} {e : En} (he : σ n = some e) {o o' O' : Obj} (ho : h.get n = some o) (ha : alive o = true) (hc : isCells o = false) (hc' : isCells o' = false)
    (hO : ∃ O, w.heap[e.blk]? = some O ∧ isCells O = false) (ho' : OR σ e o' (some O')) :
    Sim P w0 σ h w (fun k s => .put n o' (k () s)) (setObj e.blk O') (fun _ _ _ => True) := by
  intro k s r x
  rw [AM.run_put, ho] at x
  have hro : ro o = false := by cases o <;> first | rfl | (simp [isCells] at hc)
  have hro' : ro o' = false := by cases o' <;> first | rfl | (simp [isCells] at hc')
  obtain ⟨O, hO1, hO2⟩ := hO
  have hlt := lt_of_get? hO1
  refine ⟨(), s, h.set n o', x, (), { w with heap := w.heap.setIfInBounds e.blk O' }, σ, ?_, .refl _, ⟨?_, ?_⟩, trivial⟩
  · unfold Go.setObj
    cases O <;> simp [isCells] at hO2 <;> simp [Sem.run, hO1]
  · refine (st.hr.upd (o' := o') ho he ha hro hro' (by simp) (fun k hk => ?_) ?_ ?_ ?_).congr (fun m => T.get_set h n m _)
    · simp [Ne.symm hk]
    · simpa [Array.getElem?_setIfInBounds, hlt] using ho'
    · intro c t fr d u fs e1; subst e1; simp [isCells] at hc
    · intro c t fr e1; subst e1; simp [isCells] at hc
  · have hb := (st.hr.entry ho he).1 ha
    rw [hro] at hb
    have hb : w0.heap.size ≤ e.blk := hb
    exact st.below.trans ⟨rfl, rfl, rfl, by simp, fun k hk => by simp [show e.blk ≠ k by omega]⟩

end
end Go.Ev

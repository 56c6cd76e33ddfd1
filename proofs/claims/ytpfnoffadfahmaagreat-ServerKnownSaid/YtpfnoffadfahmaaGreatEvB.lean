/- How a heap of names stands to the model's heap: values, objects, and what keeps that. No condition. -/
import Derived.Test.YtpfnoffadfahmaaGreatEvA
namespace Go.Ev
set_option linter.unusedVariables false
set_option linter.unusedSimpArgs false
open Go Go.RowKit

/-- Where a name's block lies: the block, the first cell, and, of a row that may have spare room: the cells of an element, the known cells, the cells in all. -/
structure En where
  blk : Nat
  shift : Nat
  soft : Option (Nat × Nat × Nat)

abbrev Emb := Nat → Option En
def Emb.le (σ τ : Emb) : Prop := ∀ n e, σ n = some e → τ n = some e
theorem Emb.le.refl (σ : Emb) : σ.le σ := fun _ _ h => h
theorem Emb.le.trans {σ τ υ : Emb} (h : σ.le τ) (k : τ.le υ) : σ.le υ := fun n e x => k n e (h n e x)

inductive FnR (σ : Emb) : Fn → Fn → Prop
  | same (f : Fn) (h : ∀ l, f ≠ .yield l) : FnR σ f f
  | yield (l : Nat) (e : En) (h : σ l = some e) : FnR σ (.yield l) (.yield e.blk)

def capOk (e : En) (o cap cap' : Nat) : Prop :=
  match e.soft with
  | none => cap' = cap
  | some (esz, sz, tot) => (cap' = cap ∨ (o + cap * esz = sz ∧ cap ≤ cap')) ∧ o + cap' * esz ≤ tot

inductive VR (σ : Emb) : Value → Value → Prop
  | bool (b : Bool) : VR σ (.bool b) (.bool b)
  | int (k : IntKind) (n : Int) : VR σ (.int k n) (.int k n)
  | string (s : ByteArray) : VR σ (.string s) (.string s)
  | ptrNil : VR σ (.pointer none) (.pointer none)
  | ptr (n o : Nat) (e : En) (h : σ n = some e) : VR σ (.pointer (some ⟨n, o, none⟩)) (.pointer (some ⟨e.blk, e.shift + o, none⟩))
  | sliceNil : VR σ (.slice none 0 0) (.slice none 0 0)
  | slice (n o len cap : Nat) (e : En) (cap' : Nat) (h : σ n = some e) (hc : capOk e o cap cap') {q : Option Nat} (hq : q = none ∨ cap' = cap) : VR σ (.slice (some ⟨n, o, q⟩) len cap) (.slice (some ⟨e.blk, e.shift + o, none⟩) len cap')
  | slice0 (a a' : Addr) : VR σ (.slice (some a) 0 0) (.slice (some a') 0 0)
  | mapNil : VR σ (.map none) (.map none)
  | map (n : Nat) (e : En) (h : σ n = some e) : VR σ (.map (some n)) (.map (some e.blk))
  | nilFunc : VR σ .nilFunc .nilFunc
  | nilIface : VR σ .nilIface .nilIface
  | func (f f' : Fn) (xs xs' ys ys' : Array Value) (hf : FnR σ f f') (hx : xs'.size = xs.size) (hxs : ∀ (i : Nat) (x x' : Value), xs[i]? = some x → xs'[i]? = some x' → VR σ x x')
      (hy : ys'.size = ys.size) (hys : ∀ (i : Nat) (x x' : Value), ys[i]? = some x → ys'[i]? = some x' → VR σ x x') : VR σ (.func f xs ys) (.func f' xs' ys')
  | iface (t : TypeId) (v v' : Value) (h : VR σ v v') : VR σ (.iface t v) (.iface t v')
  | agg (xs xs' : Array Value) (hx : xs'.size = xs.size) (hxs : ∀ (i : Nat) (x x' : Value), xs[i]? = some x → xs'[i]? = some x' → VR σ x x') : VR σ (.agg xs) (.agg xs')
  | tuple (xs xs' : Array Value) (hx : xs'.size = xs.size) (hxs : ∀ (i : Nat) (x x' : Value), xs[i]? = some x → xs'[i]? = some x' → VR σ x x') : VR σ (.tuple xs) (.tuple xs')

theorem FnR.mono {σ τ : Emb} (h : σ.le τ) {f f' : Fn} (k : FnR σ f f') : FnR τ f f' := by
  cases k with
  | same f h => exact .same _ h
  | yield l e x => exact .yield l e (h _ _ x)

theorem VR.mono {σ τ : Emb} (h : σ.le τ) {v v' : Value} (k : VR σ v v') : VR τ v v' := by
  induction k with
  | bool b => exact .bool b
  | int k n => exact .int k n
  | string s => exact .string s
  | ptrNil => exact .ptrNil
  | ptr n o e x => exact .ptr n o e (h _ _ x)
  | sliceNil => exact .sliceNil
  | slice n o l c e c' x y z => exact .slice n o l c e c' (h _ _ x) y z
  | slice0 a a' => exact .slice0 a a'
  | mapNil => exact .mapNil
  | map n e x => exact .map n e (h _ _ x)
  | nilFunc => exact .nilFunc
  | nilIface => exact .nilIface
  | func f f' xs xs' ys ys' hf hx _ hy _ ih1 ih2 => exact .func _ _ _ _ _ _ (hf.mono h) hx ih1 hy ih2
  | iface t v v' _ ih => exact .iface t _ _ ih
  | agg xs xs' hx _ ih => exact .agg _ _ hx ih
  | tuple xs xs' hx _ ih => exact .tuple _ _ hx ih

/-- Lists of values. -/
inductive VRs (σ : Emb) : List Value → List Value → Prop
  | nil : VRs σ [] []
  | cons {x x' : Value} {xs xs' : List Value} (h : VR σ x x') (t : VRs σ xs xs') : VRs σ (x :: xs) (x' :: xs')

theorem VRs.mono {σ τ : Emb} (h : σ.le τ) {xs xs' : List Value} (k : VRs σ xs xs') : VRs τ xs xs' := by
  induction k with
  | nil => exact .nil
  | cons hx _ ih => exact .cons (hx.mono h) ih
theorem VRs.length {σ : Emb} {xs xs' : List Value} (k : VRs σ xs xs') : xs'.length = xs.length := by
  induction k with
  | nil => rfl
  | cons _ _ ih => simp [ih]
theorem VRs.get {σ : Emb} {xs xs' : List Value} (k : VRs σ xs xs') : ∀ (i : Nat) (x : Value), xs[i]? = some x → ∃ x', xs'[i]? = some x' ∧ VR σ x x' := by
  induction k with
  | nil => intro i x h; simp at h
  | cons hx _ ih =>
    intro i x h
    cases i with
    | zero => simp at h; subst h; exact ⟨_, rfl, hx⟩
    | succ i => simp at h; obtain ⟨x', a, b⟩ := ih i x h; exact ⟨x', by simpa using a, b⟩
theorem VRs.of_get {σ : Emb} : ∀ {xs xs' : List Value}, xs'.length = xs.length → (∀ (i : Nat) (x x' : Value), xs[i]? = some x → xs'[i]? = some x' → VR σ x x') → VRs σ xs xs'
  | [], [], _, _ => .nil
  | x :: xs, x' :: xs', hl, h => .cons (h 0 x x' rfl rfl) (VRs.of_get (by simpa using hl) (fun i y y' a b => h (i + 1) y y' (by simpa using a) (by simpa using b)))
  | [], _ :: _, hl, _ => by simp at hl
  | _ :: _, [], hl, _ => by simp at hl
theorem VRs.append {σ : Emb} {xs xs' ys ys' : List Value} (h : VRs σ xs xs') (k : VRs σ ys ys') : VRs σ (xs ++ ys) (xs' ++ ys') := by
  induction h with
  | nil => exact k
  | cons hx _ ih => exact .cons hx ih
theorem VRs.arr {σ : Emb} {xs xs' : Array Value} (h : VRs σ xs.toList xs'.toList) : xs'.size = xs.size ∧ ∀ (i : Nat) (x x' : Value), xs[i]? = some x → xs'[i]? = some x' → VR σ x x' := by
  refine ⟨by simpa using h.length, fun i x x' a b => ?_⟩
  obtain ⟨y, c, d⟩ := h.get i x (by simpa using a)
  have : some x' = some y := by rw [← b, ← c]; simp
  cases this; exact d
theorem VR.of_agg {σ : Emb} {xs xs' : Array Value} (h : VRs σ xs.toList xs'.toList) : VR σ (.agg xs) (.agg xs') := .agg _ _ h.arr.1 h.arr.2
theorem VR.of_tuple {σ : Emb} {xs xs' : Array Value} (h : VRs σ xs.toList xs'.toList) : VR σ (.tuple xs) (.tuple xs') := .tuple _ _ h.arr.1 h.arr.2
theorem VRs.of_arr {σ : Emb} {xs xs' : Array Value} (hx : xs'.size = xs.size) (hxs : ∀ (i : Nat) (x x' : Value), xs[i]? = some x → xs'[i]? = some x' → VR σ x x') : VRs σ xs.toList xs'.toList :=
  VRs.of_get (by simpa using hx) (fun i x x' a b => hxs i x x' (by simpa using a) (by simpa using b))
theorem VR.agg_inv {σ : Emb} {xs : Array Value} {v' : Value} (h : VR σ (.agg xs) v') : ∃ xs', v' = .agg xs' ∧ VRs σ xs.toList xs'.toList := by
  cases h with | agg _ xs' hx hxs => exact ⟨xs', rfl, VRs.of_arr hx hxs⟩
theorem VR.tuple_inv {σ : Emb} {xs : Array Value} {v' : Value} (h : VR σ (.tuple xs) v') : ∃ xs', v' = .tuple xs' ∧ VRs σ xs.toList xs'.toList := by
  cases h with | tuple _ xs' hx hxs => exact ⟨xs', rfl, VRs.of_arr hx hxs⟩

/-- The cells of a value. -/
theorem VR.cells {σ : Emb} {v v' : Value} (h : VR σ v v') : VRs σ v.cells.toList v'.cells.toList := by
  cases h with
  | agg xs xs' hx hxs => exact VRs.of_arr hx hxs
  | bool b => exact .cons (.bool b) .nil
  | int k n => exact .cons (.int k n) .nil
  | string s => exact .cons (.string s) .nil
  | ptrNil => exact .cons .ptrNil .nil
  | ptr n o e x => exact .cons (.ptr n o e x) .nil
  | sliceNil => exact .cons .sliceNil .nil
  | slice n o l c e c' x y z => exact .cons (.slice n o l c e c' x y z) .nil
  | slice0 a a' => exact .cons (.slice0 a a') .nil
  | mapNil => exact .cons .mapNil .nil
  | map n e x => exact .cons (.map n e x) .nil
  | nilFunc => exact .cons .nilFunc .nil
  | nilIface => exact .cons .nilIface .nil
  | func f f' xs xs' ys ys' hf hx hxs hy hys => exact .cons (.func f f' xs xs' ys ys' hf hx hxs hy hys) .nil
  | iface t v v' h => exact .cons (.iface t v v' h) .nil
  | tuple xs xs' hx hxs => exact .cons (.tuple xs xs' hx hxs) .nil

/-! ### deferred calls, loops -/
inductive TgR (σ : Emb) : Target → Target → Prop
  | fn (f f' : Fn) (xs xs' : Array Value) (h : FnR σ f f') (hx : VRs σ xs.toList xs'.toList) : TgR σ (.fn f xs) (.fn f' xs')
  | nil : TgR σ .nil .nil
  | builtin (b : Builtin) (a : Array TypeId) (t : TypeId) (c : Array Bool) : TgR σ (.builtin b a t c) (.builtin b a t c)
  | collected (r : Nat) (e : En) (h : σ r = some e) : TgR σ (.collected r) (.collected e.blk)
theorem TgR.mono {σ τ : Emb} (h : σ.le τ) {a b : Target} (k : TgR σ a b) : TgR τ a b := by
  cases k with
  | fn f f' xs xs' a b => exact .fn _ _ _ _ (a.mono h) (b.mono h)
  | nil => exact .nil
  | builtin b a t c => exact .builtin b a t c
  | collected r e x => exact .collected r e (h _ _ x)
inductive DfR (σ : Emb) : List Deferred → List Deferred → Prop
  | nil : DfR σ [] []
  | cons {d d' : Deferred} {ds ds' : List Deferred} (ht : TgR σ d.target d'.target) (ha : VRs σ d.args.toList d'.args.toList) (t : DfR σ ds ds') : DfR σ (d :: ds) (d' :: ds')
theorem DfR.mono {σ τ : Emb} (h : σ.le τ) {a b : List Deferred} (k : DfR σ a b) : DfR τ a b := by
  induction k with
  | nil => exact .nil
  | cons ht ha _ ih => exact .cons (ht.mono h) (ha.mono h) ih

structure LoopR (σ : Emb) (l l' : Loop) : Prop where
  state : l'.state = l.state
  pending : l'.pending = l.pending
  fn : l'.fn = l.fn
  tmps : VRs σ l.tmps.toList l'.tmps.toList
  params : l'.params = l.params
  assign : l'.assign = l.assign
  body : l'.body = l.body
  defers : ∃ e, σ l.defers = some e ∧ l'.defers = e.blk

/-! ### objects -/
def isCells : Obj → Bool | .cells .. => true | _ => false
def alive : Obj → Bool | .pending .. => false | _ => true
/-- What nobody writes: a row that was there before. -/
def roF (f : Nat × Nat) : Bool := Nat.beq f.1 0 && Nat.beq f.2 1
def ro : Obj → Bool | .cells _ _ f => roF f | _ => false
def ext (e : En) (n : Nat) : Nat := match e.soft with | none => n | some (_, _, tot) => tot

def MapR (σ : Emb) (es es' : Array MapEntry) : Prop :=
  es'.size = es.size ∧ ∀ (i : Nat) (x x' : MapEntry), es[i]? = some x → es'[i]? = some x' → VR σ x.key x'.key ∧ VR σ x.val x'.val ∧ x'.born = x.born

/-- A row's first mark: 0: as long as it is; z + 1: it may have spare room, its elements have z cells. -/
def flagOk : Nat → Option (Nat × Nat × Nat) → Prop
  | 0, s => s = none
  | z + 1, s => ∃ sz tot, s = some (z, sz, tot)

def OR (σ : Emb) (e : En) : Obj → Option Obj → Prop
  | .cells c _ f, O => ∃ cs t fr, O = some (.cells cs t fr) ∧ e.shift + ext e c.size ≤ cs.size ∧ (∀ (i : Nat) (x : Value), c[i]? = some x → ∃ x', cs[e.shift + i]? = some x' ∧ VR σ x x') ∧
      (roF f = false → ∀ i, i < ext e c.size → ¬ (fr.1 ≤ e.shift + i ∧ e.shift + i < fr.2)) ∧ c.size ≤ ext e c.size ∧ (∀ esz sz tot, e.soft = some (esz, sz, tot) → sz = c.size) ∧ flagOk f.1 e.soft
  | .pending .., _ => True
  | .map es cl, O => ∃ es', O = some (.map es' cl) ∧ MapR σ es es'
  | .mapIter none s seen st, O => O = some (.mapIter none s seen st)
  | .mapIter (some m) s seen st, O => ∃ e', σ m = some e' ∧ O = some (.mapIter (some e'.blk) s seen st)
  | .stringIter s p, O => e.shift = 0 ∧ O = some (.stringIter s p)
  | .loop l, O => ∃ l', O = some (.loop l') ∧ LoopR σ l l'
  | .deferred none, O => O = some (.deferred none)
  | .deferred (some ds), O => ∃ ds', O = some (.deferred (some ds')) ∧ DfR σ ds ds'
  | _, _ => False

theorem OR.mono {σ τ : Emb} (h : σ.le τ) {e : En} {o : Obj} {O : Option Obj} (k : OR σ e o O) : OR τ e o O := by
  cases o with
  | cells c t f => obtain ⟨cs, t', fr, a, b, d, r⟩ := k; exact ⟨cs, t', fr, a, b, fun i x hx => (d i x hx).imp fun y hy => ⟨hy.1, hy.2.mono h⟩, r⟩
  | pending c t => trivial
  | map es cl => obtain ⟨es', a, b, c⟩ := k; exact ⟨es', a, b, fun i x y hx hy => ⟨(c i x y hx hy).1.mono h, (c i x y hx hy).2.1.mono h, (c i x y hx hy).2.2⟩⟩
  | mapIter m s seen st => cases m with
    | none => exact k
    | some m => obtain ⟨e', a, b⟩ := k; exact ⟨e', h _ _ a, b⟩
  | stringIter s p => exact k
  | loop l => obtain ⟨l', a, b⟩ := k; exact ⟨l', a, b.state, b.pending, b.fn, b.tmps.mono h, b.params, b.assign, b.body, b.defers.imp fun e he => ⟨h _ _ he.1, he.2⟩⟩
  | deferred ds => cases ds with
    | none => exact k
    | some ds => obtain ⟨ds', a, b⟩ := k; exact ⟨ds', a, b.mono h⟩
  | _ => exact k.elim

/-- Two live names' blocks share no cell. -/
def Apart (e : En) (o : Obj) (f : En) (p : Obj) : Prop :=
  e.blk ≠ f.blk ∨ ∃ c t fr d u fs, o = .cells c t fr ∧ p = .cells d u fs ∧ (e.shift + ext e c.size ≤ f.shift ∨ f.shift + ext f d.size ≤ e.shift)

/-- How the heap of names stands to the model's. -/
structure HR (σ : Emb) (base : Nat) (g : Nat → Option Obj) (H : Array Obj) : Prop where
  dom : ∀ n e, σ n = some e → ∃ o, g n = some o
  ob : ∀ n o, g n = some o → ∃ e, σ n = some e ∧ (alive o = true → if ro o = true then e.blk < base else base ≤ e.blk) ∧ OR σ e o H[e.blk]?
  apart : ∀ n m o p e f, n ≠ m → g n = some o → g m = some p → alive o = true → alive p = true → (ro o && ro p) = false → σ n = some e → σ m = some f → Apart e o f p
  size : base ≤ H.size

theorem HR.congr {σ : Emb} {base : Nat} {g g' : Nat → Option Obj} {H : Array Obj} (h : HR σ base g H) (e : ∀ n, g' n = g n) : HR σ base g' H := by
  have : g' = g := funext e
  subst this; exact h

/-- A name's entry. -/
theorem HR.entry {σ : Emb} {base : Nat} {g : Nat → Option Obj} {H : Array Obj} (h : HR σ base g H) {n : Nat} {o : Obj} {e : En} (hn : g n = some o) (he : σ n = some e) :
    (alive o = true → if ro o = true then e.blk < base else base ≤ e.blk) ∧ OR σ e o H[e.blk]? := by
  obtain ⟨e', a, b, c⟩ := h.ob n o hn
  rw [he] at a; cases a; exact ⟨b, c⟩

theorem lt_of_get? {α : Type} {H : Array α} {i : Nat} {x : α} (h : H[i]? = some x) : i < H.size := (Array.getElem?_eq_some_iff.1 h).1

theorem OR.lt {σ : Emb} {e : En} {o : Obj} {H : Array Obj} (ha : alive o = true) (k : OR σ e o H[e.blk]?) : e.blk < H.size := by
  cases o with
  | cells c t f => obtain ⟨cs, t', fr, a, _⟩ := k; exact lt_of_get? a
  | pending c t => simp [alive] at ha
  | map es cl => obtain ⟨es', a, _⟩ := k; exact lt_of_get? a
  | mapIter m s seen st => cases m with
    | none => exact lt_of_get? (show H[e.blk]? = _ from k)
    | some m => obtain ⟨e', _, b⟩ := k; exact lt_of_get? b
  | stringIter s p => exact lt_of_get? (show H[e.blk]? = _ from k.2)
  | loop l => obtain ⟨l', a, _⟩ := k; exact lt_of_get? a
  | deferred ds => cases ds with
    | none => exact lt_of_get? (show H[e.blk]? = _ from k)
    | some ds => obtain ⟨ds', a, _⟩ := k; exact lt_of_get? a
  | _ => exact k.elim

def Emb.ext (σ : Emb) (n : Nat) (e : En) : Emb := fun m => if m = n then some e else σ m
theorem Emb.ext_same (σ : Emb) (n : Nat) (e : En) : σ.ext n e n = some e := by simp [Emb.ext]
theorem Emb.ext_le {σ : Emb} {n : Nat} (e : En) (h : σ n = none) : σ.le (σ.ext n e) := by
  intro m f hm
  by_cases hn : m = n
  · subst hn; rw [h] at hm; cases hm
  · simp [Emb.ext, hn, hm]

theorem HR.fresh {σ : Emb} {base : Nat} {g : Nat → Option Obj} {H : Array Obj} (h : HR σ base g H) {n : Nat} (hn : g n = none) : σ n = none := by
  cases e : σ n with
  | none => rfl
  | some x => obtain ⟨o, ho⟩ := h.dom n x e; rw [hn] at ho; cases ho

/-- A new block. -/
theorem HR.new {σ : Emb} {base : Nat} {g : Nat → Option Obj} {H : Array Obj} (h : HR σ base g H) {n : Nat} (hn : g n = none) {o O : Obj} (sf : Option (Nat × Nat × Nat))
    (ho : OR (σ.ext n ⟨H.size, 0, sf⟩) ⟨H.size, 0, sf⟩ o (some O)) (hro : ro o = false) :
    HR (σ.ext n ⟨H.size, 0, sf⟩) base (fun m => if n = m then some o else g m) (H.push O) := by
  have hle := Emb.ext_le (σ := σ) (n := n) ⟨H.size, 0, sf⟩ (h.fresh hn)
  have hat : ∀ k, k < H.size → (H.push O)[k]? = H[k]? := fun k hk => by rw [Array.getElem?_push, if_neg (by omega)]
  refine ⟨?_, ?_, ?_, ?_⟩
  · intro m e hm
    by_cases hnm : n = m
    · exact ⟨o, by simp [hnm]⟩
    · have : σ m = some e := by simpa [Emb.ext, Ne.symm hnm] using hm
      obtain ⟨p, hp⟩ := h.dom m e this
      exact ⟨p, by simp [hnm, hp]⟩
  · intro m p hm
    by_cases hnm : n = m
    · subst hnm
      simp at hm; subst hm
      refine ⟨⟨H.size, 0, sf⟩, Emb.ext_same _ _ _, fun _ => by rw [hro]; simpa using h.size, ?_⟩
      have : (H.push O)[H.size]? = some O := by simp
      rw [this]; exact ho
    · simp [hnm] at hm
      obtain ⟨e, a, b, c⟩ := h.ob m p hm
      refine ⟨e, hle _ _ a, b, ?_⟩
      by_cases ha : alive p = true
      · rw [hat _ (OR.lt ha c)]; exact c.mono hle
      · cases p <;> simp [alive] at ha; trivial
  · intro a b p q e f hab ha hb hp hq hrr he hf
    by_cases h1 : n = a
    · subst h1
      rw [Emb.ext_same] at he; cases he
      have h2 : n ≠ b := hab
      have hb' : g b = some q := by simpa [h2] using hb
      have hf' : σ b = some f := by simpa [Emb.ext, Ne.symm h2] using hf
      have := OR.lt hq (h.entry hb' hf').2
      exact .inl (by dsimp only; omega)
    · have ha' : g a = some p := by simpa [h1] using ha
      have he' : σ a = some e := by simpa [Emb.ext, Ne.symm h1] using he
      by_cases h2 : n = b
      · subst h2
        rw [Emb.ext_same] at hf; cases hf
        have := OR.lt hp (h.entry ha' he').2
        exact .inl (by dsimp only; omega)
      · have hb' : g b = some q := by simpa [h2] using hb
        have hf' : σ b = some f := by simpa [Emb.ext, Ne.symm h2] using hf
        exact h.apart a b p q e f hab ha' hb' hp hq hrr he' hf'
  · have := h.size; simp; omega

/-- An object that is written: its block alone changes, by what stands there, and in its own cells alone. -/
theorem HR.upd {σ : Emb} {base : Nat} {g : Nat → Option Obj} {H H' : Array Obj} (h : HR σ base g H) {n : Nat} {o o' : Obj} {e : En} (hn : g n = some o) (he : σ n = some e) (ha : alive o = true) (hro : ro o = false) (hro' : ro o' = false)
    (hsz : H'.size = H.size) (hother : ∀ k, k ≠ e.blk → H'[k]? = H[k]?) (ho' : OR σ e o' H'[e.blk]?)
    (hsame : ∀ c t fr d u fs, o = .cells c t fr → H[e.blk]? = some (.cells d u fs) → ∃ d', H'[e.blk]? = some (.cells d' u fs) ∧ d'.size = d.size ∧ (∀ i, (i < e.shift ∨ e.shift + ext e c.size ≤ i) → d'[i]? = d[i]?))
    (hext : ∀ c t fr, o = .cells c t fr → ∃ c' t' fr', o' = .cells c' t' fr' ∧ ext e c'.size = ext e c.size) :
    HR σ base (fun m => if n = m then some o' else g m) H' := by
  refine ⟨?_, ?_, ?_, by rw [hsz]; exact h.size⟩
  · intro m f hm
    obtain ⟨p, hp⟩ := h.dom m f hm
    by_cases hnm : n = m
    · exact ⟨o', by simp [hnm]⟩
    · exact ⟨p, by simp [hnm, hp]⟩
  · intro m p hm
    by_cases hnm : n = m
    · subst hnm
      simp at hm; subst hm
      exact ⟨e, he, fun _ => by have := (h.entry hn he).1 ha; rw [hro] at this; rw [hro']; exact this, ho'⟩
    · simp [hnm] at hm
      obtain ⟨f, a, b, c⟩ := h.ob m p hm
      refine ⟨f, a, b, ?_⟩
      by_cases hap : alive p = true
      · by_cases hb : f.blk = e.blk
        · rcases h.apart n m o p e f hnm hn hm ha hap (by rw [hro]; rfl) he a with x | ⟨c1, t1, fr1, c2, t2, fr2, rfl, rfl, hx⟩
          · exact absurd hb.symm x
          · obtain ⟨cs, t', fr, y1, y2, y3, y4, y5, y6⟩ := c
            rw [hb] at y1 ⊢
            obtain ⟨d', z1, z2, z3⟩ := hsame _ _ _ _ _ _ rfl y1
            refine ⟨d', t', fr, z1, by rw [z2]; exact y2, fun i x hi => ?_, y4, y5, y6⟩
            obtain ⟨x', v1, v2⟩ := y3 i x hi
            refine ⟨x', ?_, v2⟩
            have hlt : i < c2.size := lt_of_get? hi
            rw [z3 _ (by omega)]; exact v1
        · rw [hother _ hb]; exact c
      · cases p <;> simp [alive] at hap; trivial
  · intro a b p q x y hab hpa hpb hp hq hrr hx hy
    have key : ∀ m p f, m ≠ n → g m = some p → alive p = true → σ m = some f → Apart e o' f p := by
      intro m p f hm hp ha' hf
      rcases h.apart n m o p e f (Ne.symm hm) hn hp ha ha' (by rw [hro]; rfl) he hf with z | ⟨c1, t1, fr1, c2, t2, fr2, rfl, rfl, hz⟩
      · exact .inl z
      · obtain ⟨c', t', fr', rfl, hc'⟩ := hext _ _ _ rfl
        exact .inr ⟨_, _, _, _, _, _, rfl, rfl, by rw [hc']; exact hz⟩
    have sym : ∀ {e o f p}, Apart e o f p → Apart f p e o := by
      rintro e o f p (z | ⟨c1, t1, fr1, c2, t2, fr2, r1, r2, hz⟩)
      · exact .inl (Ne.symm z)
      · exact .inr ⟨_, _, _, _, _, _, r2, r1, hz.symm⟩
    by_cases h1 : n = a
    · subst h1
      simp at hpa; subst hpa
      have h2 : n ≠ b := hab
      rw [he] at hx; cases hx
      exact key b q y (Ne.symm h2) (by simpa [h2] using hpb) hq hy
    · have hpa' : g a = some p := by simpa [h1] using hpa
      by_cases h2 : n = b
      · subst h2
        simp at hpb; subst hpb
        rw [he] at hy; cases hy
        exact sym (key a p x (Ne.symm h1) hpa' hp hx)
      · exact h.apart a b p q x y hab hpa' (by simpa [h2] using hpb) hp hq hrr hx hy

/-- A row's end that is written becomes a row of its own; the elder name is nobody's. -/
theorem HR.graft {σ : Emb} {base : Nat} {g : Nat → Option Obj} {H H' : Array Obj} (h : HR σ base g H) {n n' : Nat} {c : Array Value} {t : TypeId} {f : Nat × Nat} {e : En} {esz sz tot : Nat}
    (hn : g n = some (.cells c t f)) (he : σ n = some e) (hs : e.soft = some (esz, sz, tot)) (hn' : g n' = none) {o wd : Nat} (hw : o + wd ≤ tot) {c' : Array Value} {t' : TypeId} {f' : Nat × Nat} {p0 : Obj} (hp0 : alive p0 = false) (hrf : roF f = false) (hrf' : roF f' = false)
    (hsz : H'.size = H.size) (hother : ∀ k, k ≠ e.blk → H'[k]? = H[k]?)
    (hsame : ∀ d u fs, H[e.blk]? = some (.cells d u fs) → ∃ d', H'[e.blk]? = some (.cells d' u fs) ∧ d'.size = d.size ∧ (∀ i, (i < e.shift ∨ e.shift + tot ≤ i) → d'[i]? = d[i]?))
    (ho' : OR (σ.ext n' ⟨e.blk, e.shift + o, some (esz, c'.size, wd)⟩) ⟨e.blk, e.shift + o, some (esz, c'.size, wd)⟩ (.cells c' t' f') H'[e.blk]?) :
    HR (σ.ext n' ⟨e.blk, e.shift + o, some (esz, c'.size, wd)⟩) base (fun m => if n' = m then some (.cells c' t' f') else if n = m then some p0 else g m) H' := by
  have hrf : ro (.cells c t f) = false := hrf
  have hrf' : ro (.cells c' t' f') = false := hrf'
  have hf := h.fresh hn'
  have hle := Emb.ext_le (σ := σ) (n := n') ⟨e.blk, e.shift + o, some (esz, c'.size, wd)⟩ hf
  have hnn : n ≠ n' := fun x => by subst x; rw [hn] at hn'; cases hn'
  have hext : ext e c.size = tot := by simp [ext, hs]
  have hdead : ∀ O, OR (σ.ext n' ⟨e.blk, e.shift + o, some (esz, c'.size, wd)⟩) e p0 O := by intro O; cases p0 <;> simp [alive] at hp0; trivial
  have sym : ∀ {e o f p}, Apart e o f p → Apart f p e o := by
    rintro e o f p (z | ⟨c1, t1, fr1, c2, t2, fr2, r1, r2, hz⟩)
    · exact .inl (Ne.symm z)
    · exact .inr ⟨_, _, _, _, _, _, r2, r1, hz.symm⟩
  refine ⟨?_, ?_, ?_, by rw [hsz]; exact h.size⟩
  · intro m x hm
    by_cases h1 : n' = m
    · exact ⟨_, by simp [h1]; rfl⟩
    · have hm' : σ m = some x := by simpa [Emb.ext, Ne.symm h1] using hm
      obtain ⟨p, hp⟩ := h.dom m x hm'
      by_cases h2 : n = m
      · exact ⟨p0, by simp [h1, h2]⟩
      · exact ⟨p, by simp [h1, h2, hp]⟩
  · intro m p hm
    by_cases h1 : n' = m
    · subst h1
      simp at hm; subst hm
      exact ⟨_, Emb.ext_same _ _ _, fun _ => by have := (h.entry hn he).1 rfl; rw [hrf] at this; rw [hrf']; exact this, ho'⟩
    · simp only [if_neg h1] at hm
      by_cases h2 : n = m
      · subst h2
        simp at hm; subst hm
        exact ⟨e, hle _ _ he, (fun x => by rw [hp0] at x; cases x), hdead _⟩
      · simp only [if_neg h2] at hm
        obtain ⟨x, a, b, k⟩ := h.ob m p hm
        refine ⟨x, hle _ _ a, b, ?_⟩
        by_cases hap : alive p = true
        · by_cases hb : x.blk = e.blk
          · rcases h.apart n m _ p e x h2 hn hm rfl hap (by rw [hrf]; rfl) he a with z | ⟨c1, t1, fr1, c2, t2, fr2, r1, rfl, hx⟩
            · exact absurd hb.symm z
            · cases r1
              rw [hext] at hx
              obtain ⟨cs, u, fr, y1, y2, y3, y4, y5, y6⟩ := k
              rw [hb] at y1 ⊢
              obtain ⟨d', z1, z2, z3⟩ := hsame _ _ _ y1
              refine ⟨d', u, fr, z1, by rw [z2]; exact y2, fun i v hi => ?_, y4, y5, y6⟩
              obtain ⟨v', v1, v2⟩ := y3 i v hi
              have hlt : i < c2.size := lt_of_get? hi
              exact ⟨v', by rw [z3 _ (by omega)]; exact v1, v2.mono hle⟩
          · rw [hother _ hb]; exact k.mono hle
        · cases p <;> simp [alive] at hap; trivial
  · have key : ∀ m p x, n' ≠ m → n ≠ m → g m = some p → alive p = true → σ m = some x → Apart ⟨e.blk, e.shift + o, some (esz, c'.size, wd)⟩ (.cells c' t' f') x p := by
      intro m p x h1 h2 hp ha hx
      rcases h.apart n m _ p e x h2 hn hp rfl ha (by rw [hrf]; rfl) he hx with z | ⟨c1, t1, fr1, c2, t2, fr2, r1, rfl, hz⟩
      · exact .inl z
      · cases r1
        rw [hext] at hz
        refine .inr ⟨_, _, _, _, _, _, rfl, rfl, ?_⟩
        simp only [ext]
        simp only [ext] at hz
        omega
    intro a b p q x y hab hpa hpb hp hq hrr hx hy
    by_cases h1 : n' = a
    · subst h1
      simp at hpa; subst hpa
      rw [Emb.ext_same] at hx; cases hx
      have h2 : n' ≠ b := hab
      simp only [if_neg h2] at hpb
      have hy' : σ b = some y := by simpa [Emb.ext, Ne.symm h2] using hy
      by_cases h3 : n = b
      · subst h3; simp at hpb; subst hpb; rw [hp0] at hq; cases hq
      · simp only [if_neg h3] at hpb
        exact key b q y h2 h3 hpb hq hy'
    · simp only [if_neg h1] at hpa
      have hx' : σ a = some x := by simpa [Emb.ext, Ne.symm h1] using hx
      by_cases h2 : n = a
      · subst h2; simp at hpa; subst hpa; rw [hp0] at hp; cases hp
      · simp only [if_neg h2] at hpa
        by_cases h3 : n' = b
        · subst h3
          simp at hpb; subst hpb
          rw [Emb.ext_same] at hy; cases hy
          exact sym (key a p x h1 h2 hpa hp hx')
        · simp only [if_neg h3] at hpb
          have hy' : σ b = some y := by simpa [Emb.ext, Ne.symm h3] using hy
          by_cases h4 : n = b
          · subst h4; simp at hpb; subst hpb; rw [hp0] at hq; cases hq
          · simp only [if_neg h4] at hpb
            exact h.apart a b p q x y hab hpa hpb hp hq hrr hx' hy'

/-- A name that nobody may look at any more. -/
theorem HR.kill {σ : Emb} {base : Nat} {g : Nat → Option Obj} {H : Array Obj} (h : HR σ base g H) {n : Nat} {o : Obj} (hn : g n = some o) (c : Array Value) (t : TypeId) :
    HR σ base (fun m => if n = m then some (.pending c t) else g m) H := by
  refine ⟨?_, ?_, ?_, h.size⟩
  · intro m f hm
    obtain ⟨p, hp⟩ := h.dom m f hm
    by_cases hnm : n = m
    · exact ⟨_, by simp [hnm]; rfl⟩
    · exact ⟨p, by simp [hnm, hp]⟩
  · intro m p hm
    by_cases hnm : n = m
    · subst hnm
      simp at hm; subst hm
      obtain ⟨e, a, _, _⟩ := h.ob n o hn
      exact ⟨e, a, fun x => by simp [alive] at x, trivial⟩
    · simp [hnm] at hm; exact h.ob m p hm
  · intro a b p q x y hab hpa hpb hp hq hrr hx hy
    by_cases h1 : n = a
    · subst h1; simp at hpa; subst hpa; simp [alive] at hp
    · by_cases h2 : n = b
      · subst h2; simp at hpb; subst hpb; simp [alive] at hq
      · exact h.apart a b p q x y hab (by simpa [h1] using hpa) (by simpa [h2] using hpb) hp hq hrr hx hy

end Go.Ev

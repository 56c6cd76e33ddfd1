/- The machine's frames over a heap of names; single steps. No condition. -/
import Derived.Test.YtpfnoffadfahmaaGreatEvL
namespace Go.Ev
set_option linter.unusedVariables false
set_option linter.unusedSimpArgs false
open Go Go.RowKit

structure AF where
  fn : FuncId
  tmps : List Value
  todo : List Item
  defers : List Deferred
  mode : FrameMode
  kind : CallKind
  rnd : Option Nat

section
variable {P : Program} {w0 : World} {σ : Emb} {h : T} {w : World}

inductive ItemR (σ : Emb) : Item → Item → Prop
  | code (c : Code) : ItemR σ (.code c) (.code c)
  | inBlock (i : Nat) : ItemR σ (.inBlock i) (.inBlock i)
  | inLoop (c : Code) : ItemR σ (.inLoop c) (.inLoop c)
  | inScope (c : Code) : ItemR σ (.inScope c) (.inScope c)
  | inRegion (ops : Array Oper) (l : List Nat) : ItemR σ (.inRegion ops l) (.inRegion ops l)
  | beginRound : ItemR σ .beginRound .beginRound
  | inRange (l : Nat) (e : En) (he : σ l = some e) : ItemR σ (.inRangeFunc l) (.inRangeFunc e.blk)
  | endRange (l : Nat) (e : En) (he : σ l = some e) : ItemR σ (.endRangeFunc l) (.endRangeFunc e.blk)
theorem ItemR.mono {τ : Emb} (hl : σ.le τ) {a b : Item} (k : ItemR σ a b) : ItemR τ a b := by
  cases k with
  | inRange l e he => exact .inRange l e (hl _ _ he)
  | endRange l e he => exact .endRange l e (hl _ _ he)
  | code c => exact .code c
  | inBlock c => exact .inBlock c
  | inLoop c => exact .inLoop c
  | inScope c => exact .inScope c
  | inRegion a b => exact .inRegion a b
  | beginRound => exact .beginRound
inductive TodoR (σ : Emb) : List Item → List Item → Prop
  | nil : TodoR σ [] []
  | cons {a b : Item} {as bs : List Item} (h : ItemR σ a b) (t : TodoR σ as bs) : TodoR σ (a :: as) (b :: bs)
theorem TodoR.mono {τ : Emb} (hl : σ.le τ) {a b : List Item} (k : TodoR σ a b) : TodoR τ a b := by
  induction k with
  | nil => exact .nil
  | cons h _ ih => exact .cons (h.mono hl) ih

inductive ChainR (σ : Emb) : List PanicEntry → List PanicEntry → Prop
  | nil : ChainR σ [] []
  | cons {a b : PanicEntry} {as bs : List PanicEntry} (hv : VR σ a.v b.v) (hr : b.recovered = a.recovered) (hg : b.goexit = a.goexit) (t : ChainR σ as bs) : ChainR σ (a :: as) (b :: bs)
theorem ChainR.mono {τ : Emb} (hl : σ.le τ) {a b : List PanicEntry} (k : ChainR σ a b) : ChainR τ a b := by
  induction k with
  | nil => exact .nil
  | cons hv hr hg _ ih => exact .cons (hv.mono hl) hr hg ih
theorem ChainR.append {a b c d : List PanicEntry} (h : ChainR σ a b) (k : ChainR σ c d) : ChainR σ (a ++ c) (b ++ d) := by
  induction h with
  | nil => exact k
  | cons hv hr hg _ ih => exact .cons hv hr hg ih
inductive ModeR (σ : Emb) : FrameMode → FrameMode → Prop
  | run : ModeR σ .run .run
  | returning : ModeR σ .returning .returning
  | panicking {c d : List PanicEntry} (h : ChainR σ c d) : ModeR σ (.panicking c) (.panicking d)
theorem ModeR.mono {τ : Emb} (hl : σ.le τ) {a b : FrameMode} (k : ModeR σ a b) : ModeR τ a b := by
  cases k with
  | run => exact .run
  | returning => exact .returning
  | panicking h => exact .panicking (h.mono hl)
noncomputable def RndR (σ : Emb) : Option Nat → Option Nat → Prop
  | none, none => True
  | some l, some m => ∃ e, σ l = some e ∧ m = e.blk
  | _, _ => False
theorem RndR.mono {τ : Emb} (hl : σ.le τ) {a b : Option Nat} (k : RndR σ a b) : RndR τ a b := by
  cases a <;> cases b <;> first | exact k | exact k.imp fun e he => ⟨hl _ _ he.1, he.2⟩

structure FR (σ : Emb) (a : AF) (f : Frame) : Prop where
  fn : f.fn = a.fn
  tmps : VRs σ a.tmps f.tmps.toList
  todo : TodoR σ a.todo f.todo
  defers : DfR σ a.defers f.defers
  mode : ModeR σ a.mode f.mode
  kind : f.kind = a.kind
  rnd : RndR σ a.rnd f.roundOf
theorem FR.mono {τ : Emb} (hl : σ.le τ) {a : AF} {f : Frame} (k : FR σ a f) : FR τ a f :=
  ⟨k.fn, k.tmps.mono hl, k.todo.mono hl, k.defers.mono hl, k.mode.mono hl, k.kind, k.rnd.mono hl⟩

inductive CR (σ : Emb) : List AF → List Frame → Prop
  | nil : CR σ [] []
  | cons {a : AF} {f : Frame} {as : List AF} {fs : List Frame} (h : FR σ a f) (t : CR σ as fs) : CR σ (a :: as) (f :: fs)
theorem CR.mono {τ : Emb} (hl : σ.le τ) {a : List AF} {b : List Frame} (k : CR σ a b) : CR τ a b := by
  induction k with
  | nil => exact .nil
  | cons h _ ih => exact .cons (h.mono hl) ih

/-! ### operands -/
noncomputable def aev (tmps : List Value) : Operand → Value
  | .tmp t => (nth tmps t).getD undef
  | .const v => v
  | .func f => .func (.func f) #[] #[]
  | .global _ => undef
noncomputable def okOperand : Operand → Bool
  | .tmp _ => true
  | .const v => plain1 v
  | .func _ => true
  | .global _ => false

theorem VRs.getD {l : List Value} {a : Array Value} (hv : VRs σ l a.toList) (t : Nat) : VR σ ((nth l t).getD undef) (a.getD t undef) := by
  rw [nth_eq]
  cases hx : l[t]? with
  | none =>
    have : a[t]? = none := by
      have h1 : l.length ≤ t := List.getElem?_eq_none_iff.1 hx
      have h2 := hv.length
      simp at h2 ⊢; omega
    simp [this]
    exact .of_tuple .nil
  | some x =>
    obtain ⟨x', h1, h2⟩ := hv.get t x hx
    have : a[t]? = some x' := by simpa using h1
    simp [this]; exact h2

theorem FR.eval {a : AF} {f : Frame} (k : FR σ a f) {x : Operand} (hx : okOperand x = true) : VR σ (aev a.tmps x) (f.eval x) := by
  cases x with
  | tmp t => exact k.tmps.getD t
  | const v => exact .of_plain1 hx
  | func g => exact .func _ _ _ _ _ _ (.same _ (fun l e => by cases e)) rfl (fun i x x' a _ => by simp at a) rfl (fun i x x' a _ => by simp at a)
  | global g => cases hx

noncomputable def okOper (o : Oper) : Bool := o.op.operands.toList.all okOperand

/-- Whether a guarded operation runs. -/
noncomputable def ayields (ops : Array Oper) (tmps : List Value) (j : Nat) : Option Bool :=
  match ops[j]? with
  | some o => match o.dst with
    | some d => match nth tmps d with
      | some (.bool b) => some b
      | _ => none
    | none => none
  | none => none
theorem ayields_eq {ops : Array Oper} {l : List Value} {a : Array Value} (hv : VRs σ l a.toList) (j : Nat) : yielded ops a j = ayields ops l j := by
  unfold yielded ayields
  cases ho : ops[j]? with
  | none => rfl
  | some o =>
    simp only [Option.bind_some]
    cases hd : o.dst with
    | none => rfl
    | some d =>
      simp only [Option.bind_some, nth_eq]
      cases hx : l[d]? with
      | none =>
        have : a[d]? = none := by
          have h1 : l.length ≤ d := List.getElem?_eq_none_iff.1 hx
          have h2 := hv.length
          simp at h2 ⊢; omega
        rw [this]
      | some x =>
        obtain ⟨x', h1, h2⟩ := hv.get d x hx
        have : a[d]? = some x' := by simpa using h1
        rw [this]
        cases h2 <;> rfl
noncomputable def awanted (ops : Array Oper) (tmps : List Value) (o : Oper) : Bool :=
  match o.guard with
  | none => true
  | some (j, want) => match ayields ops tmps j with
    | some b => b == want
    | none => false
theorem awanted_eq {ops : Array Oper} {l : List Value} {a : Array Value} (hv : VRs σ l a.toList) (o : Oper) : Region.wanted o (yielded ops a) = awanted ops l o := by
  unfold Region.wanted awanted
  cases o.guard with
  | none => rfl
  | some p =>
    obtain ⟨j, want⟩ := p
    simp only [ayields_eq hv]
    cases ayields ops l j with
    | none => rfl
    | some b => cases b <;> cases want <;> rfl

noncomputable def setL (l : List Value) (v : Value) : Nat → List Value :=
  List.rec (motive := fun _ => Nat → List Value) (fun _ => []) (fun x l ih n => Nat.rec (motive := fun _ => List Value) (v :: l) (fun m _ => x :: ih m) n) l
theorem setL_eq (v : Value) : ∀ (l : List Value) (n : Nat), setL l v n = l.set n v
  | [], _ => rfl
  | _ :: _, 0 => rfl
  | x :: l, n + 1 => congrArg (x :: ·) (setL_eq v l n)
noncomputable def aput' (tmps : List Value) : Option Tmp → Value → List Value
  | some d, v => setL tmps v d
  | none, _ => tmps
theorem VRs.set {l l' : List Value} (hv : VRs σ l l') {v v' : Value} (hx : VR σ v v') : ∀ (d : Nat), VRs σ (l.set d v) (l'.set d v') := by
  induction hv with
  | nil => intro d; exact .nil
  | cons h t ih =>
    intro d
    cases d with
    | zero => exact .cons hx t
    | succ d => exact .cons h (ih d)
theorem VRs.put {l : List Value} {a : Array Value} (hv : VRs σ l a.toList) {v v' : Value} (hx : VR σ v v') (d : Option Tmp) :
    VRs σ (aput' l d v) (match d with | some d => a.setIfInBounds d v' | none => a).toList := by
  cases d with
  | none => exact hv
  | some d => simp only [aput', setL_eq, Array.toList_setIfInBounds]; exact hv.set hx d
theorem VR.undef : VR σ Go.undef Go.undef := .of_tuple .nil

/-! ### what a frame goes on with -/
noncomputable def AF.finish (a : AF) (v : Value) : AF :=
  match a.todo with
  | .inRegion ops (i :: rest) :: k => { a with tmps := aput' a.tmps ((ops[i]?).bind (·.dst)) v, todo := .inRegion ops rest :: k }
  | .inRangeFunc l :: k => { a with todo := .endRangeFunc l :: k }
  | .beginRound :: k => { a with todo := k }
  | _ => a
theorem FR.finish {a : AF} {f : Frame} (k : FR σ a f) {v v' : Value} (hv : VR σ v v') : FR σ (a.finish v) (f.finish v') := by
  obtain ⟨fn, tmps, todo, defers, mode, kind, rnd⟩ := a
  obtain ⟨fn', tmps', todo', defers', mode', kind', rnd'⟩ := f
  obtain ⟨h1, h2, h3, h4, h5, h6, h7⟩ := k
  dsimp only at h1 h2 h3 h4 h5 h6 h7
  cases h3 with
  | nil => exact ⟨h1, h2, .nil, h4, h5, h6, h7⟩
  | cons hi ht =>
    cases hi with
    | inRegion ops l =>
      cases l with
      | nil => exact ⟨h1, h2, .cons (.inRegion _ _) ht, h4, h5, h6, h7⟩
      | cons i rest =>
        refine ⟨h1, ?_, .cons (.inRegion _ _) ht, h4, h5, h6, h7⟩
        exact h2.put hv _
    | inRange l e he => exact ⟨h1, h2, .cons (.endRange l e he) ht, h4, h5, h6, h7⟩
    | beginRound => exact ⟨h1, h2, ht, h4, h5, h6, h7⟩
    | code c => exact ⟨h1, h2, .cons (.code c) ht, h4, h5, h6, h7⟩
    | inBlock c => exact ⟨h1, h2, .cons (.inBlock c) ht, h4, h5, h6, h7⟩
    | inLoop c => exact ⟨h1, h2, .cons (.inLoop c) ht, h4, h5, h6, h7⟩
    | inScope c => exact ⟨h1, h2, .cons (.inScope c) ht, h4, h5, h6, h7⟩
    | endRange l e he => exact ⟨h1, h2, .cons (.endRange l e he) ht, h4, h5, h6, h7⟩

noncomputable def AF.raise (a : AF) (vs : List PanicEntry) : AF :=
  match a.mode with
  | .panicking chain => { a with mode := .panicking (vs ++ chain) }
  | _ => { a with mode := .panicking vs }
theorem FR.raise {a : AF} {f : Frame} (k : FR σ a f) {c d : List PanicEntry} (hc : ChainR σ c d) : FR σ (a.raise c) (f.raise d) := by
  obtain ⟨fn, tmps, todo, defers, mode, kind, rnd⟩ := a
  obtain ⟨fn', tmps', todo', defers', mode', kind', rnd'⟩ := f
  obtain ⟨h1, h2, h3, h4, h5, h6, h7⟩ := k
  dsimp only at h1 h2 h3 h4 h5 h6 h7
  cases h5 with
  | run => exact ⟨h1, h2, h3, h4, .panicking hc, h6, h7⟩
  | returning => exact ⟨h1, h2, h3, h4, .panicking hc, h6, h7⟩
  | panicking hd => exact ⟨h1, h2, h3, h4, .panicking (hc.append hd), h6, h7⟩

/-- A called function's frame. -/
noncomputable def AF.enter (P : Program) (f : FuncId) (args : List Value) (kind : CallKind) : Option AF :=
  match P.funcs[f]? with
  | some fn => match fn.body with
    | some c => some { fn := f, tmps := args ++ List.replicate (fn.ntmps - args.length) undef, todo := [.code c], defers := [], mode := .run, kind, rnd := none }
    | none => none
  | none => none
theorem FR.enter {f : FuncId} {args : List Value} {args' : Array Value} (ha : VRs σ args args'.toList) {kind : CallKind} {a : AF} (he : AF.enter P f args kind = some a) : FR σ a (Frame.enter P f args' kind) := by
  unfold AF.enter at he
  split at he
  · rename_i fn hf
    split at he
    · rename_i c hc
      obtain rfl := Option.some.inj he
      have hl := ha.length
      simp only [Array.length_toList] at hl
      refine ⟨rfl, ?_, ?_, .nil, .run, rfl, trivial⟩
      · simp only [Frame.enter, hf, Option.map_some, Option.getD_some, Array.toList_append, Array.toList_replicate, hl]
        refine ha.append ?_
        generalize fn.ntmps - args.length = n
        induction n with
        | zero => exact .nil
        | succ n ih => rw [List.replicate_succ]; exact .cons VR.undef ih
      · simp only [Frame.enter, hf, Option.bind_some, hc, Option.getD_some]
        exact .cons (.code c) .nil
    · cases he
  · cases he

/-! ### jumps -/
theorem TodoR.exitTo {a b : List Item} (k : TodoR σ a b) (id : Nat) : (Go.exitTo id a = none ∧ Go.exitTo id b = none) ∨ ∃ a' b', Go.exitTo id a = some a' ∧ Go.exitTo id b = some b' ∧ TodoR σ a' b' := by
  induction k with
  | nil => exact .inl ⟨rfl, rfl⟩
  | cons hi ht ih =>
    cases hi with
    | inBlock i =>
      simp only [Go.exitTo]
      cases hb : (i == id)
      · simpa using ih
      · exact .inr ⟨_, _, rfl, rfl, ht⟩
    | _ => simpa [Go.exitTo] using ih
theorem TodoR.gotoIn {a b : List Item} (k : TodoR σ a b) (l : Nat) : (Go.gotoIn l a = none ∧ Go.gotoIn l b = none) ∨ ∃ a' b', Go.gotoIn l a = some a' ∧ Go.gotoIn l b = some b' ∧ TodoR σ a' b' := by
  induction k with
  | nil => exact .inl ⟨rfl, rfl⟩
  | cons hi ht ih =>
    cases hi with
    | inScope c =>
      simp only [Go.gotoIn]
      cases hb : findLabel c l with
      | none => simpa using ih
      | some r => exact .inr ⟨_, _, rfl, rfl, .cons (.code r) (.cons (.inScope c) ht)⟩
    | _ => simpa [Go.gotoIn] using ih

end
end Go.Ev

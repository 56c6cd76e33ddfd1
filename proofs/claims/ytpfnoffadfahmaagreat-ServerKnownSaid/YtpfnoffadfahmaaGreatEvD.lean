/- Single operations, over a heap of names, beside the model's: values, variables, structs. No condition. -/
import Derived.Test.YtpfnoffadfahmaaGreatEvC
import Derived.Orders
namespace Go.Ev
set_option linter.unusedVariables false
set_option linter.unusedSimpArgs false
open Go Go.RowKit

/-! ### what asks nothing but the program's tables -/
noncomputable def pureRun (P : Program) {α : Type} (s : Sem α) : Option α :=
  Sem.rec (motive := fun _ => Option α) (fun a => some a) (fun _ _ _ _ => none) (fun _ _ _ _ _ => none) (fun _ _ _ => none) (fun _ _ _ => none) (fun _ _ _ _ => none) (fun _ _ _ => none)
    (fun _ _ _ => none) (fun _ _ _ _ => none) (fun _ _ _ => none) (fun _ _ _ => none) (fun _ ih => ih P) (fun _ _ ih => ih) (fun _ => none) s

theorem run_of_pureRun {P : Program} {α : Type} {s : Sem α} {a : α} (w : World) (h : pureRun P s = some a) : s.run P w = .ok a w := by
  induction s with
  | pure b => cases h; rfl
  | program k ih => exact ih P h
  | mark m k ih => exact ih h
  | _ => cases h

noncomputable def plain1 : Value → Bool
  | .bool _ | .int .. | .string _ | .pointer none | .slice none 0 0 | .map none | .nilFunc | .nilIface => true
  | .func (.func _) xs ys => xs.toList.isEmpty && ys.toList.isEmpty
  | _ => false
noncomputable def plainV : Value → Bool
  | .agg c => c.toList.all plain1
  | .iface _ v => plain1 v
  | .tuple c => c.toList.all fun | .agg c => c.toList.all plain1 | v => plain1 v
  | v => plain1 v

section
variable {P : Program} {w0 : World} {σ : Emb} {h : T} {w : World}

theorem VR.plain1 {v v' : Value} (hp : Ev.plain1 v = true) (k : VR σ v v') : v' = v := by
  cases k <;> first | rfl | (simp [Ev.plain1] at hp; done) | skip
  case func f f' xs xs' ys ys' hf hx hxs hy hys =>
    cases f with
    | func n =>
      simp only [Ev.plain1, Bool.and_eq_true, List.isEmpty_iff] at hp
      obtain ⟨a, b⟩ := hp
      cases hf
      have h1 : xs = #[] := by cases xs; simp_all
      have h2 : ys = #[] := by cases ys; simp_all
      subst h1; subst h2
      have h3 : xs' = #[] := Array.eq_empty_of_size_eq_zero (by simpa using hx)
      have h4 : ys' = #[] := Array.eq_empty_of_size_eq_zero (by simpa using hy)
      rw [h3, h4]
    | _ => simp [Ev.plain1] at hp

theorem VR.of_plain1 {v : Value} (hp : Ev.plain1 v = true) : VR σ v v := by
  cases v with
  | bool b => exact .bool b
  | int k n => exact .int k n
  | string s => exact .string s
  | pointer a => cases a with | none => exact .ptrNil | some a => simp [Ev.plain1] at hp
  | slice a l c => cases a with
    | none =>
      cases l with
      | zero => cases c with
        | zero => exact .sliceNil
        | succ c => simp [Ev.plain1] at hp
      | succ l => simp [Ev.plain1] at hp
    | some a => simp [Ev.plain1] at hp
  | map a => cases a with | none => exact .mapNil | some a => simp [Ev.plain1] at hp
  | nilFunc => exact .nilFunc
  | nilIface => exact .nilIface
  | func f xs ys =>
    cases f with
    | func n =>
      simp only [Ev.plain1, Bool.and_eq_true, List.isEmpty_iff] at hp
      have h1 : xs = #[] := by cases xs; simp_all
      have h2 : ys = #[] := by cases ys; simp_all
      subst h1; subst h2
      exact .func _ _ _ _ _ _ (.same _ (fun l e => by cases e)) rfl (fun i x x' a _ => by simp at a) rfl (fun i x x' a _ => by simp at a)
    | _ => simp [Ev.plain1] at hp
  | _ => simp [Ev.plain1] at hp

theorem VRs.plain {xs : List Value} (hp : xs.all Ev.plain1 = true) {xs' : List Value} (k : VRs σ xs xs') : xs' = xs := by
  induction k with
  | nil => rfl
  | cons hx _ ih =>
    simp only [List.all_cons, Bool.and_eq_true] at hp
    rw [ih hp.2, VR.plain1 hp.1 hx]
theorem VRs.of_plain : ∀ {xs : List Value}, xs.all Ev.plain1 = true → VRs σ xs xs
  | [], _ => .nil
  | x :: xs, hp => by
    simp only [List.all_cons, Bool.and_eq_true] at hp
    exact .cons (.of_plain1 hp.1) (VRs.of_plain hp.2)

theorem VRs.plain2 {xs : List Value} (hp : (xs.all fun | .agg c => c.toList.all Ev.plain1 | v => Ev.plain1 v) = true) {xs' : List Value} (k : VRs σ xs xs') : xs' = xs := by
  induction k with
  | nil => rfl
  | @cons x x' xs xs' hx _ ih =>
    simp only [List.all_cons, Bool.and_eq_true] at hp
    rw [ih hp.2]
    congr 1
    cases x with
    | agg c =>
      obtain ⟨c', rfl, q⟩ := hx.agg_inv
      have := VRs.plain hp.1 q
      cases c; cases c'; simp at this; rw [this]
    | _ => exact VR.plain1 hp.1 hx
theorem VRs.of_plain2 : ∀ {xs : List Value}, (xs.all fun | .agg c => c.toList.all Ev.plain1 | v => Ev.plain1 v) = true → VRs σ xs xs
  | [], _ => .nil
  | x :: xs, hp => by
    simp only [List.all_cons, Bool.and_eq_true] at hp
    refine .cons ?_ (VRs.of_plain2 hp.2)
    cases x with
    | agg c => exact .of_agg (VRs.of_plain hp.1)
    | _ => exact .of_plain1 hp.1

theorem VR.plain {v v' : Value} (hp : plainV v = true) (k : VR σ v v') : v' = v := by
  cases v with
  | agg c =>
    obtain ⟨c', rfl, q⟩ := k.agg_inv
    have := VRs.plain hp q
    cases c; cases c'; simp at this; rw [this]
  | tuple c =>
    obtain ⟨c', rfl, q⟩ := k.tuple_inv
    have := VRs.plain2 hp q
    cases c; cases c'; simp at this; rw [this]
  | iface t v =>
    cases k with | iface _ _ v' q => rw [VR.plain1 hp q]
  | _ => exact VR.plain1 hp k

theorem VR.of_plain {v : Value} (hp : plainV v = true) : VR σ v v := by
  cases v with
  | agg c => exact .of_agg (VRs.of_plain hp)
  | tuple c => exact .of_tuple (VRs.of_plain2 hp)
  | iface t v => exact .iface t _ _ (VR.of_plain1 hp)
  | _ => exact VR.of_plain1 hp

/-! ### what an operation comes to -/
inductive NR (σ : Emb) : Next → Next → Prop
  | value {v v' : Value} (h : VR σ v v') : NR σ (.value v) (.value v')
  | skip : NR σ .skip .skip
  | enter (f : FuncId) {a a' : Array Value} (h : VRs σ a.toList a'.toList) : NR σ (.enter f a) (.enter f a')
  | defer {d d' : Deferred} (ht : TgR σ d.target d'.target) (ha : VRs σ d.args.toList d'.args.toList) : NR σ (.defer d) (.defer d')
  | recover : NR σ .recover .recover
  | round (l : Nat) (e : En) (he : σ l = some e) (f : FuncId) {t t' : Array Value} (h : VRs σ t.toList t'.toList) (a b : Code) : NR σ (.round l f t a b) (.round e.blk f t' a b)

theorem Sim.val {A : M Value} {S : Sem Value} (hA : Sim P w0 σ h w A S VR) : Sim P w0 σ h w (fun k => A (fun v => k (.value v))) (do return (Next.value (← S))) NR :=
  hA.bind fun _ _ _ _ _ _ st hR => Sim.pure st (.value hR)
theorem Sim.skp {α : Type} {A : M Unit} {S : Sem α} {R : Emb → Unit → α → Prop} (hA : Sim P w0 σ h w A S R) : Sim P w0 σ h w (fun k => A (fun _ => k .skip)) (do let _ ← S; return Next.skip) NR :=
  hA.bind fun _ _ _ _ _ _ st _ => Sim.pure st .skip

/-- An operation on values that lead nowhere: the model's own program. -/
noncomputable def aplain (P : Program) (ρ : Operand → Value) (o : Oper) : M Next := fun k s =>
  bif o.op.operands.toList.all (fun x => plainV (ρ x)) then
    match pureRun P (execOp ρ o) with
    | some (.value v) => bif plainV v then k (.value v) s else .fail
    | _ => .fail
  else .fail

theorem Sim.plain (st : St σ w0 h w) {ρ ρ' : Operand → Value} {o : Oper} (hs : ∀ cs b, o.op ≠ .select cs b) (hρ : ∀ x ∈ o.op.operands, VR σ (ρ x) (ρ' x)) : Sim P w0 σ h w (aplain P ρ o) (execOp ρ' o) NR := by
  refine Sim.guard (A := (fun k s => match pureRun P (execOp ρ o) with | some (.value v) => bif plainV v then k (.value v) s else .fail | _ => .fail : M Next)) (fun hp => ?_)
  have he : execOp ρ' o = execOp ρ o := execOp_congr o hs fun x hx => (hρ x hx).plain (List.all_eq_true.1 hp x (Array.mem_toList_iff.2 hx))
  rw [he]
  intro k s r e
  dsimp only at e
  split at e
  · rename_i v hv
    cases hpv : plainV v with
    | false => rw [hpv] at e; cases e
    | true =>
      rw [hpv] at e
      exact ⟨_, s, h, e, _, w, σ, run_of_pureRun w hv, .refl _, st, .value (.of_plain hpv)⟩
  · cases e

/-! ### variables -/
theorem run_und {t : TypeId} {d : TypeDesc} (hd : P.underlying t = some d) : (underlying t).run P w = .ok d w := by simp [underlying, hd]
theorem run_inf {t : TypeId} {i : TypeInfo} (hi : P.info? t = some i) : (typeInfo t).run P w = .ok i w := by simp [typeInfo, hi]

/-- Is it a struct or an array; how many cells. -/
noncomputable def aggT (P : Program) (t : TypeId) : Option (Bool × Nat) :=
  match P.underlying t, P.info? t with
  | some (.struct _), some i | some (.array _ _), some i => some (true, i.size)
  | some _, some i => some (false, i.size)
  | _, _ => none

theorem run_isAgg {t : TypeId} {b : Bool} {n : Nat} (ht : aggT P t = some (b, n)) : (isAgg t).run P w = .ok b w ∧ (sizeOf t).run P w = .ok n w := by
  unfold aggT at ht
  cases hd : P.underlying t with
  | none => rw [hd] at ht; simp at ht
  | some d =>
    cases hi : P.info? t with
    | none => rw [hd, hi] at ht; cases d <;> simp at ht
    | some i =>
      rw [hd, hi] at ht
      refine ⟨?_, ?_⟩
      · unfold isAgg
        simp only [Sem.run_bind, run_und hd, Result.andThen_ok]
        cases d <;> simp at ht <;> (obtain ⟨rfl, _⟩ := ht; rfl)
      · unfold sizeOf
        simp only [Sem.run_bind, run_inf hi, Result.andThen_ok]
        have : i.size = n := by cases d <;> simp at ht <;> exact ht.2
        rw [this]; rfl

noncomputable def aloadVar (P : Program) (t : TypeId) (n off : Nat) : M Value := fun k s =>
  match aggT P t with
  | some (true, z) => acells n off z (fun l => k (.agg ⟨l⟩)) s
  | some (false, _) => aload n off k s
  | none => .fail

theorem Sim.loadVar (st : St σ w0 h w) {t : TypeId} {n off : Nat} {e : En} (he : σ n = some e) : Sim P w0 σ h w (aloadVar P t n off) (loadVar t ⟨e.blk, e.shift + off, none⟩) VR := by
  unfold aloadVar
  cases ht : aggT P t with
  | none => exact Sim.fail
  | some p =>
    obtain ⟨b, z⟩ := p
    obtain ⟨r1, r2⟩ := run_isAgg (w := w) ht
    cases b with
    | true =>
      refine Sim.congr (S := do return (.agg (← loadCells ⟨e.blk, e.shift + off, none⟩ z))) ((Sim.cells st he).bind (F := fun l => (fun k => k (.agg ⟨l⟩) : M Value)) fun l a σ' h' w' _ st' hl => Sim.pure st' (.of_agg hl.1)) ?_
      simp [Go.loadVar, r1, r2]
    | false =>
      refine Sim.congr (Sim.load st he .plain) ?_
      simp [Go.loadVar, r1]

noncomputable def astoreVar (P : Program) (t : TypeId) (n off : Nat) (v : Value) : M Unit := fun k s =>
  match P.info? t with
  | some i => bif Nat.beq v.cells.size i.size then aput n off v.cells.toList k s else .fail
  | none => .fail

theorem Sim.storeVar (st : St σ w0 h w) {t : TypeId} {n off : Nat} {e : En} (he : σ n = some e) {v v' : Value} (hv : VR σ v v') :
    Sim P w0 σ h w (astoreVar P t n off v) (storeVar t ⟨e.blk, e.shift + off, none⟩ v') (fun _ _ _ => True) := by
  unfold astoreVar
  cases hi : P.info? t with
  | none => exact Sim.fail
  | some i =>
    refine Sim.guard (A := fun k s => aput n off v.cells.toList k s) (fun hg => ?_)
    have hz : v.cells.size = i.size := Nat.eq_of_beq_eq_true hg
    have hz' : v'.cells.size = i.size := by rw [← hz]; exact hv.cells.arr.1
    refine Sim.congr (Sim.put st he hv.cells) ?_
    simp [Go.storeVar, Go.sizeOf, run_inf hi, hz']

noncomputable def aaddr : Value → Option (Nat × Nat)
  | .pointer (some ⟨n, o, none⟩) => some (n, o)
  | _ => none
theorem VR.addr {v v' : Value} (k : VR σ v v') {n o : Nat} (hv : aaddr v = some (n, o)) : ∃ e, σ n = some e ∧ v' = .pointer (some ⟨e.blk, e.shift + o, none⟩) := by
  cases k <;> simp [aaddr] at hv
  obtain ⟨rfl, rfl⟩ := hv
  exact ⟨_, by assumption, rfl⟩

noncomputable def aloadAt (P : Program) (t : TypeId) (x : Value) : M Value := fun k s => match aaddr x with
  | some (n, o) => aloadVar P t n o k s
  | none => .fail
theorem Sim.loadAt (st : St σ w0 h w) {t : TypeId} {x x' : Value} (hx : VR σ x x') : Sim P w0 σ h w (aloadAt P t x) (Instr.loadAt t x') VR := by
  unfold aloadAt
  cases ha : aaddr x with
  | none => exact Sim.fail
  | some p =>
    obtain ⟨n, o⟩ := p
    obtain ⟨e, he, rfl⟩ := hx.addr ha
    exact Sim.congr (Sim.loadVar st he) (by simp [Instr.loadAt, Instr.sureAddr])

noncomputable def astoreAt (P : Program) (t : TypeId) (x v : Value) : M Unit := fun k s => match aaddr x with
  | some (n, o) => astoreVar P t n o v k s
  | none => .fail
theorem Sim.storeAt (st : St σ w0 h w) {t : TypeId} {x x' v v' : Value} (hx : VR σ x x') (hv : VR σ v v') : Sim P w0 σ h w (astoreAt P t x v) (Instr.storeAt t x' v') (fun _ _ _ => True) := by
  unfold astoreAt
  cases ha : aaddr x with
  | none => exact Sim.fail
  | some p =>
    obtain ⟨n, o⟩ := p
    obtain ⟨e, he, rfl⟩ := hx.addr ha
    exact Sim.congr (Sim.storeVar st he hv) (by simp [Instr.storeAt, Instr.sureAddr])

/-- A new variable. -/
noncomputable def abox (t : TypeId) (v : Value) : M Value := fun k s => anew (.cells v.cells t (0, 0)) (fun n => k (.pointer (some ⟨n, 0, none⟩))) s
theorem Sim.box (st : St σ w0 h w) {t : TypeId} {v v' : Value} (hv : VR σ v v') : Sim P w0 σ h w (abox t v) (Instr.box t v') VR := by
  refine Sim.congr (S := do return (.pointer (some ⟨← newObj (.cells v'.cells t), 0, none⟩))) ((Sim.newCells st hv.cells).bind (F := fun n => (fun k => k (.pointer (some ⟨n, 0, none⟩)) : M Value)) fun n b σ' h' w' _ st' hn => Sim.pure st' (.ptr n 0 _ hn)) ?_
  simp [Instr.box, newVar, newRow]

noncomputable def zeroT (P : Program) (t : TypeId) : Option Value :=
  match P.info? t with
  | some i => match i.zero with
    | some z => bif plainV z then some z else none
    | none => none
  | none => none
theorem zeroT_spec {t : TypeId} {z : Value} (hz : zeroT P t = some z) (w : World) : (zeroValue t).run P w = .ok z w ∧ plainV z = true := by
  unfold zeroT at hz
  cases hi : P.info? t with
  | none => rw [hi] at hz; cases hz
  | some i =>
    rw [hi] at hz
    dsimp only at hz
    cases hz2 : i.zero with
    | none => rw [hz2] at hz; cases hz
    | some y =>
      rw [hz2] at hz
      dsimp only at hz
      cases hp : plainV y with
      | false => rw [hp] at hz; cases hz
      | true =>
        rw [hp] at hz; cases hz
        exact ⟨by simp [zeroValue, run_inf hi, hz2], hp⟩

noncomputable def aalloc (P : Program) (t : TypeId) : M Value := fun k s => match zeroT P t with
  | some z => abox t z k s
  | none => .fail
theorem Sim.alloc (st : St σ w0 h w) {t : TypeId} : Sim P w0 σ h w (aalloc P t) (Instr.alloc t true (.tuple #[])) VR := by
  unfold aalloc
  cases hz : zeroT P t with
  | none => exact Sim.fail
  | some z =>
    obtain ⟨r, p⟩ := zeroT_spec hz w
    refine Sim.congr (Sim.box st (.of_plain p)) ?_
    simp [Instr.alloc, Instr.box, r]

/-! ### structs and arrays as values -/
noncomputable def apart (P : Program) (t : TypeId) (cs : List Value) (off : Nat) : Option Value :=
  match aggT P t with
  | some (true, z) => some (.agg ⟨(cs.take (off + z)).drop off⟩)
  | some (false, _) => nth cs off
  | none => none
theorem apart_spec {t : TypeId} {cs cs' : Array Value} {off : Nat} {v : Value} (hc : VRs σ cs.toList cs'.toList) (hv : apart P t cs.toList off = some v) : ∃ v', (part t cs' off).run P w = .ok v' w ∧ VR σ v v' := by
  unfold apart at hv
  cases ht : aggT P t with
  | none => rw [ht] at hv; cases hv
  | some p =>
    obtain ⟨b, z⟩ := p
    obtain ⟨r1, r2⟩ := run_isAgg (w := w) ht
    rw [ht] at hv
    obtain ⟨hsz, hget⟩ := VRs.arr hc
    cases b with
    | true =>
      obtain rfl := Option.some.inj hv
      refine ⟨.agg (cs'.extract off (off + z)), by simp [part, r1, r2], .of_agg ?_⟩
      refine VRs.of_get (by simp [hsz]; omega) (fun i x x' hx hx' => ?_)
      simp only [List.getElem?_drop, List.getElem?_take] at hx
      split at hx
      · rename_i hlt
        have hx2 : cs[off + i]? = some x := by simpa using hx
        have hx3 : cs'[off + i]? = some x' := by
          have h0 : (cs'.extract off (off + z))[i]? = some x' := by rw [← Array.getElem?_toList]; exact hx'
          rw [Array.getElem?_extract] at h0
          split at h0
          · exact h0
          · cases h0
        exact hget _ _ _ hx2 hx3
      · cases hx
    | false =>
      dsimp only at hv
      rw [nth_eq] at hv
      obtain ⟨v', a, b⟩ := hc.get off v hv
      have a' : cs'[off]? = some v' := by simpa using a
      exact ⟨v', by simp [part, r1, a'], b⟩

noncomputable def afield (P : Program) (t : TypeId) (x : Value) (f : Nat) : Option Value :=
  match P.underlying t, x with
  | some (.struct fs), .agg cs => match fs[f]? with
    | some g => apart P g.type cs.toList g.offset
    | none => none
  | _, _ => none
theorem Sim.field (st : St σ w0 h w) {t : TypeId} {x x' : Value} (hx : VR σ x x') {f : Nat} : Sim P w0 σ h w (fun k s => match afield P t x f with | some v => k v s | none => .fail) (Instr.field t x' f) VR := by
  cases hv : afield P t x f with
  | none => exact Sim.fail
  | some v =>
    unfold afield at hv
    split at hv
    · rename_i fs cs hd
      split at hv
      · rename_i g hg
        obtain ⟨cs', rfl, hc⟩ := hx.agg_inv
        obtain ⟨v', r, q⟩ := apart_spec (w := w) hc hv
        refine Sim.congr (Sim.pure (P := P) (a := v) (b := v') st q) ?_
        simp [Instr.field, run_und hd, hg, asAgg, r]
      · cases hv
    · cases hv

end
end Go.Ev

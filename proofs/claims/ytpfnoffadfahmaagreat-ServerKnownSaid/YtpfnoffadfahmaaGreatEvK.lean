/- Every operation, over a heap of names, beside the model's. No condition. -/
import Derived.Test.YtpfnoffadfahmaaGreatEvO
namespace Go.Ev
set_option linter.unusedVariables false
set_option linter.unusedSimpArgs false
open Go Go.RowKit

section
variable {P : Program} {w0 : World} {σ : Emb} {h : T} {w : World}

theorem Sim.typeAssert (st : St σ w0 h w) {x x' : Value} (hx : VR σ x x') {xt a : TypeId} {ok : Bool} : Sim P w0 σ h w (M.opt (atypeAssert P x a ok)) (Instr.typeAssert x' xt a ok) VR := by
  refine Sim.opt st fun v hv => ?_
  unfold atypeAssert at hv
  split at hv
  · cases hv
  · rename_i d hni hd
    have hzero : ∀ (y : Option Value), (if ok = true then (match zeroT P a with | some z => some (.tuple #[z, .bool false]) | none => none) else none) = some v →
        ∃ z, ok = true ∧ (zeroValue a).run P w = .ok z w ∧ plainV z = true ∧ v = .tuple #[z, .bool false] := by
      intro _ hh
      split at hh
      · rename_i hok
        split at hh
        · rename_i z hz
          obtain ⟨r, p⟩ := zeroT_spec hz w
          exact ⟨z, hok, r, p, (Option.some.inj hh).symm⟩
        · cases hh
      · cases hh
    split at hv
    · rename_i t u
      cases hx with
      | iface _ _ u' hu =>
      cases hta : Nat.beq t a with
      | true =>
        rw [hta] at hv
        have := Nat.eq_of_beq_eq_true hta
        subst this
        simp only [cond_true] at hv
        obtain rfl := Option.some.inj hv
        refine ⟨if ok then .tuple #[u', .bool true] else u', ?_, ?_⟩
        · unfold Instr.typeAssert
          simp only [Sem.run_bind, run_und hd, Result.andThen_ok]
          cases d <;> first | exact absurd rfl (hni _) | simp
        · split
          · exact .of_tuple (.cons hu (.cons (.bool _) .nil))
          · exact hu
      | false =>
        rw [hta] at hv
        simp only [cond_false] at hv
        obtain ⟨z, hok, r, p, rfl⟩ := hzero none hv
        have hne : t ≠ a := fun e => by subst e; rw [beq_yes] at hta; cases hta
        refine ⟨.tuple #[z, .bool false], ?_, .of_tuple (.cons (.of_plain p) (.cons (.bool _) .nil))⟩
        unfold Instr.typeAssert
        simp only [Sem.run_bind, run_und hd, Result.andThen_ok]
        cases d <;> first | exact absurd rfl (hni _) | simp [hne, hok, r]
    · cases hx
      obtain ⟨z, hok, r, p, rfl⟩ := hzero none hv
      refine ⟨.tuple #[z, .bool false], ?_, .of_tuple (.cons (.of_plain p) (.cons (.bool _) .nil))⟩
      unfold Instr.typeAssert
      simp only [Sem.run_bind, run_und hd, Result.andThen_ok]
      cases d <;> first | exact absurd rfl (hni _) | simp [hok, r]
    · cases hv
  · cases hv

/-! ### builtins -/
/-- The capacity of a slice: where the row's end is known. -/
noncomputable def acap (P : Program) (ts : Array TypeId) (x : Value) : M Value := fun k s =>
  match ts[0]? with
  | some t => match P.underlying t, x with
    | some (.slice _), .slice none _ c => k (.int .i64 (c : Nat)) s
    | some (.slice _), .slice (some a) _ c => .get a.block fun
      | .cells d _ f => match f.1 with
        | 0 => k (.int .i64 (c : Nat)) s
        | z + 1 => bif !a.spot.isSome && Nat.beq (a.off + c * z) d.size then .fail else k (.int .i64 (c : Nat)) s
      | _ => .fail
    | _, _ => .fail
  | none => .fail
theorem Sim.cap (st : St σ w0 h w) {ts : Array TypeId} {T0 : TypeId} {x x' : Value} (hx : VR σ x x') : Sim P w0 σ h w (acap P ts x) (Builtin.cap_ ts T0 #[x']) VR := by
  unfold acap
  intro k s r e
  dsimp only at e
  split at e
  · rename_i t h0
    have main : ∀ {el : TypeId} {b : Option Addr} {n c : Nat}, P.underlying t = some (.slice el) → x' = .slice b n c → (k (.int .i64 (c : Nat)) s).run h = some r →
        ∃ a s' h', (k a s').run h' = some r ∧ ∃ b w' σ', (Builtin.cap_ ts T0 #[x']).run P w = .ok b w' ∧ σ.le σ' ∧ St σ' w0 h' w' ∧ VR σ' a b := by
      intro el b n c hd hx' e
      subst hx'
      exact ⟨_, s, h, e, .int .i64 (c : Nat), w, σ, by simp [Builtin.cap_, h0, run_und hd, goInt], .refl _, st, .int _ _⟩
    split at e
    · rename_i el n c hd
      cases hx
      exact main hd rfl e
    · rename_i el a n c hd
      rw [AM.run_get] at e
      split at e
      · rename_i ob hob
        split at e
        · rename_i d t' f
          cases hx with
          | slice0 _ a' =>
            split at e
            · exact main hd rfl e
            · cases hb : (!a.spot.isSome && Nat.beq (a.off + 0 * _) d.size) with
              | true => rw [hb] at e; cases e
              | false => rw [hb] at e; exact main hd rfl e
          | @slice m o _ _ en cap' he hc qq hq =>
            dsimp only at hob e
            obtain ⟨_, cs, t2, fr, h1, h2, h3, h4, h5, h6, h7⟩ := st.row hob he
            unfold capOk at hc
            split at e
            · rename_i hf
              rw [hf] at h7
              have hs : en.soft = none := h7
              rw [hs] at hc
              exact main hd (by rw [show cap' = c from hc]) e
            · rename_i z hf
              rw [hf] at h7
              obtain ⟨sz, tot, hs⟩ := h7
              have hsz := h6 _ _ _ hs
              rw [hs] at hc
              cases hb : (!qq.isSome && Nat.beq (o + c * z) d.size) with
              | true => rw [hb] at e; cases e
              | false =>
                rw [hb] at e
                rcases hq with hq | hq
                case inr => exact main hd (by rw [hq]) e
                subst hq
                have hne : o + c * z ≠ d.size := fun q => by rw [q] at hb; simp at hb
                rcases hc.1 with h | h
                · exact main hd (by rw [h]) e
                · exact absurd (by rw [← hsz]; exact h.1) hne
        · cases e
      · cases e
    · cases e
  · cases e

/-- Zeros over a slice's elements. -/
noncomputable def aclear (P : Program) (ts : Array TypeId) (x : Value) : M Value := fun k s =>
  match ts[0]? with
  | some t => match P.underlying t, x with
    | some (.slice _), .slice none _ _ => k (.tuple #[]) s
    | some (.slice el), .slice (some a) (n + 1) _ => match zeroT P el with
      | some z => bif z.cells.toList.all plain1 then aput a.block a.off (replL z.cells.toList (n + 1)) (fun _ => k (.tuple #[])) s else .fail
      | none => .fail
    | some (.slice _), .slice (some _) 0 _ => k (.tuple #[]) s
    | _, _ => .fail
  | none => .fail
theorem Sim.clear (st : St σ w0 h w) {ts : Array TypeId} {T0 : TypeId} {x x' : Value} (hx : VR σ x x') : Sim P w0 σ h w (aclear P ts x) (Builtin.clear_ ts T0 #[x']) VR := by
  unfold aclear
  intro k s r e
  dsimp only at e
  split at e
  · rename_i t h0
    split at e
    · rename_i el n c hd
      cases hx
      exact ⟨_, s, h, e, .tuple #[], w, σ, by simp [Builtin.clear_, h0, run_und hd], .refl _, st, .of_tuple .nil⟩
    · rename_i el a n c hd
      split at e
      · rename_i z hz
        cases hp : z.cells.toList.all plain1 with
        | false => rw [hp] at e; cases e
        | true =>
          rw [hp] at e
          cases hx with
          | slice m o _ _ en cap' he hc hq =>
          dsimp only at e
          simp only [cond_true] at e
          have hvs : VRs σ (replL z.cells.toList (n + 1)) (Builtin.zeroCells z.cells (n + 1)).toList := by
            rw [Builtin.zeroCells, range_map_eq]
            exact VRs.of_plain (replL_plain _ hp _)
          obtain ⟨_, s', h', e', _, w', σ', run, le, st', _⟩ := Sim.put (P := P) (w := w) st he hvs (fun _ => k (.tuple #[])) s r e
          refine ⟨_, s', h', e', .tuple #[], w', σ', ?_, le, st', .of_tuple .nil⟩
          simp only [Builtin.clear_, Sem.run_bind]
          simp [h0, run_und hd, (zeroT_spec hz w).1, run]
      · cases e
    · rename_i el a c hd
      have : ∃ b c', x' = .slice b 0 c' := by
        cases hx with
        | slice m o _ _ en cap' he hc hq => exact ⟨_, _, rfl⟩
        | slice0 a a' => exact ⟨_, _, rfl⟩
      obtain ⟨b, c', rfl⟩ := this
      refine ⟨_, s, h, e, .tuple #[], w, σ, ?_, .refl _, st, .of_tuple .nil⟩
      cases b <;> simp [Builtin.clear_, h0, run_und hd]
    · cases e
  · cases e

noncomputable def abuiltin (P : Program) (b : Builtin) (ts : Array TypeId) (t : TypeId) (cs : Array Bool) (args : List Value) : M Next := fun k s =>
  match b, args with
  | .append, [x, y] => aappend P ts x y (fun v => k (.value v)) s
  | .copy, [x, y] => acopy P ts x y (fun v => k (.value v)) s
  | .len, [.map (some r)] => alenMap P ts (.map (some r)) (fun v => k (.value v)) s
  | .len, [x] => M.opt (alen P ts x) (fun v => k (.value v)) s
  | .cap, [x] => acap P ts x (fun v => k (.value v)) s
  | .clear, [x] => aclear P ts x (fun v => k (.value v)) s
  | .recover, _ => k .recover s
  | .min, _ | .max, _ =>
    bif args.all plain1 then
      match pureRun P (builtin b ts t cs ⟨args⟩) with
      | some (.value v) => bif plainV v then k (.value v) s else .fail
      | _ => .fail
    else .fail
  | _, _ => .fail

theorem VRs.two {x y : Value} {l : List Value} (hv : VRs σ [x, y] l) : ∃ x' y', l = [x', y'] ∧ VR σ x x' ∧ VR σ y y' := by
  cases hv with | cons h1 t => cases t with | cons h2 t => cases t; exact ⟨_, _, rfl, h1, h2⟩
theorem VRs.one {x : Value} {l : List Value} (hv : VRs σ [x] l) : ∃ x', l = [x'] ∧ VR σ x x' := by
  cases hv with | cons h1 t => cases t; exact ⟨_, rfl, h1⟩

theorem Sim.builtin (st : St σ w0 h w) {b : Builtin} {ts : Array TypeId} {t : TypeId} {cs : Array Bool} {args : List Value} {args' : Array Value} (ha : VRs σ args args'.toList) :
    Sim P w0 σ h w (abuiltin P b ts t cs args) (Go.builtin b ts t cs args') NR := by
  have hplain : Sim P w0 σ h w (fun k s => bif args.all plain1 then (match pureRun P (Go.builtin b ts t cs ⟨args⟩) with | some (.value v) => bif plainV v then k (.value v) s else .fail | _ => .fail) else .fail) (Go.builtin b ts t cs args') NR := by
    intro k s r e
    cases hp : args.all plain1 with
    | false => rw [hp] at e; cases e
    | true =>
      rw [hp] at e
      have : args' = ⟨args⟩ := by
        have := VRs.plain hp ha
        cases args'; simp at this; rw [this]
      subst this
      simp only [cond_true] at e
      split at e
      · rename_i v hv
        cases hpv : plainV v with
        | false => rw [hpv] at e; cases e
        | true => rw [hpv] at e; exact ⟨_, s, h, e, _, w, σ, run_of_pureRun w hv, .refl _, st, .value (.of_plain hpv)⟩
      · cases e
  unfold abuiltin
  split
  · obtain ⟨x', y', hl, hx, hy⟩ := ha.two
    have : args' = #[x', y'] := by cases args'; simp at hl; rw [hl]
    subst this
    exact (Sim.append st hx hy).val
  · obtain ⟨x', y', hl, hx, hy⟩ := ha.two
    have : args' = #[x', y'] := by cases args'; simp at hl; rw [hl]
    subst this
    exact (Sim.copy st hx hy).val
  · obtain ⟨x', hl, hx⟩ := ha.one
    have : args' = #[x'] := by cases args'; simp at hl; rw [hl]
    subst this
    exact (Sim.lenMap st hx).val
  · obtain ⟨x', hl, hx⟩ := ha.one
    have : args' = #[x'] := by cases args'; simp at hl; rw [hl]
    subst this
    exact (Sim.len st hx).val
  · obtain ⟨x', hl, hx⟩ := ha.one
    have : args' = #[x'] := by cases args'; simp at hl; rw [hl]
    subst this
    exact (Sim.cap st hx).val
  · obtain ⟨x', hl, hx⟩ := ha.one
    have : args' = #[x'] := by cases args'; simp at hl; rw [hl]
    subst this
    exact (Sim.clear st hx).val
  · exact Sim.pure st .recover
  · exact hplain
  · exact hplain
  · exact Sim.fail

/-! ### calls -/
noncomputable def okFn (P : Program) (f : FuncId) : Bool :=
  match P.funcs[f]? with
  | some fn => fn.body.isSome && !(fn.name == "runtime.NumGoroutine")
  | none => false
theorem run_callFunc {f : FuncId} (hf : okFn P f = true) (args : Array Value) (w : World) : (callFunc f args).run P w = .ok (.enter f args) w := by
  unfold okFn at hf
  split at hf
  · rename_i fn hfn
    simp only [Bool.and_eq_true, Bool.not_eq_true'] at hf
    obtain ⟨h1, h2⟩ := hf
    have h3 : fn.body.isNone = false := by cases hb : fn.body <;> simp_all
    unfold callFunc
    simp only [Sem.run_bind, run_program, Result.andThen_ok, hfn, h2, h3, Bool.false_eq_true, if_false, Sem.run_pure]
  · cases hf

noncomputable def aparams : List Tmp → List Value → List Value → List Value
  | t :: ts, a :: as, tm => aparams ts as (tm.set t a)
  | _, _, tm => tm
theorem aparams_spec : ∀ (ts : List Tmp) (as as' tm : List Value) (tm' : Array Value), VRs σ as as' → VRs σ tm tm'.toList →
    VRs σ (aparams ts as tm) (((ts.zip as').foldl (fun (tmps : Array Value) (p : Tmp × Value) => tmps.setIfInBounds p.1 p.2) tm')).toList
  | [], _, _, tm, tm', _, hm => by simpa [aparams] using hm
  | t :: ts, as, as', tm, tm', ha, hm => by
    cases ha with
    | nil => simpa [aparams] using hm
    | @cons a a' as as' h1 h2 =>
      simp only [aparams, List.zip_cons_cons, List.foldl_cons]
      refine aparams_spec ts as as' _ _ h2 ?_
      have hl := hm.length
      refine VRs.of_get (by simpa using hl) (fun i x x' p q => ?_)
      simp only [Array.toList_setIfInBounds] at q
      rw [List.getElem?_set] at p q
      by_cases hti : t = i
      · subst hti
        rw [hl] at q
        rw [if_pos rfl] at p q
        by_cases hlt : t < tm.length
        · rw [if_pos hlt] at p q; cases p; cases q; exact h1
        · rw [if_neg hlt] at p; cases p
      · rw [if_neg hti] at p q
        obtain ⟨y, c, d⟩ := hm.get i x p
        rw [q] at c; cases c; exact d

noncomputable def ayield (l : Nat) (args : List Value) : M Next := fun k s => .get l fun
  | .loop r => bif Nat.beq args.length r.params.size then k (.round l r.fn ⟨aparams r.params.toList args r.tmps.toList⟩ r.assign r.body) s else .fail
  | _ => .fail
theorem Sim.yield (st : St σ w0 h w) {l : Nat} {en : En} (he : σ l = some en) {args : List Value} {args' : Array Value} (ha : VRs σ args args'.toList) : Sim P w0 σ h w (ayield l args) (Instr.yield en.blk args') NR := by
  unfold ayield
  intro k s r e
  rw [AM.run_get] at e
  split at e
  · rename_i ob hob
    split at e
    · rename_i lp
      obtain ⟨_, lp', a, hl⟩ := st.hr.entry hob he
      cases hg : Nat.beq args.length lp.params.size with
      | false => rw [hg] at e; cases e
      | true =>
        rw [hg] at e
        have hz := Nat.eq_of_beq_eq_true hg
        have hlen := ha.length
        simp only [Array.length_toList] at hlen
        refine ⟨_, s, h, e, .round en.blk lp'.fn ((lp'.params.zip args').foldl (fun tmps x => match x with | (t, a) => tmps.setIfInBounds t a) lp'.tmps) lp'.assign lp'.body, w, σ, ?_, .refl _, st, ?_⟩
        · unfold Instr.yield Instr.getLoop
          simp only [Sem.run_bind, getObj, Sem.run, a, Result.andThen_ok, Sem.run_pure]
          rw [hl.params, if_neg (by omega)]; rfl
        · have hz2 : VRs σ (aparams lp.params.toList args lp.tmps.toList) ((lp.params.zip args').foldl (fun (tmps : Array Value) (p : Tmp × Value) => tmps.setIfInBounds p.1 p.2) lp'.tmps).toList := by
            have := aparams_spec lp.params.toList args args'.toList lp.tmps.toList lp'.tmps ha hl.tmps
            rw [← Array.foldl_toList, Array.toList_zip]; exact this
          rw [hl.fn, hl.params, hl.assign, hl.body]
          exact .round l en he _ hz2 _ _
    · cases e
  · cases e

/-- What is called, its arguments. -/
noncomputable def aresolve (ρ : Operand → Value) (c : Call) (t : TypeId) : Option Deferred :=
  match c.callee with
  | .builtin b => some { target := .builtin b c.argTypes t ⟨c.args.toList.map fun | .const _ => true | _ => false⟩, args := ⟨c.args.toList.map ρ⟩ }
  | .invoke recv name => some { target := .fn (.method name) #[], args := ⟨ρ recv :: c.args.toList.map ρ⟩ }
  | .value f => match ρ f with
    | .func fn first cap => some { target := .fn fn cap, args := ⟨first.toList ++ c.args.toList.map ρ⟩ }
    | .nilFunc => some { target := .nil, args := ⟨c.args.toList.map ρ⟩ }
    | _ => none

theorem VRs.map {ρ ρ' : Operand → Value} : ∀ {l : List Operand}, (∀ x ∈ l, VR σ (ρ x) (ρ' x)) → VRs σ (l.map ρ) (l.map ρ')
  | [], _ => .nil
  | x :: l, hl => .cons (hl x (by simp)) (VRs.map fun y hy => hl y (by simp [hy]))

theorem aresolve_spec {ρ ρ' : Operand → Value} {c : Call} {t : TypeId} {d : Deferred} (hρ : ∀ x ∈ c.operands, VR σ (ρ x) (ρ' x)) (hd : aresolve ρ c t = some d) (w : World) :
    ∃ d', (resolve ρ' c t).run P w = .ok d' w ∧ TgR σ d.target d'.target ∧ VRs σ d.args.toList d'.args.toList := by
  have hargs : VRs σ (c.args.toList.map ρ) (c.args.toList.map ρ') := VRs.map fun x hx => hρ x (by
    unfold Call.operands; simp only [Array.mem_append]; exact .inr (Array.mem_toList_iff.1 hx))
  unfold aresolve at hd
  unfold resolve
  split at hd
  · rename_i b hc
    obtain rfl := Option.some.inj hd
    rw [hc]
    refine ⟨_, rfl, ?_, by simpa using hargs⟩
    have : (⟨c.args.toList.map fun | .const _ => true | _ => false⟩ : Array Bool) = c.args.map fun | .const _ => true | _ => false := by
      apply Array.ext'; simp
    rw [this]; exact .builtin _ _ _ _
  · rename_i recv name hc
    obtain rfl := Option.some.inj hd
    rw [hc]
    refine ⟨_, rfl, .fn _ _ _ _ (.same _ (fun l e => by cases e)) .nil, ?_⟩
    have := hρ recv (by unfold Call.operands; rw [hc]; simp)
    simpa using VRs.cons this hargs
  · rename_i f hc
    rw [hc]
    have hf := hρ f (by unfold Call.operands; rw [hc]; simp)
    split at hd
    · rename_i fn first cap hfv
      obtain rfl := Option.some.inj hd
      rw [hfv] at hf
      generalize hq : ρ' f = q at hf
      cases hf with
      | func _ fn' _ first' _ cap' h1 h2 h3 h4 h5 =>
      refine ⟨{ target := .fn fn' cap', args := first' ++ c.args.map ρ' }, ?_, .fn _ _ _ _ h1 (VRs.of_arr h4 h5), ?_⟩
      · dsimp only
        rw [hq]; rfl
      · simpa using (VRs.of_arr h2 h3).append hargs
    · rename_i hfv
      obtain rfl := Option.some.inj hd
      rw [hfv] at hf
      have : ρ' f = .nilFunc := by generalize ρ' f = q at hf; cases hf; rfl
      refine ⟨{ target := .nil, args := c.args.map ρ' }, ?_, .nil, by simpa using hargs⟩
      dsimp only
      rw [this]; rfl
    · cases hd

/-- A method's receiver, where it is the value itself. -/
noncomputable def selfRecv (P : Program) (t : TypeId) (ptr : Bool) : Bool :=
  match P.underlying t with
  | some (.pointer _) => ptr
  | some _ => !ptr
  | none => false

/-- The method of a type, where the receiver is the value itself. -/
noncomputable def findMethod (P : Program) (t : TypeId) (name : String) : Option FuncId :=
  match P.info? t with
  | some i => match i.methods.find? (·.name == name) with
    | some m => match m.func with
      | some (f, ptr) => bif m.path.isEmpty && selfRecv P t ptr then some f else none
      | none => none
    | none => none
  | none => none

noncomputable def ainvoke (P : Program) (d : Deferred) : M Next := fun k s =>
  match d.target with
  | .fn (.func f) cap => bif okFn P f then k (.enter f ⟨d.args.toList ++ cap.toList⟩) s
    else match atomOf P f with
    | some at_ => aatom at_ (d.args.toList ++ cap.toList) (fun v => k (.value v)) s
    | none => bif (d.args.toList ++ cap.toList).all plain1 then (match pureRun P (callFunc f ⟨d.args.toList ++ cap.toList⟩) with
      | some (.value v) => bif plainV v then k (.value v) s else .fail
      | _ => .fail) else .fail
  | .fn (.yield l) _ => ayield l d.args.toList k s
  | .fn (.via t path f ptr) _ => match d.args.toList with
    | x :: rest => bif path.isEmpty && selfRecv P t ptr && okFn P f then k (.enter f ⟨x :: rest⟩) s else .fail
    | [] => .fail
  | .fn (.methodOf t name) _ => match P.underlying t, d.args.toList with
    | some (.interface _), _ => .fail
    | some _, x :: rest => match findMethod P t name with
      | some f => bif okFn P f then k (.enter f ⟨x :: rest⟩) s else .fail
      | none => .fail
    | _, _ => .fail
  | .fn (.method name) _ => match d.args.toList with
    | .iface t v :: rest => match findMethod P t name with
      | some f => bif okFn P f then k (.enter f ⟨v :: rest⟩) s else .fail
      | none => .fail
    | _ => .fail
  | .builtin b ts t cs => abuiltin P b ts t cs d.args.toList k s
  | _ => .fail

theorem run_selfRecv {t : TypeId} {ptr : Bool} (hs : selfRecv P t ptr = true) (v : Value) (wr : Option String) (w : World) : (receiverAt t (.val v) ptr wr).run P w = .ok v w := by
  unfold selfRecv at hs
  unfold receiverAt
  split at hs
  · rename_i e hd
    subst hs
    simp [run_und hd, Place.get]
  · rename_i d hnp hd
    have hp : ptr = false := by simpa using hs
    subst hp
    simp only [Sem.run_bind, run_und hd, Result.andThen_ok]
    cases d <;> first | exact absurd rfl (hnp _) | rfl
  · cases hs

theorem run_findMethod {t : TypeId} {name : String} {f : FuncId} (hf : findMethod P t name = some f) (n : Nat) (v : Value) (w : World) : (method (n + 1) t v name).run P w = .ok (f, v) w := by
  unfold findMethod at hf
  split at hf
  · rename_i i hi
    split at hf
    · rename_i m hm
      split at hf
      · rename_i f0 ptr hfn
        cases hg : (m.path.isEmpty && selfRecv P t ptr) with
        | false => rw [hg] at hf; cases hf
        | true =>
          rw [hg] at hf
          obtain rfl := Option.some.inj hf
          simp only [Bool.and_eq_true] at hg
          have hp : m.path.toList = [] := by simpa using hg.1
          unfold method
          simp only [Sem.run_bind, run_inf hi, Result.andThen_ok, hm, hp, follow, Sem.run_pure, hfn, run_selfRecv hg.2]
      · cases hf
    · cases hf
  · cases hf

theorem Sim.invoke (st : St σ w0 h w) {d d' : Deferred} (ht : TgR σ d.target d'.target) (ha : VRs σ d.args.toList d'.args.toList) : Sim P w0 σ h w (ainvoke P d) (Go.invoke d'.target d'.args) NR := by
  obtain ⟨tg, args⟩ := d
  obtain ⟨tg', args'⟩ := d'
  dsimp only at ht ha
  unfold ainvoke
  intro k s r e
  dsimp only at e
  cases ht with
  | fn f f' xs xs' hf hx =>
    cases hf with
    | yield l en he =>
      dsimp only at e
      exact Sim.yield (P := P) st he ha k s r e
    | same _ hny =>
      cases f with
      | func g =>
        dsimp only at e
        cases hg : okFn P g with
        | false =>
          rw [hg] at e
          simp only [cond_false] at e
          cases hat : atomOf P g with
          | some at_ =>
            rw [hat] at e
            obtain ⟨v, s1, h1, e1, v', w1, σ1, run, le, st1, hv⟩ := Sim.atom (P := P) (k := at_) (args' := args' ++ xs') st (by simpa using ha.append hx) _ _ _ e
            refine ⟨_, s1, h1, e1, .value v', w1, σ1, ?_, le, st1, .value hv⟩
            show (callFunc g (args' ++ xs')).run P w = _
            rw [run_atom hat, run]
            rfl
          | none =>
          rw [hat] at e
          dsimp only at e
          cases hp : (args.toList ++ xs.toList).all plain1 with
          | false => rw [hp] at e; cases e
          | true =>
            rw [hp] at e
            simp only [cond_true] at e
            have hsame : args' ++ xs' = ⟨args.toList ++ xs.toList⟩ := by
              have := VRs.plain hp (ha.append hx)
              apply Array.ext'
              simpa using this
            split at e
            · rename_i v hv
              cases hpv : plainV v with
              | false => rw [hpv] at e; cases e
              | true =>
                rw [hpv] at e
                refine ⟨_, s, h, e, .value v, w, σ, ?_, .refl _, st, .value (.of_plain hpv)⟩
                show (callFunc g (args' ++ xs')).run P w = _
                rw [hsame]
                exact run_of_pureRun w hv
            · cases e
        | true =>
          rw [hg] at e
          refine ⟨_, s, h, e, .enter g (args' ++ xs'), w, σ, ?_, .refl _, st, .enter g (by simpa using ha.append hx)⟩
          exact run_callFunc hg _ w
      | method name =>
        dsimp only at e
        cases hal : args.toList with
        | nil => rw [hal] at e; cases e
        | cons x rest =>
          rw [hal] at e ha
          cases x with
          | iface t v =>
            dsimp only at e
            cases hfm : findMethod P t name with
            | none => rw [hfm] at e; cases e
            | some g =>
              rw [hfm] at e
              dsimp only at e
              cases hg : okFn P g with
              | false => rw [hg] at e; cases e
              | true =>
                rw [hg] at e
                generalize hal' : args'.toList = l' at ha
                cases ha with
                | @cons _ x' _ rest' hx1 hr1 =>
                cases hx1 with
                | iface _ _ v' hv =>
                have h0 : args'[0]? = some (.iface t v') := by rw [← Array.getElem?_toList, hal']; rfl
                have h1 : (args'.extract 1 args'.size).toList = rest' := by
                  rw [Array.toList_extract]; simp [List.extract, hal']
                  have : args'.size = rest'.length + 1 := by rw [← Array.length_toList, hal']; simp
                  rw [this]; simp
                refine ⟨_, s, h, e, .enter g (#[v'] ++ args'.extract 1 args'.size), w, σ, ?_, .refl _, st, .enter g (by rw [Array.toList_append, h1]; exact .cons hv hr1)⟩
                unfold Go.invoke
                simp only [h0]
                unfold callMethod
                simp only [Sem.run_bind, run_program, Result.andThen_ok]
                rw [show P.types.size + Made.depth = (P.types.size + 99) + 1 from rfl, run_findMethod hfm]
                exact run_callFunc hg _ w
          | _ => cases e
      | methodOf t name =>
        dsimp only at e
        split at e
        · cases e
        · rename_i d0 x rest hni hd hal
          rw [hal] at ha
          cases hfm : findMethod P t name with
          | none => rw [hfm] at e; cases e
          | some g =>
            rw [hfm] at e
            dsimp only at e
            cases hg : okFn P g with
            | false => rw [hg] at e; cases e
            | true =>
              rw [hg] at e
              generalize hal' : args'.toList = l' at ha
              cases ha with
              | @cons _ x' _ rest' hx1 hr1 =>
              have h0 : args'[0]? = some x' := by rw [← Array.getElem?_toList, hal']; rfl
              have h1 : (args'.extract 1 args'.size).toList = rest' := by
                rw [Array.toList_extract]; simp [List.extract, hal']
                have : args'.size = rest'.length + 1 := by rw [← Array.length_toList, hal']; simp
                rw [this]; simp
              refine ⟨_, s, h, e, .enter g (#[x'] ++ args'.extract 1 args'.size), w, σ, ?_, .refl _, st, .enter g (by rw [Array.toList_append, h1]; exact .cons hx1 hr1)⟩
              unfold Go.invoke
              simp only [h0, Sem.run_bind, run_und hd, Result.andThen_ok]
              have h2 : (do let recv : Value ← (match d0 with | .interface _ => Pure.pure x' | _ => Pure.pure (.iface t x')); callMethod recv name (args'.extract 1 args'.size) : Sem Next).run P w = .ok (.enter g (#[x'] ++ args'.extract 1 args'.size)) w := by
                have h3 : ((match d0 with | .interface _ => Pure.pure x' | _ => Pure.pure (.iface t x')) : Sem Value) = Pure.pure (.iface t x') := by cases d0 <;> first | exact absurd rfl (hni _) | rfl
                rw [h3]
                simp only [Sem.run_bind, Sem.run_pure, Result.andThen_ok]
                unfold callMethod
                simp only [Sem.run_bind, run_program, Result.andThen_ok]
                rw [show P.types.size + Made.depth = (P.types.size + 99) + 1 from rfl, run_findMethod hfm]
                exact run_callFunc hg _ w
              cases d0 <;> first | exact absurd rfl (hni _) | exact h2
        · cases e
      | via t path f ptr =>
        dsimp only at e
        split at e
        · rename_i x rest hal
          rw [hal] at ha
          cases hg : (path.isEmpty && selfRecv P t ptr && okFn P f) with
          | false => rw [hg] at e; cases e
          | true =>
            rw [hg] at e
            simp only [Bool.and_eq_true] at hg
            obtain ⟨⟨g1, g2⟩, g3⟩ := hg
            generalize hal' : args'.toList = l' at ha
            cases ha with
            | @cons _ x' _ rest' hx1 hr1 =>
            have h0 : args'[0]? = some x' := by rw [← Array.getElem?_toList, hal']; rfl
            have h1 : (args'.extract 1 args'.size).toList = rest' := by
              rw [Array.toList_extract]; simp [List.extract, hal']
              have : args'.size = rest'.length + 1 := by rw [← Array.length_toList, hal']; simp
              rw [this]; simp
            have hp : path.toList = [] := by simpa using g1
            refine ⟨_, s, h, e, .enter f (#[x'] ++ args'.extract 1 args'.size), w, σ, ?_, .refl _, st, .enter f (by rw [Array.toList_append, h1]; exact .cons hx1 hr1)⟩
            unfold Go.invoke
            simp only [h0, Sem.run_bind, receiverVia, hp, follow, Sem.run_pure, Result.andThen_ok, run_selfRecv g2]
            exact run_callFunc g3 _ w
        · cases e
      | yield l => exact absurd rfl (hny l)
  | nil => cases e
  | builtin b a t c =>
    dsimp only at e
    exact Sim.builtin (P := P) (w := w) st ha k s r e
  | collected r' en he => cases e

end
end Go.Ev

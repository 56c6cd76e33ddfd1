/- The model's machine goes along with every step: operations, loops over functions, orders. No condition. -/
import Derived.Test.YtpfnoffadfahmaaGreatEvV
namespace Go.Ev
set_option linter.unusedVariables false
set_option linter.unusedSimpArgs false
open Go Go.RowKit

section
variable {P : Program} {w0 : World} {σ : Emb} {h : T} {w : World}

theorem FR.raise_one {a : AF} {f : Frame} (k : FR σ a f) {v v' : Value} (hv : VR σ v v') : FR σ (a.raise [{ v := v, recovered := false }]) (f.raise [{ v := v', recovered := false }]) :=
  k.raise (.cons hv rfl rfl .nil)

/-- An operation of a region. -/
theorem goes_oper [Known P] {a : AF} {f : Frame} {cs : List AF} {fs cs0 : List Frame} {k : AF → List AF → Nat → AM} {r : Value × T} {s : Nat} {ops : Array Oper} {j : Nat} {rest : List Nat} {K : List Item} {o : Oper} (hfr : FR σ a f) (hcs : CR σ cs fs) (st : St σ w0 h w)
    (hm : a.mode = .run) (ht : a.todo = .inRegion ops (j :: rest) :: K) (ho : ops[j]? = some o) (hw : awanted ops a.tmps o = true) (e : (aoper P k a cs o s).run h = some r) : Goes P w0 σ k (bot a cs) r f fs cs0 w := by
  obtain ⟨i', K', ht', hi, _⟩ := hfr.todo_cons ht
  cases hi
  unfold aoper at e
  cases hok : okOper o && !(isDefer o.op && a.rnd.isSome) with
  | false => rw [hok] at e; cases e
  | true =>
  rw [hok] at e
  rw [Bool.and_eq_true] at hok
  have hops : ∀ x ∈ o.op.operands, VR σ (aev a.tmps x) (f.eval x) := fun x hx => hfr.eval (List.all_eq_true.1 hok.1 x (Array.mem_toList_iff.2 hx))
  have hstep := stepG_oper (P := P) (cs := fs ++ cs0) (w := w) (hfr.mode_run hm) ht' ho (by rw [awanted_eq hfr.tmps]; exact hw) (by
    cases hr : a.rnd with
    | none => exact .inl (hfr.rnd_none hr)
    | some l =>
      have h2 := hok.2
      rw [hr] at h2
      right
      cases hd : isDefer o.op with
      | false => rfl
      | true => rw [hd] at h2; cases h2)
  have hgen : (aop P (aev a.tmps) o (fun nx s => aapply P k a cs nx s) s).run h = some r → Goes P w0 σ k (bot a cs) r f fs cs0 w := by
    intro e
    obtain ⟨nx, s1, h1, e1, nx', w1, σ1, run, le1, st1, hn⟩ := Sim.op (P := P) (w := w) st hops _ _ _ e
    exact goes_apply hfr hcs rfl run le1 st1 hn e1 (by rw [hstep]) (fun d b r s l hq => by rw [ht'] at hq; cases hq)
  simp only [cond_true] at e
  split at e
  · rename_i x hx
    split at e
    · rename_i t v hv
      have hxv : VR σ (aev a.tmps x) (f.eval x) := hops x (by rw [hx]; simp [Op.operands])
      rw [hv] at hxv
      cases hev : f.eval x with
      | iface t' v' =>
        rw [hev] at hxv
        refine Goes.one e (by rw [bot_fn (raise_fn _ _)]) (step_lone_go ?_) (.refl _) st (hfr.raise_one hxv) hcs
        rw [hstep]
        have : (execOp f.eval o).run P w = .halt (.panic (.iface t' v')) w := by
          obtain ⟨dst, op, ty, pos, after, guard⟩ := o
          dsimp only at hx
          subst hx
          simp only [execOp, hev]
          rfl
        simp only [stepG.apply, Sem.runT_eq, this, if_true, GStep.bare_after]
        rfl
      | _ => rw [hev] at hxv; cases hxv
    · cases e
  · exact hgen e

/-- A round begins. -/
theorem goes_begin {a : AF} {f : Frame} {cs : List AF} {fs cs0 : List Frame} {k : AF → List AF → Nat → AM} {r : Value × T} {s : Nat} {K : List Item} (hfr : FR σ a f) (hcs : CR σ cs fs) (st : St σ w0 h w)
    (hm : a.mode = .run) (ht : a.todo = .beginRound :: K) (e : (abegin k a cs s).run h = some r) : Goes P w0 σ k (bot a cs) r f fs cs0 w := by
  obtain ⟨i', K', ht', hi, _⟩ := hfr.todo_cons ht
  cases hi
  unfold abegin at e
  split at e
  · rename_i l hr
    obtain ⟨en, he, hrf⟩ := hfr.rnd_some hr
    rw [AM.run_get] at e
    split at e
    · rename_i ob hob
      split at e
      · rename_i q
        obtain ⟨q', a1, a2, a3⟩ := st.loop (P := P) he hob
        split at e
        · rename_i hq
          obtain ⟨h', w', e2, run, st', _⟩ := st.setLoop (P := P) he hob (q2 := { q with state := .busy }) (q2' := { q' with state := .busy }) ⟨rfl, a2.pending, a2.fn, a2.tmps, a2.params, a2.assign, a2.body, a2.defers⟩ e
          refine Goes.one e2 (by rw [bot_fn (finish_fn _ _)]) (step_lone_go ?_) (.refl _) st' (hfr.finish VR.undef) hcs
          rw [stepG_run (hfr.mode_run hm)]
          unfold stepG.exec
          simp only [ht']
          have : (do f.roundOf.elim (stuck "beginRound: no round") Instr.beginRound; pure Next.skip : Sem Next).run P w = .ok .skip w' := by
            rw [hrf]
            simp only [Option.elim_some]
            unfold Instr.beginRound Instr.getLoop
            simp only [Sem.run_bind, a3, Result.andThen_ok, Sem.run_pure, run, a2.state, hq]
          simp only [stepG.apply, Sem.runT_eq, this, if_true, GStep.bare_after]
          rfl
        · cases e
      · cases e
    · cases e
  · cases e

/-- A loop over a function ends. -/
theorem goes_end {a : AF} {f : Frame} {cs : List AF} {fs cs0 : List Frame} {k : AF → List AF → Nat → AM} {r : Value × T} {s : Nat} {l : Nat} {K : List Item} (hfr : FR σ a f) (hcs : CR σ cs fs) (st : St σ w0 h w)
    (hm : a.mode = .run) (ht : a.todo = .endRangeFunc l :: K) (e : (aend k a cs l K s).run h = some r) : Goes P w0 σ k (bot a cs) r f fs cs0 w := by
  obtain ⟨i', K', ht', hi, hK⟩ := hfr.todo_cons ht
  cases hi with
  | endRange _ en he =>
  unfold aend at e
  rw [AM.run_get] at e
  split at e
  · rename_i ob hob
    split at e
    · rename_i q
      obtain ⟨q', a1, a2, a3⟩ := st.loop (P := P) he hob
      have main : q.state ≠ .busy → (AM.put l (.loop { q with state := .exhausted }) (match q.pending with
        | some c => k { a with todo := .code c :: K } cs s
        | none => k { a with todo := K } cs s)).run h = some r → Goes P w0 σ k (bot a cs) r f fs cs0 w := by
        intro hb e
        obtain ⟨h', w', e2, run, st', _⟩ := st.setLoop (P := P) he hob (q2 := { q with state := .exhausted }) (q2' := { q' with state := .exhausted }) ⟨rfl, a2.pending, a2.fn, a2.tmps, a2.params, a2.assign, a2.body, a2.defers⟩ e
        have hend : (Instr.endLoop en.blk).run P w = .ok q.pending w' := by
          unfold Instr.endLoop Instr.getLoop
          have hb' : (q'.state == LoopState.busy) = false := by
            rw [a2.state]
            cases hq : q.state <;> first | rfl | exact absurd hq hb
          simp only [Sem.run_bind, a3, Result.andThen_ok, Sem.run_pure, hb', Bool.false_eq_true, if_false, run]
          rw [a2.pending]
        have hs : (stepG P true { frame := f, callers := fs ++ cs0, status := .running, dying := none } w).bare = .go { frame := { f with todo := (q.pending.map Item.code).toList ++ K' }, callers := fs ++ cs0, status := .running, dying := none } w' := by
          rw [stepG_run (hfr.mode_run hm)]
          unfold stepG.exec
          simp only [ht', Sem.runT_eq, hend, GStep.bare_after]
          rfl
        cases hp : q.pending with
        | none =>
          rw [hp] at e2 hs
          exact Goes.one e2 (by refine bot_fn ?_ _; rfl) (step_lone_go hs) (.refl _) st' (hfr.with_todo hK) hcs
        | some c =>
          rw [hp] at e2 hs
          exact Goes.one e2 (by refine bot_fn ?_ _; rfl) (step_lone_go hs) (.refl _) st' (hfr.with_todo (.cons (.code c) hK)) hcs
      split at e
      · cases e
      · rename_i hb
        exact main hb e
    · cases e
  · cases e

end
end Go.Ev

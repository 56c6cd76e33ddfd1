/- The model's machine goes along with every step: loops over functions begin, drawn orders. No condition. -/
import Derived.Test.YtpfnoffadfahmaaGreatEvW
namespace Go.Ev
set_option linter.unusedVariables false
set_option linter.unusedSimpArgs false
open Go Go.RowKit

section
variable {P : Program} {w0 : World} {σ : Emb} {h : T} {w : World}

/-- The call of an iterator with its round. -/
theorem goes_callIter {a : AF} {f f0 : Frame} {cs : List AF} {fs cs0 : List Frame} {k : AF → List AF → Nat → AM} {r : Value × T} {s l : Nat} {x : Operand} {en : En} {σ0 : Emb} {wb : World} {b0 : FuncId × Option Nat} (hb0 : bot a cs = b0) (hle : σ0.le σ) (hfr : FR σ a f) (hcs : CR σ cs fs) (st : St σ w0 h w) (he : σ l = some en) (hx : okOperand x = true)
    (e : (acallIter P k a cs x l s).run h = some r) (hstep : (stepG P true { frame := f0, callers := fs ++ cs0, status := .running, dying := none } wb).bare =
      (stepG.apply P true f (fs ++ cs0) none (do let d ← resolve f.eval { callee := .value x, args := #[.const (.func (.yield en.blk) #[] #[])], argTypes := #[] } 0; Go.invoke d.target d.args) w).bare)
    (hcall : ∀ d b r s l, f.todo ≠ .call d b r s :: l) : Goes P w0 σ0 k b0 r f0 fs cs0 wb := by
  unfold acallIter at e
  have hv := hfr.eval hx
  split at e
  · rename_i g first cap hg
    rw [hg] at hv
    generalize hfv : f.eval x = fv at hv
    cases hv with
    | func _ g' _ first' _ cap' h1 h2 h3 h4 h5 =>
    have hargs : VRs σ (first.toList ++ [Value.func (.yield l) #[] #[]]) (first' ++ #[Value.func (.yield en.blk) #[] #[]]).toList := by
      rw [Array.toList_append]
      have hy : VR σ (Value.func (.yield l) #[] #[]) (Value.func (.yield en.blk) #[] #[]) := .func _ _ _ _ _ _ (.yield l en he) rfl (fun i x x' a _ => by simp at a) rfl (fun i x x' a _ => by simp at a)
      exact (VRs.of_arr h2 h3).append (.cons hy .nil)
    have hres : (resolve f.eval { callee := .value x, args := #[.const (.func (.yield en.blk) #[] #[])], argTypes := #[] } 0).run P w = .ok { target := .fn g' cap', args := first' ++ #[.func (.yield en.blk) #[] #[]] } w := by
      unfold resolve
      simp only [hfv, Deferred.ofValue, List.map_toArray, List.map_cons, List.map_nil]
      rfl
    obtain ⟨nx, s1, h1', e1, nx', w1, σ1, run, le1, st1, hn⟩ := Sim.invoke (P := P) (w := w) (d := { target := .fn g cap, args := ⟨first.toList ++ [.func (.yield l) #[] #[]]⟩ }) (d' := { target := .fn g' cap', args := first' ++ #[.func (.yield en.blk) #[] #[]] }) st (.fn _ _ _ _ h1 (VRs.of_arr h4 h5)) hargs _ _ _ e
    cases hn with
    | @enter fc ar ar' har =>
      dsimp only at e1
      split at e1
      · rename_i b hb
        refine ⟨b, a :: cs, s1, h1', e1, hb0, Frame.enter P fc ar' .normal, f :: fs, w1, σ1, .one (step_lone_go ?_), hle.trans le1, st1, FR.enter har hb, .cons (hfr.mono le1) (hcs.mono le1)⟩
        rw [hstep]
        have : (do let d ← resolve f.eval { callee := .value x, args := #[.const (.func (.yield en.blk) #[] #[])], argTypes := #[] } 0; Go.invoke d.target d.args : Sem Next).run P w = .ok (.enter fc ar') w1 := by
          simp only [Sem.run_bind, hres, Result.andThen_ok, run]
        simp only [stepG.apply, Sem.runT_eq, this, if_true, GStep.bare_after]
        split
        · rename_i hq; exact absurd hq (hcall _ _ _ _ _)
        · rfl
      · cases e1
    | _ => cases e1
  · cases e

/-- A loop over a function begins. -/
theorem goes_range {a : AF} {f : Frame} {cs : List AF} {fs cs0 : List Frame} {k : AF → List AF → Nat → AM} {r : Value × T} {s : Nat} {x : Operand} {params : Array Tmp} {as body : Code} {K : List Item} (hfr : FR σ a f) (hcs : CR σ cs fs) (st : St σ w0 h w)
    (hm : a.mode = .run) (ht : a.todo = .code (.rangeFunc x params as body) :: K) (e : (arange P k a cs x params as body K s).run h = some r) : Goes P w0 σ k (bot a cs) r f fs cs0 w := by
  obtain ⟨i', K', ht', hi, hK⟩ := hfr.todo_cons ht
  cases hi
  obtain ⟨fn, tmps, todo, ds, mode, kd, rn⟩ := a
  dsimp only at hm ht e
  subst hm; subst ht
  unfold arange at e
  dsimp only at e
  cases hx : okOperand x with
  | false => rw [hx] at e; cases e
  | true =>
  rw [hx] at e
  simp only [cond_true] at e
  have hexec : stepG P true { frame := f, callers := fs ++ cs0, status := .running, dying := none } w = stepG.exec P true true f (fs ++ cs0) none w := stepG_run (hfr.mode_run rfl)
  cases rn with
  | none =>
    have hrf := hfr.rnd_none rfl
    dsimp only at e
    -- the block of deferred calls
    obtain ⟨n1, s1, h1, e1, b1, w1, σ1, run1, le1, st1, hn1⟩ := Sim.new (P := P) st (o := .deferred (some [])) (O := .deferred (some [])) rfl (fun n hn => ⟨[], rfl, .nil⟩) (fun n s => .new s (.loop { state := .ready, pending := none, fn := fn, tmps := ⟨tmps⟩, params, assign := as, body, defers := n })
        (acallIter P k ⟨fn, tmps, .inRangeFunc s :: K, { target := .collected n, args := #[] } :: ds, .run, kd, none⟩ cs x s (s + 1))) s r e
    obtain ⟨n2, s2, h2, e2, b2, w2, σ2, run2, le2, st2, hn2⟩ := Sim.new (P := P) st1 (o := .loop { state := .ready, pending := none, fn := fn, tmps := ⟨tmps⟩, params, assign := as, body, defers := n1 }) (O := .loop { state := .ready, pending := none, fn := f.fn, tmps := f.tmps, params, assign := as, body, defers := b1 }) rfl
      (fun n hn => ⟨_, rfl, rfl, rfl, hfr.fn, (hfr.tmps.mono le1).mono (Emb.ext_le _ hn), rfl, rfl, rfl, _, Emb.ext_le _ hn _ _ hn1, rfl⟩) (fun n s => acallIter P k ⟨fn, tmps, .inRangeFunc n :: K, { target := .collected n1, args := #[] } :: ds, .run, kd, none⟩ cs x n s) s1 r e1
    have hfr2 := (hfr.mono le1).mono le2
    refine goes_callIter (a := ⟨fn, tmps, .inRangeFunc n2 :: K, { target := .collected n1, args := #[] } :: ds, .run, kd, none⟩) (f := { f with todo := .inRangeFunc b2 :: K', defers := { target := .collected b1, args := #[] } :: f.defers }) (by refine bot_fn ?_ _; rfl) (le1.trans le2) ⟨hfr2.fn, hfr2.tmps, .cons (.inRange _ _ hn2) (hK.mono (le1.trans le2)), .cons (.collected _ _ (le2 _ _ hn1)) .nil hfr2.defers, hfr2.mode, hfr2.kind, hfr2.rnd⟩ (hcs.mono (le1.trans le2)) st2 hn2 hx e2 ?_ (fun d b r s l hq => by cases hq)
    rw [hexec]
    unfold stepG.exec
    have hent : (Instr.enterLoop f.fn f.tmps params as body f.roundOf).run P w = .ok (b2, [{ target := .collected b1, args := #[] }]) w2 := by
      unfold Instr.enterLoop
      rw [hrf]
      simp only [Sem.run_bind, run1, Result.andThen_ok, Sem.run_pure, run2]
    simp only [ht', Sem.runT_eq, hent, GStep.bare_after]
    rfl
  | some l =>
    obtain ⟨en, he, hrf⟩ := hfr.rnd_some rfl
    dsimp only at e
    rw [AM.run_get] at e
    split at e
    · rename_i ob hob
      split at e
      · rename_i q
        obtain ⟨q', a1, a2, a3⟩ := st.loop (P := P) he hob
        obtain ⟨ed, hed, hq'⟩ := a2.defers
        obtain ⟨n2, s2, h2, e2, b2, w2, σ2, run2, le2, st2, hn2⟩ := Sim.new (P := P) st (o := .loop { state := .ready, pending := none, fn := fn, tmps := ⟨tmps⟩, params, assign := as, body, defers := q.defers }) (O := .loop { state := .ready, pending := none, fn := f.fn, tmps := f.tmps, params, assign := as, body, defers := q'.defers }) rfl
          (fun n hn => ⟨_, rfl, rfl, rfl, hfr.fn, hfr.tmps.mono (Emb.ext_le _ hn), rfl, rfl, rfl, _, Emb.ext_le _ hn _ _ hed, hq'⟩) (fun n s => acallIter P k ⟨fn, tmps, .inRangeFunc n :: K, ds, .run, kd, some l⟩ cs x n s) s r e
        have hfr2 := hfr.mono le2
        refine goes_callIter (a := ⟨fn, tmps, .inRangeFunc n2 :: K, ds, .run, kd, some l⟩) (f := { f with todo := .inRangeFunc b2 :: K' }) (by refine bot_fn ?_ _; rfl) le2 ⟨hfr2.fn, hfr2.tmps, .cons (.inRange _ _ hn2) (hK.mono le2), hfr2.defers, hfr2.mode, hfr2.kind, hfr2.rnd⟩ (hcs.mono le2) st2 hn2 hx e2 ?_ (fun d b r s l hq => by cases hq)
        rw [hexec]
        unfold stepG.exec
        have hent : (Instr.enterLoop f.fn f.tmps params as body f.roundOf).run P w = .ok (b2, []) w2 := by
          unfold Instr.enterLoop Instr.getLoop
          rw [hrf]
          simp only [Sem.run_bind, a3, Result.andThen_ok, Sem.run_pure, run2]
        simp only [ht', Sem.runT_eq, hent, GStep.bare_after]
        rfl
      · cases e
    · cases e

/-- A region whose order is open. -/
theorem goes_draw [Known P] {nest : Nest} (hmx : P.follows .mixedOrders = true) (hnest : NestOK P w0 nest) {a : AF} {f : Frame} {cs : List AF} {fs cs0 : List Frame} {k : AF → List AF → Nat → AM} {r : Value × T} {s : Nat} {id : Nat} {ops : Array Oper} {K : List Item} (hfr : FR σ a f) (hcs : CR σ cs fs) (st : St σ w0 h w)
    (hm : a.mode = .run) (ht : a.todo = .code (.region id ops true) :: K) (e : (adrawE P nest ops (fun tmps' s => k { a with tmps := tmps', todo := K } cs s) a.tmps s).run h = some r) : Goes P w0 σ k (bot a cs) r f fs cs0 w := by
  obtain ⟨i', K', ht', hi, hK⟩ := hfr.todo_cons ht
  cases hi
  obtain ⟨fn, tmps, todo, ds, mode, kd, rn⟩ := a
  dsimp only at hm ht e
  subst hm; subst ht
  obtain ⟨sn, tm, hp, v, ts, ws, hc, c1, c2, c5, c3, c3', c4⟩ := adrawE_spec e
  subst c1; subst c2
  obtain ⟨t, w1, d1, d2, d3, d4, d5⟩ : ∃ t w', (choose (.order f.fn id)).run P w = .ok t w' ∧ w'.heap = w.heap ∧ w'.os = w.os ∧ w'.tape = w.tape ∧ w'.output = w.output := ⟨_, _, rfl, rfl, rfl, rfl, rfl⟩
  have st1 := st.heap d2 d3 d4 d5
  have hstep : step P (lone f (fs ++ cs0) w) = .next (lone { f with todo := .inRegion ops (Region.linearise.go .any ops ops.size t (Array.replicate ops.size false) []) :: K' } (fs ++ cs0) w1) := by
    refine step_lone_go ?_
    rw [stepG_run (hfr.mode_run rfl)]
    unfold stepG.exec
    simp only [ht', Bool.not_true, Bool.false_eq_true, if_false, d1, hmx, Region.schedule, Bool.true_or, if_true]
    rfl
  have hrep : ∀ i, (Array.replicate ops.size false).getD i false = false := fun i => by
    simp only [Array.getD]
    split
    · simp
    · rfl
  have hfalse : (fun i => (Array.replicate ops.size false).getD i false) = fun _ => false := funext hrep
  obtain ⟨tmps', g', σ', w', f', q1, q2, q3, q4, q5, q6⟩ := goes_order hnest hc c3 c3' (K := K) (cs0 := fs ++ cs0) ops.size t (Array.replicate ops.size false) (tm 0) (hp 0) σ w1 { f with todo := .inRegion ops (Region.linearise.go .any ops ops.size t (Array.replicate ops.size false) []) :: K' } (by simp)
    (by unfold unlisted; exact Nat.le_trans List.countP_le_length (by simp))
    (by intro i o _ hi; exact absurd ((hrep i).symm.trans hi) (by decide))
    (by rw [hfalse]; refine ⟨rfl, fun t => ?_⟩; rw [lastW_none fun i _ => by simp])
    (by rw [hfalse]; intro m; rw [lastW_none fun i _ => by simp]) st1 ⟨hfr.fn, hfr.tmps, .cons (.inRegion _ _) hK, hfr.defers, hfr.mode, hfr.kind, hfr.rnd⟩
  obtain ⟨i1, i2⟩ := Can.inv hc ops.size (Nat.le_refl _)
  have htm : tmps' = tm ops.size := by
    refine List.ext_getElem? fun t => ?_
    rw [q5.2 t, i1.2 t]
    rw [lastW_congr (q := fun i => decide (i < ops.size) && dW ops t i) fun i hi => by simp [hi]]
  have hhp : ∀ m, (hp ops.size).get m = g'.get m := by
    intro m
    rw [q6 m, i2 m]
    rw [lastW_congr (p := fun i => decide (i < ops.size) && has (ws i) m) (q := fun i => (fun _ => true) i && has (ws i) m) fun i hi => by simp [hi]]
  subst htm
  obtain ⟨j', L', hj, hji, hL⟩ := q4.todo_cons rfl
  cases hji
  have hmode' := q4.mode_run rfl
  refine ⟨_, cs, _, _, c4, by refine bot_fn ?_ _; rfl, { f' with todo := L' }, fs, w', σ', .head hstep (q1.trans (.one (step_lone_go ?_))), q2, ⟨q3.hr.congr hhp, q3.below⟩, ⟨q4.fn, q4.tmps, hL, q4.defers, q4.mode, q4.kind, q4.rnd⟩, hcs.mono q2⟩
  rw [stepG_run hmode']
  unfold stepG.exec
  simp only [hj]
  rfl

end
end Go.Ev

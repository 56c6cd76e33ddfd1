/- The model's machine goes along with every step: answers, deferred calls, loops over functions. No condition. -/
import Derived.Test.YtpfnoffadfahmaaGreatEvU
namespace Go.Ev
set_option linter.unusedVariables false
set_option linter.unusedSimpArgs false
open Go Go.RowKit

section
variable {P : Program} {w0 : World} {σ : Emb} {h : T} {w : World}

theorem SimQ.load (st : St σ w0 h w) {n off : Nat} {e : En} (he : σ n = some e) (m : Mode) : SimQ P h w (aload n off) (load ⟨e.blk, e.shift + off, none⟩ m) (fun v v' => VR σ v v') := by
  refine SimQ.get (F := fun o k s => match o with | .cells c _ _ => (match nth c.toList off with | some v => k v s | none => .fail) | _ => .fail) (fun o ho => ?_)
  cases o with
  | cells c t f =>
    obtain ⟨_, cs, t', fr, h1, _, h3, _⟩ := st.row ho he
    intro k s r x
    dsimp only at x
    rw [nth_eq] at x
    cases hv : c.toList[off]? with
    | none => rw [hv] at x; cases x
    | some v =>
      rw [hv] at x
      obtain ⟨v', a, b⟩ := h3 off v (by simpa using hv)
      exact ⟨v, x, v', fun w' hw' => by simp [cell_of w' e.blk (e.shift + off) (by rw [hw']; exact h1), a], b⟩
  | _ => exact SimQ.fail

theorem SimQ.loadVar (st : St σ w0 h w) {t : TypeId} {n off : Nat} {e : En} (he : σ n = some e) : SimQ P h w (aloadVar P t n off) (loadVar t ⟨e.blk, e.shift + off, none⟩) (fun v v' => VR σ v v') := by
  unfold aloadVar
  intro k s r x
  dsimp only at x
  split at x
  · rename_i z ht
    obtain ⟨l, e2, a, run, hl, _⟩ := SimQ.cells (P := P) st he _ _ _ x
    refine ⟨_, e2, .agg a, fun w' hw' => ?_, .of_agg hl⟩
    obtain ⟨r1, r2⟩ := run_isAgg (w := w') ht
    simp [Go.loadVar, r1, r2, run w' hw']
  · rename_i z ht
    obtain ⟨v, e2, v', run, hv⟩ := SimQ.load (P := P) st he .plain _ _ _ x
    refine ⟨_, e2, v', fun w' hw' => ?_, hv⟩
    obtain ⟨r1, r2⟩ := run_isAgg (w := w') ht
    simp only [Go.loadVar, Sem.run_bind, r1, Result.andThen_ok, Bool.false_eq_true, if_false]
    exact run w' hw'
  · cases x

def resF (tm' : Array Value) : ResultVar → Sem Value
  | .tmp t => pure (tm'.getD t undef)
  | .cell a t => do loadVar t (← asAddr (tm'.getD a undef))

theorem aresults_spec (st : St σ w0 h w) {tm : List Value} {tm' : Array Value} (ht : VRs σ tm tm'.toList) : ∀ (l : List ResultVar) (k : List Value → Nat → AM) (s : Nat) (r : Value × T), (aresults P tm k l s).run h = some r →
    ∃ vs, (k vs s).run h = some r ∧ ∃ vs', VRs σ vs vs' ∧ (l.mapM (resF tm')).run P w = .ok vs' w
  | [], k, s, r, e => ⟨[], e, [], .nil, rfl⟩
  | .tmp t :: l, k, s, r, e => by
    simp only [aresults] at e
    obtain ⟨vs, e2, vs', h1, h2⟩ := aresults_spec st ht l _ s r e
    refine ⟨_, e2, tm'.getD t undef :: vs', .cons (ht.getD t) h1, ?_⟩
    simp only [List.mapM_cons, resF, Sem.run_bind, Sem.run_pure, Result.andThen_ok, h2]
  | .cell a t :: l, k, s, r, e => by
    simp only [aresults] at e
    split at e
    · rename_i n o ha
      obtain ⟨en, he, hx⟩ := (ht.getD a).addr ha
      obtain ⟨v, e2, v', run, hv⟩ := SimQ.loadVar (P := P) st he _ _ _ e
      obtain ⟨vs, e3, vs', h1, h2⟩ := aresults_spec st ht l _ s r e2
      refine ⟨_, e3, v' :: vs', .cons hv h1, ?_⟩
      have hf : (resF tm' (.cell a t)).run P w = .ok v' w := by
        simp only [resF, Sem.run_bind, hx, asAddr, Sem.run_pure, Result.andThen_ok, run w rfl]
      simp only [List.mapM_cons, Sem.run_bind, Sem.run_pure, Result.andThen_ok, hf, h2]
    · cases e

theorem results_spec {fn : Func} {tm' : Array Value} {vs vs' : List Value} (hv : VRs σ vs vs') (hr : (fn.results.toList.mapM (resF tm')).run P w = .ok vs' w) :
    ∃ v', (results fn tm').run P w = .ok v' w ∧ VR σ (resultOf vs) v' := by
  have hm : (fn.results.mapM (resF tm')).run P w = .ok vs'.toArray w := by
    rw [Array.mapM_eq_mapM_toList, Sem.run_map, hr]; rfl
  have hu : results fn tm' = (do let vs ← fn.results.mapM (resF tm'); return if h : vs.size = 1 then vs[0] else .tuple vs) := rfl
  refine ⟨if h : vs'.toArray.size = 1 then vs'.toArray[0] else .tuple vs'.toArray, ?_, ?_⟩
  · rw [hu, Sem.run_bind, hm]; rfl
  · cases hv with
    | nil => simp [resultOf]; exact .of_tuple .nil
    | cons h1 h2 =>
      cases h2 with
      | nil => simpa [resultOf] using h1
      | cons h3 h4 =>
        simp only [resultOf]
        rw [dif_neg (by simp)]
        exact .of_tuple (.cons h1 (.cons h3 h4))

theorem FR.settle {c : AF} {f : Frame} (k : FR σ c f) : FR σ c.settle { f with mode := match f.mode with
    | .panicking ({ recovered := true, .. } :: older) => (match older.dropWhile (!·.goexit) with | [] => .returning | rest => .panicking rest)
    | m => m } := by
  have hm := k.mode
  unfold AF.settle
  generalize hc : c.mode = m at hm
  generalize hf : f.mode = m' at hm
  have hdrop : ∀ {a b : List PanicEntry}, ChainR σ a b → ChainR σ (a.dropWhile (!·.goexit)) (b.dropWhile (!·.goexit)) := by
    intro a b hab
    induction hab with
    | nil => exact .nil
    | @cons a b as bs hv hr hg ht ih =>
      simp only [List.dropWhile_cons, hg]
      split
      · exact ih
      · exact .cons hv hr hg ht
  cases hm with
  | run => exact ⟨k.fn, k.tmps, k.todo, k.defers, by rw [hc]; exact .run, k.kind, k.rnd⟩
  | returning => exact ⟨k.fn, k.tmps, k.todo, k.defers, by rw [hc]; exact .returning, k.kind, k.rnd⟩
  | panicking hch =>
    cases hch with
    | nil => exact ⟨k.fn, k.tmps, k.todo, k.defers, by rw [hc]; exact .panicking .nil, k.kind, k.rnd⟩
    | @cons a b as bs hv hr hg ht =>
      obtain ⟨av, ar, ag⟩ := a
      obtain ⟨bv, br, bg⟩ := b
      dsimp only at hv hr hg
      subst hr; subst hg
      cases br with
      | false => exact ⟨k.fn, k.tmps, k.todo, k.defers, by rw [hc]; exact .panicking (.cons hv rfl rfl ht), k.kind, k.rnd⟩
      | true =>
        dsimp only
        have hd := hdrop ht
        generalize as.dropWhile (!·.goexit) = x at hd
        generalize bs.dropWhile (!·.goexit) = y at hd
        cases hd with
        | nil => exact ⟨k.fn, k.tmps, k.todo, k.defers, .returning, k.kind, k.rnd⟩
        | cons h1 h2 h3 h4 => exact ⟨k.fn, k.tmps, k.todo, k.defers, .panicking (.cons h1 h2 h3 h4), k.kind, k.rnd⟩

theorem goes_unwind {a : AF} {f : Frame} {cs : List AF} {fs cs0 : List Frame} {k : AF → List AF → Nat → AM} {fin : Value → Nat → AM} {r : Value × T} {s : Nat} (hfr : FR σ a f) (hcs : CR σ cs fs) (st : St σ w0 h w) (hm : a.mode ≠ .run) (e : (aunwind P k fin a cs s).run h = some r) :
    Goes P w0 σ k (bot a cs) r f fs cs0 w ∨ Done P w0 σ fin r cs f cs0 w := by
  have hmf : f.mode ≠ .run := by
    have := hfr.mode
    intro hf
    rw [hf] at this
    generalize a.mode = m at *
    cases this; exact hm rfl
  have hstep := stepG_unwind (P := P) (w := w) (cs := fs ++ cs0) hmf
  unfold aunwind at e
  have hds := hfr.defers
  cases hda : a.defers with
  | cons d ds =>
    rw [hda] at e hds
    generalize hdf : f.defers = fd at hds
    cases hds with
    | @cons _ d' _ ds' ht ha hrest =>
    dsimp only at e
    split at e
    · -- a loop's deferred calls
      rename_i b hb
      rw [hb] at ht
      obtain ⟨tg', args'⟩ := d'
      dsimp only at ht ha
      cases ht with
      | collected _ en he =>
      rw [AM.run_get] at e
      split at e
      · rename_i ob hob
        split at e
        · rename_i l
          obtain ⟨hbase, l', hl1, hl2⟩ := st.hr.entry hob he
          have hgo : (getObj en.blk).run P w = .ok (.deferred (some l')) w := by simp [getObj, Sem.run, hl1]
          rw [AM.run_put, hob] at e
          have hlt := lt_of_get? hl1
          have st' : St σ w0 (h.set b (.deferred none)) { w with heap := w.heap.setIfInBounds en.blk (.deferred none) } := by
            refine ⟨(st.hr.upd (o' := .deferred none) hob he rfl rfl rfl (by simp) (fun k hk => ?_) ?_ ?_ ?_).congr (fun m => T.get_set h b m _), ?_⟩
            · simp [Ne.symm hk]
            · show _ = _; simp [hlt]
            · intro c t fr d u fs e1; cases e1
            · intro c t fr e1; cases e1
            · have hb : w0.heap.size ≤ en.blk := hbase rfl
              exact st.below.trans ⟨rfl, rfl, rfl, by simp, fun k hk => by simp [show en.blk ≠ k by omega]⟩
          refine .inl (Goes.one (f' := { f with defers := l' ++ ds' }) e (by refine bot_fn ?_ _; rfl) (step_lone_go ?_) (.refl _) st' ⟨hfr.fn, hfr.tmps, hfr.todo, ?_, hfr.mode, hfr.kind, hfr.rnd⟩ hcs)
          · rw [hstep]
            unfold unwind
            rw [hdf]
            have : (Instr.takeDeferred en.blk).run P w = .ok l' { w with heap := w.heap.setIfInBounds en.blk (.deferred none) } := by
              unfold Instr.takeDeferred
              simp only [Sem.run_bind, hgo, Result.andThen_ok]
              unfold Go.setObj
              simp [Sem.run, hl1]
            simp only [Sem.runT_eq, this, GStep.bare_after]
            rfl
          · have : ∀ {x y u v : List Deferred}, DfR σ x y → DfR σ u v → DfR σ (x ++ u) (y ++ v) := by
              intro x y u v hxy huv
              induction hxy with
              | nil => exact huv
              | cons a b _ ih => exact .cons a b ih
            exact this hl2 hrest
        · cases e
      · cases e
    · -- a call
      rename_i g cap hg
      obtain ⟨nx, s1, h1, e1, nx', w1, σ1, run, le, st1, hn⟩ := Sim.invoke (P := P) (w := w) st ht ha _ _ _ e
      cases hn with
      | @enter fc ar ar' har =>
        dsimp only at e1
        split at e1
        · rename_i b hb
          refine .inl (Goes.one (f' := Frame.enter P fc ar' .deferred) (fs' := { f with defers := ds' } :: fs) e1 (by simp only [bot]; refine bot_fn ?_ _; rfl) (step_lone_go ?_) le st1 (FR.enter har hb) (.cons ⟨hfr.fn, hfr.tmps.mono le, hfr.todo.mono le, hrest.mono le, hfr.mode.mono le, hfr.kind, hfr.rnd.mono le⟩ (hcs.mono le)))
          rw [hstep]
          unfold unwind
          rw [hdf]
          obtain ⟨tg', args'⟩ := d'
          rw [hg] at ht
          dsimp only at ht ha run
          cases ht with
          | fn _ g' _ cap' h1 h2 =>
          simp only [callDeferred, Sem.runT_eq, run, GStep.bare_after]
          have : ((Target.fn g' cap' matches .nil) && (({ f with defers := ds' } : Frame).mode matches .panicking _)) = false := rfl
          simp only [Bool.false_and, Bool.false_eq_true, if_false]
          rfl
        · cases e1
      | _ => cases e1
    · cases e
  | nil =>
    rw [hda] at e hds
    generalize hdf : f.defers = fd at hds
    cases hds
    dsimp only at e
    have hmr := hfr.mode
    split at e
    · -- a panic goes on
      rename_i chain hch
      rw [hch] at hmr
      generalize hmf' : f.mode = fm at hmr
      cases hmr with
      | @panicking _ chain' hcc =>
      split at e
      · rename_i c rest fn hfn
        cases hcs with
        | @cons _ cf _ rest' hcf hrest =>
        refine .inl (Goes.one (fs' := rest') e ?_ (step_lone_go ?_) (.refl _) st (hcf.raise hcc) hrest)
        · simp only [bot]; exact bot_fn (raise_fn _ _) _
        · rw [hstep]
          unfold unwind
          rw [hdf, hmf']
          have hnc : f.catches P = false := by
            unfold Frame.catches
            rw [hfr.fn, hfn]
          simp [hnc]
      · cases e
    · -- it returns
      rename_i hch
      rw [hch] at hmr
      generalize hmf' : f.mode = fm at hmr
      cases hmr
      split at e
      · rename_i fn hfn
        obtain ⟨vs, e2, vs', hvs, hrun⟩ := aresults_spec (P := P) st hfr.tmps _ _ _ _ e
        obtain ⟨v', hres, hv⟩ := results_spec (P := P) (w := w) (fn := fn) hvs hrun
        have hfn' : P.funcs[f.fn]? = some fn := by rw [hfr.fn]; exact hfn
        have hst : (stepG P true { frame := f, callers := fs ++ cs0, status := .running, dying := none } w).bare = (doReturn P true f (fs ++ cs0) none v' w).bare := by
          rw [hstep]
          unfold unwind
          rw [hdf, hmf']
          simp only [hfn', Sem.runT_eq, hres, GStep.bare_after]
        split at e2
        · rename_i hk
          refine .inr ⟨rfl, _, _, _, e2, v', w, .inl ⟨⟨hmf', hdf, ?_, fn, hfn', hres⟩, rfl⟩, st, hv⟩
          rw [hfr.kind, hk]
        · rename_i c rest hk
          cases hcs with
          | @cons _ cf _ rest' hcf hrest =>
          refine .inl (Goes.one (fs' := rest') e2 ?_ (step_lone_go ?_) (.refl _) st (hcf.finish hv) hrest)
          · simp only [bot]; exact bot_fn (finish_fn _ _) _
          · rw [hst]
            have hkf : f.kind = .normal := by rw [hfr.kind, hk]
            simp [doReturn, hkf]
        · rename_i c rest hk
          cases hcs with
          | @cons _ cf _ rest' hcf hrest =>
          refine .inl (Goes.one (fs' := rest') e2 ?_ (step_lone_go ?_) (.refl _) st hcf.settle hrest)
          · simp only [bot]; exact bot_fn (settle_fn _) _
          · rw [hst]
            have hkf : f.kind = .deferred := by rw [hfr.kind, hk]
            simp only [doReturn, hkf, List.cons_append]
            obtain ⟨cfn, ctm, ctd, cds, cmd, ckd, crn⟩ := cf
            dsimp only
            have : ∀ (older : List PanicEntry), (match older.dropWhile (!·.goexit) with | [] => ({ fn := cfn, tmps := ctm, todo := ctd, defers := cds, mode := .returning, kind := ckd, roundOf := crn } : Frame) | rest => { fn := cfn, tmps := ctm, todo := ctd, defers := cds, mode := .panicking rest, kind := ckd, roundOf := crn }) =
                { fn := cfn, tmps := ctm, todo := ctd, defers := cds, mode := (match older.dropWhile (!·.goexit) with | [] => .returning | rest => .panicking rest), kind := ckd, roundOf := crn } := by
              intro older; cases List.dropWhile (fun x : PanicEntry => !x.goexit) older <;> rfl
            cases cmd with
            | run => rfl
            | returning => rfl
            | panicking ch =>
              cases ch with
              | nil => rfl
              | cons hd tl =>
                obtain ⟨hv', hr', hg'⟩ := hd
                cases hr' with
                | false => rfl
                | true => exact congrArg (fun x => (GStep.go { frame := x, callers := rest' ++ cs0, status := GoStatus.running, dying := none } w)) (this tl)
        · cases e2
      · cases e
    · cases e

end
end Go.Ev

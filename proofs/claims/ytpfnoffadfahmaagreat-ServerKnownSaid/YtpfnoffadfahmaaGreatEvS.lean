/- The model's machine goes along with the machine over a heap of names: parts. No condition. -/
import Derived.Test.YtpfnoffadfahmaaGreatEvQ
namespace Go.Ev
set_option linter.unusedVariables false
set_option linter.unusedSimpArgs false
open Go Go.RowKit

section
variable {P : Program} {w0 : World} {σ : Emb} {h : T} {w : World}

def bot : AF → List AF → FuncId × Option Nat
  | a, [] => (a.fn, a.rnd)
  | _, c :: cs => bot c cs
theorem bot_fn {a b : AF} (h : (a.fn, a.rnd) = (b.fn, b.rnd)) (cs : List AF) : bot a cs = bot b cs := by cases cs <;> simp [bot, h]
theorem finish_fn (a : AF) (v : Value) : ((a.finish v).fn, (a.finish v).rnd) = (a.fn, a.rnd) := by unfold AF.finish; split <;> rfl
theorem raise_fn (a : AF) (c : List PanicEntry) : ((a.raise c).fn, (a.raise c).rnd) = (a.fn, a.rnd) := by unfold AF.raise; split <;> rfl
theorem settle_fn (a : AF) : (a.settle.fn, a.settle.rnd) = (a.fn, a.rnd) := by unfold AF.settle; split <;> first | rfl | (split <;> rfl)

/-- Where the machine goes on, the model's does. -/
def Goes (P : Program) (w0 : World) (σ : Emb) (k : AF → List AF → Nat → AM) (b0 : FuncId × Option Nat) (r : Value × T) (f : Frame) (fs cs0 : List Frame) (w : World) : Prop :=
  ∃ a' cs' s' h', (k a' cs' s').run h' = some r ∧ bot a' cs' = b0 ∧ ∃ f' fs' w' σ', Steps P (lone f (fs ++ cs0) w) (lone f' (fs' ++ cs0) w') ∧ σ.le σ' ∧ St σ' w0 h' w' ∧ FR σ' a' f' ∧ CR σ' cs' fs'

theorem Goes.many {k : AF → List AF → Nat → AM} {b0 : FuncId × Option Nat} {r : Value × T} {f : Frame} {fs cs0 : List Frame} {a' : AF} {cs' : List AF} {s' : Nat} {h' : T} (e : (k a' cs' s').run h' = some r) (hb : bot a' cs' = b0) {f' : Frame} {fs' : List Frame} {w' : World} {σ' : Emb}
    (hs : Steps P (lone f (fs ++ cs0) w) (lone f' (fs' ++ cs0) w')) (le : σ.le σ') (st : St σ' w0 h' w') (hf : FR σ' a' f') (hc : CR σ' cs' fs') : Goes P w0 σ k b0 r f fs cs0 w :=
  ⟨a', cs', s', h', e, hb, f', fs', w', σ', hs, le, st, hf, hc⟩
theorem Goes.one {k : AF → List AF → Nat → AM} {b0 : FuncId × Option Nat} {r : Value × T} {f : Frame} {fs cs0 : List Frame} {a' : AF} {cs' : List AF} {s' : Nat} {h' : T} (e : (k a' cs' s').run h' = some r) (hb : bot a' cs' = b0) {f' : Frame} {fs' : List Frame} {w' : World} {σ' : Emb}
    (hs : step P (lone f (fs ++ cs0) w) = .next (lone f' (fs' ++ cs0) w')) (le : σ.le σ') (st : St σ' w0 h' w') (hf : FR σ' a' f') (hc : CR σ' cs' fs') : Goes P w0 σ k b0 r f fs cs0 w :=
  ⟨a', cs', s', h', e, hb, f', fs', w', σ', .one hs, le, st, hf, hc⟩

/-! ### what the frame itself does -/
/-- A frame's next step by itself: the model's machine at a frame in its run. -/
theorem step_apply {f : Frame} {cs : List Frame} {w : World} {s : Sem Next}
    (hs : (stepG P true { frame := f, callers := cs, status := .running, dying := none } w).bare = (stepG.apply P true f cs none s w).bare) {x : GStep}
    (hx : (stepG.apply P true f cs none s w).bare = x) {f' : Frame} {cs' : List Frame} {w' : World} (hg : x = .go { frame := f', callers := cs', status := .running, dying := none } w') :
    step P (lone f cs w) = .next (lone f' cs' w') := step_lone_go (by rw [hs, hx, hg])

theorem St.after {w' : World} (st : St σ w0 h w) (b : Below w.heap.size w w') : St σ w0 h w' := by
  refine ⟨⟨st.hr.dom, fun n o hn => ?_, st.hr.apart, Nat.le_trans st.hr.size b.size⟩, ⟨b.os.trans st.below.os, b.tape.trans st.below.tape, b.output.trans st.below.output, Nat.le_trans st.below.size b.size, fun k hk => (b.block k (Nat.lt_of_lt_of_le hk st.below.size)).trans (st.below.block k hk)⟩⟩
  obtain ⟨e, h1, h2, h3⟩ := st.hr.ob n o hn
  refine ⟨e, h1, h2, ?_⟩
  by_cases ha : alive o = true
  · rw [b.block e.blk (OR.lt ha h3)]; exact h3
  · cases o <;> simp [alive] at ha; trivial
/-- A call whose answer is known, from its frame to the caller's. -/
theorem known_steps {P : Program} [Known P] {f : FuncId} {args : Array Value} (hk : known P f args.toList = true) {args' : Array Value} (hl : args'.size = args.size) (c : Frame) (cs : List Frame) (w : World) :
    ∃ w', Steps P (lone (Frame.enter P f args' .normal) (c :: cs) w) (lone (c.finish (.bool true)) cs w') ∧ Below w.heap.size w w' := by
  obtain ⟨hf, ha⟩ := known_of hk
  have h0 : args'.size = 0 := by rw [hl, ← Array.length_toList, ha]; rfl
  obtain rfl := Array.eq_empty_of_size_eq_zero h0
  obtain ⟨e, w', fr, ⟨rfl, hb⟩, hst, -, hlv⟩ := Known.ok f hf w (c :: cs)
  exact ⟨w', Steps.trans hst (.one (step_leave_returned hlv)), hb⟩
/-- The same, where the answer is known of arguments and blocks. -/
theorem why_steps {P : Program} [Known P] {f : FuncId} {args : List Value} {args' : Array Value} {σ : Emb} {w0 : World} {h : T} {w : World} (hy : Why P f args h) (st : St σ w0 h w) (ha : VRs σ args args'.toList) (c : Frame) (cs : List Frame) :
    ∃ w', Steps P (lone (Frame.enter P f args' .normal) (c :: cs) w) (lone (c.finish (.bool true)) cs w') ∧ Below w.heap.size w w' := by
  rcases hy with hk | ⟨h2, os, h3, h4⟩
  · have hl := ha.length
    exact known_steps (args := ⟨args⟩) hk (by simpa using hl) c cs w
  · obtain ⟨e, w', fr, ⟨rfl, hb⟩, hst, -, hlv⟩ := Known.ok2 f h2 σ w0 h w args args' os st ha h3 h4 (c :: cs)
    exact ⟨w', Steps.trans hst (.one (step_leave_returned hlv)), hb⟩
/-- What an operation's answer makes of the frames. -/
theorem goes_apply [Known P] {a : AF} {f : Frame} {cs : List AF} {fs cs0 : List Frame} {k : AF → List AF → Nat → AM} {b0 : FuncId × Option Nat} {r : Value × T} {nx nx' : Next} {S : Sem Next} {s' : Nat} {h' : T} {w' : World} {σ' : Emb}
    (hfr : FR σ a f) (hcs : CR σ cs fs) (hb : bot a cs = b0) (hrun : S.run P w = .ok nx' w') (le : σ.le σ') (st : St σ' w0 h' w') (hn : NR σ' nx nx') (e : (aapply P k a cs nx s').run h' = some r)
    (hstep : (stepG P true { frame := f, callers := fs ++ cs0, status := .running, dying := none } w).bare = (stepG.apply P true f (fs ++ cs0) none S w).bare) (hcall : ∀ d b r s l, f.todo ≠ .call d b r s :: l) :
    Goes P w0 σ k b0 r f fs cs0 w := by
  have hfr' := hfr.mono le
  have hcs' := hcs.mono le
  unfold aapply at e
  cases hn with
  | value hv =>
    refine Goes.one e (by rw [bot_fn (finish_fn _ _)]; exact hb) (step_lone_go ?_) le st (hfr'.finish hv) hcs'
    rw [hstep]
    simp [stepG.apply, hrun]
  | skip =>
    refine Goes.one e (by rw [bot_fn (finish_fn _ _)]; exact hb) (step_lone_go ?_) le st (hfr'.finish VR.undef) hcs'
    rw [hstep]
    simp [stepG.apply, hrun]
  | @enter g a1 a2 ha =>
    dsimp only at e
    rcases askK_run e with ⟨hy, e⟩ | ⟨hkn, e⟩
    · obtain ⟨w2, hst, hbl⟩ := why_steps hy st ha f (fs ++ cs0)
      refine Goes.many e (by rw [bot_fn (finish_fn _ _)]; exact hb) (.head (step_lone_go ?_) hst) le (st.after hbl) (hfr'.finish (.bool true)) hcs'
      rw [hstep]
      simp only [stepG.apply, Sem.runT_eq, hrun, if_true, GStep.bare_after]
      split
      · rename_i hq; exact absurd hq (hcall _ _ _ _ _)
      · rfl
    split at e
    · rename_i b hbn
      refine Goes.one (fs' := f :: fs) e (by simpa [bot] using hb) (step_lone_go ?_) le st (FR.enter ha hbn) (.cons hfr' hcs')
      rw [hstep]
      simp only [stepG.apply, Sem.runT_eq, hrun, if_true, GStep.bare_after]
      split
      · rename_i hq; exact absurd hq (hcall _ _ _ _ _)
      · rfl
    · cases e
  | @round l en he g t t' ht as body =>
    refine Goes.one (f' := Frame.round en.blk g t' as body .normal) (fs' := f :: fs) e (by simpa [bot] using hb) (step_lone_go ?_) le st ⟨rfl, ht, .cons (.code as) (.cons .beginRound (.cons (.code body) .nil)), .nil, .run, rfl, ⟨en, he, rfl⟩⟩ (.cons hfr' hcs')
    rw [hstep]
    simp only [stepG.apply, Sem.runT_eq, hrun, if_true, GStep.bare_after]
    rfl
  | defer ht ha =>
    rename_i d d'
    dsimp only at e
    split at e
    · rename_i hr
      refine Goes.one e ((bot_fn (finish_fn _ _) _).trans (by refine (bot_fn ?_ _).trans hb; rfl)) (step_lone_go ?_) le st (FR.finish (a := { a with defers := d :: a.defers }) (f := { f with defers := d' :: f.defers }) ⟨hfr'.fn, hfr'.tmps, hfr'.todo, .cons ht ha hfr'.defers, hfr'.mode, hfr'.kind, hfr'.rnd⟩ VR.undef) hcs'
      rw [hstep]
      simp only [stepG.apply, Sem.runT_eq, hrun, if_true, GStep.bare_after]
      rfl
    · cases e
  | recover =>
    dsimp only at e
    split at e
    · -- a deferred call
      rename_i c rest hr hk
      have hrf : f.roundOf = none := by
        have := hfr.rnd; rw [hr] at this; cases hq : f.roundOf <;> rw [hq] at this <;> first | rfl | exact this.elim
      have hkf : f.kind = .deferred := by rw [hfr.kind, hk]
      cases hcs' with
      | @cons _ cf _ rest' hcf hrest =>
      split at e
      · rename_i v older hm
        have hmr := hcf.mode
        rw [hm] at hmr
        generalize hmf : cf.mode = mf at hmr
        cases hmr with
        | panicking hch =>
        cases hch with
        | @cons _ pe _ older' hv hrec hgo hol =>
        obtain ⟨pv, prec, pgo⟩ := pe
        dsimp only at hv hrec hgo
        subst hrec; subst hgo
        refine Goes.one (fs' := { cf with mode := .panicking ({ v := pv, recovered := true } :: older') } :: rest') e ?_ (step_lone_go ?_) le st (hfr'.finish hv) (.cons ⟨hcf.fn, hcf.tmps, hcf.todo, hcf.defers, .panicking (.cons hv rfl rfl hol), hcf.kind, hcf.rnd⟩ hrest)
        · rw [← hb]; simp only [bot]; refine bot_fn ?_ _; rfl
        · rw [hstep]
          simp only [stepG.apply, Sem.runT_eq, hrun, if_true, GStep.bare_after, hrf, tryRecover, hkf, List.cons_append, hmf]
          rfl
      · rename_i hno
        refine Goes.one (fs' := cf :: rest') e (by rw [bot_fn (finish_fn _ _)]; exact hb) (step_lone_go ?_) le st (hfr'.finish .nilIface) (.cons hcf hrest)
        rw [hstep]
        have htr : tryRecover f (cf :: (rest' ++ cs0)) = none := by
          unfold tryRecover
          rw [hkf]
          dsimp only
          have hmr := hcf.mode
          split
          · rename_i v older hmf
            rw [hmf] at hmr
            generalize hma : c.mode = ma at hmr
            cases hmr with
            | panicking hch =>
              cases hch with
              | @cons pe _ older0 _ hv hrec hgo hol =>
                obtain ⟨pv, prec, pgo⟩ := pe
                dsimp only at hrec hgo
                subst hrec; subst hgo
                exact absurd hma (hno _ _)
          · rfl
        simp only [stepG.apply, Sem.runT_eq, hrun, if_true, GStep.bare_after, hrf, List.cons_append, htr]
        rfl
    · rename_i hr hk
      have hrf : f.roundOf = none := by
        have := hfr.rnd; rw [hr] at this; cases hq : f.roundOf <;> rw [hq] at this <;> first | rfl | exact this.elim
      have hkf : f.kind = .normal := by rw [hfr.kind, hk]
      refine Goes.one e (by rw [bot_fn (finish_fn _ _)]; exact hb) (step_lone_go ?_) le st (hfr'.finish .nilIface) hcs'
      rw [hstep]
      have htr : tryRecover f (fs ++ cs0) = none := by unfold tryRecover; rw [hkf]
      simp only [stepG.apply, Sem.runT_eq, hrun, if_true, GStep.bare_after, hrf, htr]
      rfl
    · cases e

end
end Go.Ev

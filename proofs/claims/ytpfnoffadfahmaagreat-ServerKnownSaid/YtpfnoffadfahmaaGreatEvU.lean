/- The model's machine goes along with every step. No condition. -/
import Derived.Test.YtpfnoffadfahmaaGreatEvT
namespace Go.Ev
set_option linter.unusedVariables false
set_option linter.unusedSimpArgs false
open Go Go.RowKit

section
variable {P : Program} {w0 : World} {σ : Emb} {h : T} {w : World}

theorem stepG_run {f : Frame} {cs : List Frame} (hm : f.mode = .run) : stepG P true { frame := f, callers := cs, status := .running, dying := none } w = stepG.exec P true true f cs none w := by
  unfold stepG; simp [hm]
theorem stepG_unwind {f : Frame} {cs : List Frame} (hm : f.mode ≠ .run) : stepG P true { frame := f, callers := cs, status := .running, dying := none } w = unwind P true f cs none w := by
  unfold stepG
  cases hf : f.mode <;> simp_all

theorem FR.mode_run {a : AF} {f : Frame} (k : FR σ a f) (hm : a.mode = .run) : f.mode = .run := by
  have := k.mode
  rw [hm] at this
  generalize f.mode = m at this
  cases this; rfl
theorem FR.todo_nil {a : AF} {f : Frame} (k : FR σ a f) (ht : a.todo = []) : f.todo = [] := by
  have := k.todo
  rw [ht] at this
  generalize f.todo = m at this
  cases this; rfl
theorem FR.todo_cons {a : AF} {f : Frame} (k : FR σ a f) {i : Item} {r : List Item} (ht : a.todo = i :: r) : ∃ i' r', f.todo = i' :: r' ∧ ItemR σ i i' ∧ TodoR σ r r' := by
  have := k.todo
  rw [ht] at this
  generalize f.todo = m at this
  cases this with | cons hi ht => exact ⟨_, _, rfl, hi, ht⟩
theorem FR.rnd_none {a : AF} {f : Frame} (k : FR σ a f) (hr : a.rnd = none) : f.roundOf = none := by
  have := k.rnd; rw [hr] at this
  cases hq : f.roundOf <;> rw [hq] at this <;> first | rfl | exact this.elim
theorem FR.rnd_some {a : AF} {f : Frame} (k : FR σ a f) {l : Nat} (hr : a.rnd = some l) : ∃ e, σ l = some e ∧ f.roundOf = some e.blk := by
  have := k.rnd; rw [hr] at this
  cases hq : f.roundOf with
  | none => rw [hq] at this; exact this.elim
  | some m => rw [hq] at this; obtain ⟨e, h1, h2⟩ := this; exact ⟨e, h1, by rw [h2]⟩
theorem FR.with_todo {a : AF} {f : Frame} (k : FR σ a f) {t t' : List Item} (ht : TodoR σ t t') : FR σ { a with todo := t } { f with todo := t' } :=
  ⟨k.fn, k.tmps, ht, k.defers, k.mode, k.kind, k.rnd⟩

/-- A step that moves the list of what is to be done. -/
theorem goes_todo {a : AF} {f : Frame} {cs : List AF} {fs cs0 : List Frame} {k : AF → List AF → Nat → AM} {r : Value × T} {s : Nat} {t t' : List Item} (hfr : FR σ a f) (hcs : CR σ cs fs) (st : St σ w0 h w) (e : (k { a with todo := t } cs s).run h = some r) (ht : TodoR σ t t')
    (hs : (stepG P true { frame := f, callers := fs ++ cs0, status := .running, dying := none } w).bare = .go { frame := { f with todo := t' }, callers := fs ++ cs0, status := .running, dying := none } w) : Goes P w0 σ k (bot a cs) r f fs cs0 w :=
  Goes.one e (by refine bot_fn ?_ _; rfl) (step_lone_go hs) (.refl _) st (hfr.with_todo ht) hcs

/-- A loop's record. -/
theorem St.loop (st : St σ w0 h w) {l : Nat} {e : En} (he : σ l = some e) {q : Loop} (hq : h.get l = some (.loop q)) : ∃ q', w.heap[e.blk]? = some (.loop q') ∧ LoopR σ q q' ∧ (getObj e.blk).run P w = .ok (.loop q') w := by
  obtain ⟨_, q', a, b⟩ := st.hr.entry hq he
  exact ⟨q', a, b, by simp [getObj, Sem.run, a]⟩

theorem LoopR.upd {q q' : Loop} (k : LoopR σ q q') (s : LoopState) (p : Option Code) : LoopR σ { q with state := s, pending := p } { q' with state := s, pending := p } :=
  ⟨rfl, rfl, k.fn, k.tmps, k.params, k.assign, k.body, k.defers⟩

/-- A loop's record, written. -/
theorem St.setLoop (st : St σ w0 h w) {l : Nat} {e : En} (he : σ l = some e) {q q2 q2' : Loop} (hq : h.get l = some (.loop q)) (h2 : LoopR σ q2 q2') {m : AM} {r : Value × T} (x : (AM.put l (.loop q2) m).run h = some r) :
    ∃ h' w', m.run h' = some r ∧ (setObj e.blk (.loop q2')).run P w = .ok () w' ∧ St σ w0 h' w' ∧ (∀ o, h.get o = none → h'.get o = none) := by
  obtain ⟨_, q', a, _⟩ := st.hr.entry hq he
  rw [AM.run_put, hq] at x
  have hlt := lt_of_get? a
  refine ⟨h.set l (.loop q2), { w with heap := w.heap.setIfInBounds e.blk (.loop q2') }, x, ?_, ⟨?_, ?_⟩, fun o ho => ?_⟩
  · unfold Go.setObj; simp [Sem.run, a]
  · refine (st.hr.upd (o' := .loop q2) hq he rfl rfl rfl (by simp) (fun k hk => ?_) ?_ ?_ ?_).congr (fun m => T.get_set h l m _)
    · simp [Ne.symm hk]
    · exact ⟨q2', by simp [hlt], h2⟩
    · intro c t fr d u fs e1; cases e1
    · intro c t fr e1; cases e1
  · have hb := (st.hr.entry hq he).1 rfl
    have hb : w0.heap.size ≤ e.blk := hb
    exact st.below.trans ⟨rfl, rfl, rfl, by simp, fun k hk => by simp [show e.blk ≠ k by omega]⟩
  · rw [T.get_set]
    by_cases hlo : l = o
    · subst hlo; rw [hq] at ho; cases ho
    · rw [if_neg hlo]; exact ho

/-- The last frame answers: it returns, or its round is over. -/
def Done (P : Program) (w0 : World) (σ : Emb) (fin : Value → Nat → AM) (r : Value × T) (cs : List AF) (f : Frame) (cs0 : List Frame) (w : World) : Prop :=
  cs = [] ∧ ∃ v s' h', (fin v s').run h' = some r ∧ ∃ v' w', ((f.leaving P w (.returned v') ∧ w' = w) ∨ (f.roundOf ≠ none ∧ ∀ c rest, cs0 = c :: rest → step P (lone f (c :: rest) w) = .next (lone (c.finish v') rest w'))) ∧ St σ w0 h' w' ∧ VR σ v v'

/-- A jump out of a frame's code. -/
theorem goes_leave {a : AF} {f : Frame} {cs : List AF} {fs cs0 : List Frame} {k : AF → List AF → Nat → AM} {fin : Value → Nat → AM} {r : Value × T} {s : Nat} {jump : Option Code} (hfr : FR σ a f) (hcs : CR σ cs fs) (st : St σ w0 h w) (hm : a.mode = .run) (e : (aleave k fin a cs jump s).run h = some r)
    (hs2 : ∃ x, stepG P true { frame := f, callers := fs ++ cs0, status := .running, dying := none } w = (match f.roundOf with
      | none => if jump matches none | some .ret then GStep.go { frame := { f with mode := .returning }, callers := fs ++ cs0, status := .running, dying := none } w else x
      | some l => let (r, es) := (Instr.endRound l jump).runT P w #[]
        GStep.after (seen P f.fn es) <| match r with
        | .ok v w => doReturn P true f (fs ++ cs0) none v w
        | .halt _ w => .ended (.stuck "range over a function: no such loop" (f.pos P)) w)) : Goes P w0 σ k (bot a cs) r f fs cs0 w ∨ Done P w0 σ fin r cs f cs0 w := by
  obtain ⟨x, hs⟩ := hs2
  unfold aleave at e
  cases hr : a.rnd with
  | none =>
    rw [hr] at e
    have hrf := hfr.rnd_none hr
    rw [hrf] at hs
    have go : (k { a with mode := .returning } cs s).run h = some r → (stepG P true { frame := f, callers := fs ++ cs0, status := .running, dying := none } w = GStep.go { frame := { f with mode := .returning }, callers := fs ++ cs0, status := .running, dying := none } w) → Goes P w0 σ k (bot a cs) r f fs cs0 w := fun e' hs' =>
      Goes.one (f' := { f with mode := .returning }) e' (by refine bot_fn ?_ _; rfl) (step_lone_go (by rw [hs']; rfl)) (.refl _) st ⟨hfr.fn, hfr.tmps, hfr.todo, hfr.defers, .returning, hfr.kind, hfr.rnd⟩ hcs
    dsimp only at e
    split at e
    · exact .inl (go (by rw [hr]; exact e) (by rw [hs, hrf]; rfl))
    · exact .inl (go (by rw [hr]; exact e) (by rw [hs, hrf]; rfl))
    · cases e
  | some l =>
    rw [hr] at e
    obtain ⟨en, he, hrf⟩ := hfr.rnd_some hr
    rw [hrf] at hs
    dsimp only at e
    rw [AM.run_get] at e
    split at e
    · rename_i ob hob
      split at e
      · rename_i q
        obtain ⟨q', a1, a2, a3⟩ := st.loop (P := P) he hob
        obtain ⟨h', w', e2, run, st', _⟩ := st.setLoop (P := P) he hob (a2.upd (if jump.isNone then .ready else .done) jump) e
        split at e2
        · rename_i c rest hk
          cases hcs with
          | @cons _ cf _ rest' hcf hrest =>
          have hkf : f.kind = .normal := by rw [hfr.kind, hk]
          have hend : (Instr.endRound en.blk jump).run P w = .ok (.bool jump.isNone) w' := by
            unfold Instr.endRound Instr.getLoop
            simp only [Sem.run_bind, a3, Result.andThen_ok, Sem.run_pure, run]
          refine .inl (Goes.one (fs' := rest') e2 ?_ (step_lone_go ?_) (.refl _) st' (hcf.finish (.bool jump.isNone)) hrest)
          · simp only [bot]; exact bot_fn (finish_fn _ _) _
          · rw [hs]
            simp only [Sem.runT_eq, hend, GStep.bare_after, List.cons_append, doReturn, hkf]
            rfl
        · rename_i hk
          cases hcs
          have hkf : f.kind = .normal := by rw [hfr.kind, hk]
          have hend : (Instr.endRound en.blk jump).run P w = .ok (.bool jump.isNone) w' := by
            unfold Instr.endRound Instr.getLoop
            simp only [Sem.run_bind, a3, Result.andThen_ok, Sem.run_pure, run]
          refine .inr ⟨rfl, _, _, h', e2, .bool jump.isNone, w', .inr ⟨by rw [hrf]; simp, fun c rest hcs0 => step_lone_go ?_⟩, st', .bool _⟩
          subst hcs0
          rw [List.nil_append] at hs
          rw [hs]
          simp only [Sem.runT_eq, hend, GStep.bare_after, doReturn, hkf]
          rfl
        · cases e2
      · cases e
    · cases e

end
end Go.Ev

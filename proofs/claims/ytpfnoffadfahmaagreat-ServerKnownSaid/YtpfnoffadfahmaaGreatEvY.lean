/- The model's machine goes along to the end. No condition. -/
import Derived.Test.YtpfnoffadfahmaaGreatEvX
import Derived.Test.YtpfnoffadfahmaaGreatEvR
namespace Go.Ev
set_option linter.unusedVariables false
set_option linter.unusedSimpArgs false
open Go Go.RowKit

section
variable {P : Program} {w0 : World} {σ : Emb} {h : T} {w : World}

theorem goes_step [Known P] {nest : Nest} (hmx : P.follows .mixedOrders = true) (hnest : NestOK P w0 nest) {a : AF} {f : Frame} {cs : List AF} {fs cs0 : List Frame} {k : AF → List AF → Nat → AM} {fin : Value → Nat → AM} {r : Value × T} {s : Nat} (hfr : FR σ a f) (hcs : CR σ cs fs) (st : St σ w0 h w)
    (e : (astep P nest k fin a cs s).run h = some r) : Goes P w0 σ k (bot a cs) r f fs cs0 w ∨ Done P w0 σ fin r cs f cs0 w := by
  obtain ⟨fn, tmps, todo, ds, mode, kd, rn⟩ := a
  unfold astep at e
  dsimp only at e
  cases mode with
  | returning => exact goes_unwind hfr hcs st (by simp) e
  | panicking ch => exact goes_unwind hfr hcs st (by simp) e
  | run =>
  have hexec : stepG P true { frame := f, callers := fs ++ cs0, status := .running, dying := none } w = stepG.exec P true true f (fs ++ cs0) none w := stepG_run (hfr.mode_run rfl)
  cases todo with
  | nil =>
    have ht' := hfr.todo_nil rfl
    refine goes_leave hfr hcs st rfl e ⟨.ended (.stuck "exit, goto: no such block or label" (f.pos P)) w, ?_⟩
    rw [hexec]; unfold stepG.exec; simp only [ht']; rfl
  | cons i K =>
  obtain ⟨i', K', ht', hi, hK⟩ := hfr.todo_cons rfl
  -- where only the list moves
  have mv : ∀ {t t' : List Item}, (k ⟨fn, tmps, t, ds, .run, kd, rn⟩ cs s).run h = some r → TodoR σ t t' → stepG.exec P true true f (fs ++ cs0) none w = .go { frame := { f with todo := t' }, callers := fs ++ cs0, status := .running, dying := none } w →
      Goes P w0 σ k (bot ⟨fn, tmps, i :: K, ds, .run, kd, rn⟩ cs) r f fs cs0 w ∨ Done P w0 σ fin r cs f cs0 w := by
    intro t t' e ht hs
    refine .inl (goes_todo hfr hcs st e ht ?_)
    rw [hexec, hs]; rfl
  cases hi with
  | code c =>
    cases c with
    | ret =>
      refine goes_leave hfr hcs st rfl e ⟨.ended (.stuck "exit, goto: no such block or label" (f.pos P)) w, ?_⟩
      rw [hexec]; unfold stepG.exec; simp only [ht']; rfl
    | skip => exact mv e hK (by unfold stepG.exec; simp only [ht'])
    | label l => exact mv e hK (by unfold stepG.exec; simp only [ht'])
    | seq x y => exact mv e (.cons (.code _) (.cons (.code _) hK)) (by unfold stepG.exec; simp only [ht'])
    | cond c x y =>
      dsimp only at e
      cases hok : okOperand c with
      | false => rw [hok] at e; cases e
      | true =>
        rw [hok] at e
        simp only [cond_true] at e
        have hv := hfr.eval hok
        dsimp only at hv
        split at e
        · rename_i b hb
          rw [hb] at hv
          generalize hfv : f.eval c = fv at hv
          cases hv
          refine mv e (t' := .code (bif b then x else y) :: K') (.cons (.code _) hK) ?_
          unfold stepG.exec; simp only [ht', hfv]
          cases b <;> rfl
        · cases e
    | block id x => exact mv e (.cons (.code _) (.cons (.inBlock _) hK)) (by unfold stepG.exec; simp only [ht'])
    | loop x => exact mv e (.cons (.code _) (.cons (.inLoop _) hK)) (by unfold stepG.exec; simp only [ht'])
    | scope x => exact mv e (.cons (.code _) (.cons (.inScope _) hK)) (by unfold stepG.exec; simp only [ht'])
    | exit id =>
      dsimp only at e
      rcases hK.exitTo id with ⟨h1, h2⟩ | ⟨a', b', h1, h2, h3⟩
      · rw [h1] at e
        refine goes_leave hfr hcs st rfl e ⟨.ended (.stuck "exit, goto: no such block or label" (f.pos P)) w, ?_⟩
        rw [hexec]; unfold stepG.exec; simp only [ht', h2]; rfl
      · rw [h1] at e
        exact mv e h3 (by unfold stepG.exec; simp only [ht', h2]; rfl)
    | goto l =>
      dsimp only at e
      rcases hK.gotoIn l with ⟨h1, h2⟩ | ⟨a', b', h1, h2, h3⟩
      · rw [h1] at e
        refine goes_leave hfr hcs st rfl e ⟨.ended (.stuck "exit, goto: no such block or label" (f.pos P)) w, ?_⟩
        rw [hexec]; unfold stepG.exec; simp only [ht', h2]; rfl
      · rw [h1] at e
        exact mv e h3 (by unfold stepG.exec; simp only [ht', h2]; rfl)
    | region id ops draw =>
      dsimp only at e
      cases draw with
      | false => exact mv e (.cons (.inRegion _ _) hK) (by unfold stepG.exec; simp only [ht']; rfl)
      | true => exact .inl (goes_draw hmx hnest hfr hcs st rfl rfl e)
    | rangeFunc x params as body => exact .inl (goes_range hfr hcs st rfl rfl e)
    | refuse why => cases e
  | inBlock b => exact mv e hK (by unfold stepG.exec; simp only [ht'])
  | inScope b => exact mv e hK (by unfold stepG.exec; simp only [ht'])
  | inLoop x => exact mv e (.cons (.code _) (.cons (.inLoop _) hK)) (by unfold stepG.exec; simp only [ht'])
  | inRegion ops l =>
    cases l with
    | nil => exact mv e hK (by unfold stepG.exec; simp only [ht'])
    | cons j l =>
      dsimp only at e
      cases ho : ops[j]? with
      | none =>
        rw [ho] at e
        have hs := step_skip_op (P := P) (cs := fs ++ cs0) (w := w) (hfr.mode_run rfl) ht' (by rw [ho]; rfl)
        have hf := hfr.finish (v := undef) (v' := undef) VR.undef
        unfold AF.finish at hf
        simp only [ho, Option.bind_none, aput'] at hf
        exact .inl (Goes.one e (by refine bot_fn ?_ _; rfl) hs (.refl _) st hf hcs)
      | some o =>
        rw [ho] at e
        dsimp only at e
        cases hw : awanted ops tmps o with
        | true =>
          rw [hw] at e
          exact .inl (goes_oper hfr hcs st rfl rfl ho hw e)
        | false =>
          rw [hw] at e
          have hs := step_skip_op (P := P) (cs := fs ++ cs0) (w := w) (hfr.mode_run rfl) ht' (by rw [ho]; simp only [Option.map_some, Option.getD_some]; rw [awanted_eq hfr.tmps]; exact hw)
          have hf := hfr.finish (v := undef) (v' := undef) VR.undef
          unfold AF.finish at hf
          simp only [ho, Option.bind_some] at hf
          exact .inl (Goes.one e (by refine bot_fn ?_ _; rfl) hs (.refl _) st hf hcs)
  | beginRound => exact .inl (goes_begin hfr hcs st rfl rfl e)
  | inRange l en he => cases e
  | endRange l en he => exact .inl (goes_end hfr hcs st rfl rfl e)

/-- **It runs to the end.** -/
theorem arun_spec [Known P] (hmx : P.follows .mixedOrders = true) : ∀ (n : Nat) (a : AF) (cs : List AF) (fin : Value → Nat → AM) (s : Nat) (σ : Emb) (h : T) (w : World) (f : Frame) (fs cs0 : List Frame) (r : Value × T), FR σ a f → CR σ cs fs → St σ w0 h w → (arun P n a cs fin s).run h = some r →
    ∃ v s' h', (fin v s').run h' = some r ∧ ∃ fE v' w1 w' σ', Steps P (lone f (fs ++ cs0) w) (lone fE cs0 w1) ∧ ((fE.leaving P w1 (.returned v') ∧ w' = w1) ∨ ((bot a cs).2 ≠ none ∧ ∀ c rest, cs0 = c :: rest → step P (lone fE (c :: rest) w1) = .next (lone (c.finish v') rest w'))) ∧ σ.le σ' ∧ St σ' w0 h' w' ∧ VR σ' v v' ∧ fE.fn = (bot a cs).1 := by
  intro n
  induction n with
  | zero => intro a cs fin s σ h w f fs cs0 r _ _ _ e; cases e
  | succ n ih =>
    intro a cs fin s σ h w f fs cs0 r hfr hcs st e
    have e2 : (astep P (fun b q => arun P n b [] q) (fun a' cs' s' => arun P n a' cs' fin s') fin a cs s).run h = some r := e
    have hnest : NestOK P w0 (fun b q => arun P n b [] q) := by
      intro a q s h r σ w f cs0 hfr st e
      obtain ⟨v, s2, h2, e3, fE, v', w1, w2, σ2, steps2, hl, le2, st2, hv, _⟩ := ih a [] q s σ h w f [] cs0 r hfr .nil st e
      refine ⟨v, s2, h2, e3, v', w2, σ2, fun c rest hc => ?_, le2, st2, hv⟩
      subst hc
      rcases hl with ⟨hl, rfl⟩ | ⟨_, hl⟩
      · exact steps2.trans (.one (step_leave_returned hl))
      · exact steps2.trans (.one (hl c rest rfl))
    rcases goes_step (cs0 := cs0) hmx hnest hfr hcs st e2 with ⟨a', cs', s', h', e', hb, f', fs', w', σ', steps, le, st', hf', hc'⟩ | ⟨hcs0, v, s', h', e', v', w', hl, st', hv⟩
    · obtain ⟨v, s2, h2, e3, fE, v', w1, w2, σ2, steps2, hl, le2, st2, hv, hfn⟩ := ih a' cs' fin s' σ' h' w' f' fs' cs0 r hf' hc' st' e'
      rw [hb] at hl hfn
      exact ⟨v, s2, h2, e3, fE, v', w1, w2, σ2, steps.trans steps2, hl, le.trans le2, st2, hv, hfn⟩
    · subst hcs0
      cases hcs
      refine ⟨v, s', h', e', f, v', w, w', σ, .refl _ _, ?_, .refl _, st', hv, hfr.fn⟩
      rcases hl with hl | ⟨hr, hl⟩
      · exact .inl hl
      · refine .inr ⟨fun hn => hr (hfr.rnd_none hn), hl⟩

/-- The empty heap. -/
theorem St.start (w0 : World) : St (fun _ => none) w0 .nil w0 :=
  ⟨⟨fun _ _ e => (by cases e), fun _ _ e => (by cases e), fun _ _ _ _ _ _ _ e => (by cases e), Nat.le_refl _⟩, Below.refl _ _⟩

/-- **A call without arguments, run in the kernel.** -/
theorem calls_of_run [Known P] (hmx : P.follows .mixedOrders = true) {g : FuncId} {n : Nat} {a : AF} (ha : AF.enter P g [] .normal = some a) {u : Value} {hE : T} (hp : ∀ (σ : Emb) (u' : Value), VR σ u u' → u' = u) (e : (arun P n a [] (fun v _ => .ret v) 1).run .nil = some (u, hE)) (w : World) :
    Calls P g #[] w (fun q w' => q = .returned u ∧ Below w.heap.size w w') := by
  intro cs
  obtain ⟨v, s', h', e1, fE, v', w1, w', σ', steps, hl, le, st, hv, hfn⟩ := arun_spec (w0 := w) hmx n a [] _ 1 (fun _ => none) .nil w (Frame.enter P g #[] .normal) [] cs _ (FR.enter (args := []) (args' := #[]) .nil ha) .nil (St.start w) e
  rw [AM.run_ret] at e1
  obtain ⟨rfl, rfl⟩ := Prod.mk.inj (Option.some.inj e1)
  have := hp σ' v' hv
  subst this
  have hfa : a.fn = g ∧ a.rnd = none := by
    unfold AF.enter at ha
    split at ha
    · split at ha
      · obtain rfl := Option.some.inj ha; exact ⟨rfl, rfl⟩
      · cases ha
    · cases ha
  obtain ⟨hl, rfl⟩ : fE.leaving P w1 (.returned v') ∧ w' = w1 := hl.resolve_right fun hn => hn.1 hfa.2
  exact ⟨.returned v', w', fE, ⟨rfl, st.below⟩, steps, hfn.trans hfa.1, hl⟩

end
end Go.Ev


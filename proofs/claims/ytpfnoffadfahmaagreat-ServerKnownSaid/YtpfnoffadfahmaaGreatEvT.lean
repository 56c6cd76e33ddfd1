/- The model's machine goes along: regions whose order is open. No condition. -/
import Derived.Test.YtpfnoffadfahmaaGreatEvS
namespace Go.Ev
set_option linter.unusedVariables false
set_option linter.unusedSimpArgs false
open Go Go.RowKit

section
variable {P : Program} {w0 : World}

/-- A frame's own operation. -/
theorem stepG_oper {f : Frame} {cs : List Frame} {w : World} {ops : Array Oper} {j : Nat} {rest : List Nat} {K : List Item} {o : Oper} (hm : f.mode = .run) (ht : f.todo = .inRegion ops (j :: rest) :: K) (ho : ops[j]? = some o)
    (hw : Region.wanted o (yielded ops f.tmps) = true) (hd : f.roundOf = none ∨ isDefer o.op = false) :
    stepG P true { frame := f, callers := cs, status := .running, dying := none } w = stepG.apply P true f cs none (execOp f.eval o) w := by
  have h1 : stepG P true { frame := f, callers := cs, status := .running, dying := none } w = stepG.exec P true true f cs none w := by
    unfold stepG; simp [hm]
  rw [h1]
  unfold stepG.exec
  simp only [ht, ho, Option.map_some, Option.getD_some, hw, if_true]
  unfold stepG.oper
  have : f.oper? = some o := by unfold Frame.oper?; rw [ht]; exact ho
  simp only [this]
  rcases hd with hd | hd
  · rw [hd]
  · split
    · rename_i heq; rw [heq] at hd; cases hd
    · rfl

theorem step_skip_op {f : Frame} {cs : List Frame} {w : World} {ops : Array Oper} {j : Nat} {rest : List Nat} {K : List Item} (hm : f.mode = .run) (ht : f.todo = .inRegion ops (j :: rest) :: K)
    (hw : ((ops[j]?).map (Region.wanted · (yielded ops f.tmps))).getD false = false) : step P (lone f cs w) = .next (lone (f.finish undef) cs w) := by
  refine step_lone_go ?_
  have h1 : stepG P true { frame := f, callers := cs, status := .running, dying := none } w = stepG.exec P true true f cs none w := by
    unfold stepG; simp [hm]
  rw [h1]
  unfold stepG.exec
  simp only [ht, hw, Bool.false_eq_true, if_false]
  rfl

/-- A call that is run to its end. -/
def NestOK (P : Program) (w0 : World) (nest : Nest) : Prop :=
  ∀ (a : AF) (q : Value → Nat → AM) (s : Nat) (h : T) (r : Value × T) (σ : Emb) (w : World) (f : Frame) (cs0 : List Frame), FR σ a f → St σ w0 h w → (nest a q s).run h = some r →
    ∃ v s' h', (q v s').run h' = some r ∧ ∃ v' w' σ', (∀ c rest, cs0 = c :: rest → Steps P (lone f cs0 w) (lone (c.finish v') rest w')) ∧ σ.le σ' ∧ St σ' w0 h' w' ∧ VR σ' v v'

/-- One operation of a region whose order is open. -/
theorem goes_drawn [Known P] {nest : Nest} (hnest : NestOK P w0 nest) {σ : Emb} {g g' : T} {w : World} {fn : FuncId} {tmps : List Value} {ds : List Deferred} {kd : CallKind} {rn : Option Nat} {K : List Item} {ops : Array Oper} {j : Nat} {rest : List Nat} {o : Oper} {f : Frame} {cs0 : List Frame} {s sE : Nat} {v : Value}
    (ho : ops[j]? = some o) (hfr : FR σ ⟨fn, tmps, .inRegion ops (j :: rest) :: K, ds, .run, kd, rn⟩ f) (st : St σ w0 g w) (hw : awanted ops tmps o = true) (hok : okOperD o = true) (e : (aopV P nest tmps o s).run g = some (pk v sE, g')) :
    ∃ v' w' σ', Steps P (lone f cs0 w) (lone (f.finish v') cs0 w') ∧ σ.le σ' ∧ St σ' w0 g' w' ∧ VR σ' v v' := by
  unfold okOperD at hok
  simp only [Bool.and_eq_true, Bool.not_eq_true'] at hok
  have hops : ∀ x ∈ o.op.operands, VR σ (aev tmps x) (f.eval x) := fun x hx => hfr.eval (List.all_eq_true.1 hok.1 x (Array.mem_toList_iff.2 hx))
  have hmode : f.mode = .run := by
    have h0 := hfr.mode
    generalize f.mode = m at h0
    cases h0; rfl
  have htodo : ∃ K', f.todo = .inRegion ops (j :: rest) :: K' := by
    have h0 := hfr.todo
    generalize f.todo = m at h0
    cases h0 with | cons hi ht => cases hi; exact ⟨_, rfl⟩
  obtain ⟨K', htodo⟩ := htodo
  have hwant : Region.wanted o (yielded ops f.tmps) = true := by rw [awanted_eq hfr.tmps]; exact hw
  have hstep := stepG_oper (P := P) (cs := cs0) (w := w) hmode htodo ho hwant (.inr hok.2)
  unfold aopV at e
  obtain ⟨nx, s1, h1, e1, nx', w1, σ1, run, le1, st1, hn⟩ := Sim.op (P := P) (w := w) st hops _ _ _ e
  have hcallk : (match f.todo with | .call _ true _ _ :: _ => CallKind.wrapped | _ => .normal) = .normal := by rw [htodo]
  cases hn with
  | @value u u' hv =>
    rw [AM.run_ret] at e1
    obtain ⟨e2, rfl⟩ := Prod.mk.inj (Option.some.inj e1)
    obtain ⟨rfl, rfl⟩ := pk_inj e2
    refine ⟨u', w1, σ1, .one (step_lone_go ?_), le1, st1, hv⟩
    rw [hstep]; simp [stepG.apply, run]
  | skip =>
    rw [AM.run_ret] at e1
    obtain ⟨e2, rfl⟩ := Prod.mk.inj (Option.some.inj e1)
    obtain ⟨rfl, rfl⟩ := pk_inj e2
    refine ⟨undef, w1, σ1, .one (step_lone_go ?_), le1, st1, VR.undef⟩
    rw [hstep]; simp [stepG.apply, run]
  | @enter fc a a' ha =>
    dsimp only at e1
    rcases askK_run e1 with ⟨hy, e1⟩ | ⟨hkn, e1⟩
    · obtain ⟨w2, hst, hbl⟩ := why_steps hy st1 ha f cs0
      rw [AM.run_ret] at e1
      obtain ⟨e2, rfl⟩ := Prod.mk.inj (Option.some.inj e1)
      obtain ⟨rfl, rfl⟩ := pk_inj e2
      refine ⟨.bool true, w2, σ1, .head (step_lone_go (fr' := Frame.enter P fc a' .normal) (cs' := f :: cs0) (w' := w1) ?_) hst, le1, st1.after hbl, .bool true⟩
      rw [hstep]
      simp only [stepG.apply, Sem.runT_eq, run, if_true, GStep.bare_after]
      split
      · rename_i hq; rw [htodo] at hq; cases hq
      · rfl
    split at e1
    · rename_i b hb
      obtain ⟨v2, s2, h2, e2, hall⟩ := hnest b _ _ _ _ σ1 w1 _ (f :: cs0) (FR.enter ha hb) st1 e1
      rw [AM.run_ret] at e2
      obtain ⟨e3, rfl⟩ := Prod.mk.inj (Option.some.inj e2)
      obtain ⟨rfl, rfl⟩ := pk_inj e3
      obtain ⟨v', w', σ', steps, le2, st2, hv⟩ := hall
      refine ⟨v', w', σ', .head (step_lone_go (fr' := Frame.enter P fc a' .normal) (cs' := f :: cs0) (w' := w1) ?_) (steps _ _ rfl), le1.trans le2, st2, hv⟩
      rw [hstep]
      simp only [stepG.apply, Sem.runT_eq, run, if_true, GStep.bare_after]
      split
      · rename_i hq; rw [htodo] at hq; cases hq
      · rfl
    · cases e1
  | @round l en he g t t' ht as body =>
    dsimp only at e1
    obtain ⟨v2, s2, h2, e2, hall⟩ := hnest ⟨g, t.toList, [.code as, .beginRound, .code body], [], .run, .normal, some l⟩ _ _ _ _ σ1 w1 (Frame.round en.blk g t' as body .normal) (f :: cs0) ⟨rfl, ht, .cons (.code as) (.cons .beginRound (.cons (.code body) .nil)), .nil, .run, rfl, ⟨en, he, rfl⟩⟩ st1 e1
    rw [AM.run_ret] at e2
    obtain ⟨e3, rfl⟩ := Prod.mk.inj (Option.some.inj e2)
    obtain ⟨rfl, rfl⟩ := pk_inj e3
    obtain ⟨v', w', σ', steps, le2, st2, hv⟩ := hall
    refine ⟨v', w', σ', .head (step_lone_go (fr' := Frame.round en.blk g t' as body .normal) (cs' := f :: cs0) (w' := w1) ?_) (steps _ _ rfl), le1.trans le2, st2, hv⟩
    rw [hstep]
    simp only [stepG.apply, Sem.runT_eq, run, if_true, GStep.bare_after]
    rfl
  | _ => cases e1

/-- How many are not listed yet. -/
def unlisted (n : Nat) (listed : Array Bool) : Nat := (List.range n).countP fun i => !listed.getD i true
theorem countP_lt {p q : Nat → Bool} {i : Nat} : ∀ {l : List Nat}, i ∈ l → p i = true → q i = false → (∀ x, q x = true → p x = true) → l.countP q < l.countP p
  | [], h, _, _, _ => by simp at h
  | x :: l, h, hp, hq, hqp => by
    have hle : l.countP q ≤ l.countP p := List.countP_mono_left fun y _ hy => hqp y hy
    by_cases hx : x = i
    · subst hx
      rw [List.countP_cons_of_pos hp, List.countP_cons_of_neg (by rw [hq]; simp)]
      omega
    · have hi : i ∈ l := by
        rcases List.mem_cons.1 h with h | h
        · exact absurd h.symm hx
        · exact h
      have := countP_lt hi hp hq hqp
      rw [List.countP_cons, List.countP_cons]
      cases hqx : q x with
      | true => rw [hqp x hqx]; simp; exact this
      | false =>
        simp only [Bool.false_eq_true, if_false]
        omega

variable {nest : Nest} {ops : Array Oper} {sn : Nat → Nat} {tm : Nat → List Value} {hp : Nat → T} {v : Nat → Value} {ts ws : Nat → List Nat}

theorem linearise_next {fuel t : Nat} {listed : Array Bool} {i : Nat} (h : (Region.ready .any ops listed)[t % (Region.ready .any ops listed).length]? = some i) :
    Region.linearise.go .any ops (fuel + 1) t listed [] = i :: Region.linearise.go .any ops fuel (t / (Region.ready .any ops listed).length) (listed.setIfInBounds i true) [] := by
  simp only [Region.linearise.go]
  unfold Region.ready at h
  rw [h]
  dsimp only
  rw [linearise_go_acc]
  rfl

/-- **All of them, in whatever order the edges allow.** -/
theorem goes_order [Known P] (hnest : NestOK P w0 nest) (hc : Can P nest ops sn 0 tm hp v ts ws) (hok : Edges ops) (hany : AnyStep P nest ops sn tm hp v ws) {fn : FuncId} {ds : List Deferred} {kd : CallKind} {rn : Option Nat} {K : List Item} {cs0 : List Frame} :
    ∀ (fuel t : Nat) (listed : Array Bool) (tmps : List Value) (g : T) (σ : Emb) (w : World) (f : Frame), listed.size = ops.size → unlisted ops.size listed ≤ fuel → Closed ops.toList (fun i => listed.getD i false) → TInv ops tm v (fun i => listed.getD i false) tmps → HInv ops hp ws (fun i => listed.getD i false) g →
      St σ w0 g w → FR σ ⟨fn, tmps, .inRegion ops (Region.linearise.go .any ops fuel t listed []) :: K, ds, .run, kd, rn⟩ f →
      ∃ (tmps' : List Value) (g' : T) (σ' : Emb) (w' : World) (f' : Frame), Steps P (lone f cs0 w) (lone f' cs0 w') ∧ σ.le σ' ∧ St σ' w0 g' w' ∧ FR σ' ⟨fn, tmps', .inRegion ops [] :: K, ds, .run, kd, rn⟩ f' ∧ TInv ops tm v (fun _ => true) tmps' ∧ HInv ops hp ws (fun _ => true) g' := by
  -- where all are listed
  have fin : ∀ (listed : Array Bool) (tmps : List Value) (g : T) (σ : Emb) (w : World) (f : Frame), (∀ i, i < ops.size → listed.getD i false = true) → TInv ops tm v (fun i => listed.getD i false) tmps → HInv ops hp ws (fun i => listed.getD i false) g → St σ w0 g w →
      FR σ ⟨fn, tmps, .inRegion ops [] :: K, ds, .run, kd, rn⟩ f → ∃ (tmps' : List Value) (g' : T) (σ' : Emb) (w' : World) (f' : Frame), Steps P (lone f cs0 w) (lone f' cs0 w') ∧ σ.le σ' ∧ St σ' w0 g' w' ∧ FR σ' ⟨fn, tmps', .inRegion ops [] :: K, ds, .run, kd, rn⟩ f' ∧ TInv ops tm v (fun _ => true) tmps' ∧ HInv ops hp ws (fun _ => true) g' := by
    intro listed tmps g σ w f hall ht hh st hfr
    refine ⟨tmps, g, σ, w, f, .refl _ _, .refl _, st, hfr, ⟨ht.1, fun t => ?_⟩, fun m => ?_⟩
    · rw [ht.2 t, lastW_congr (q := fun i => true && dW ops t i) fun i hi => by simp only [hall i hi]]
    · rw [hh m, lastW_congr (q := fun i => true && has (ws i) m) fun i hi => by simp only [hall i hi]]
  intro fuel
  induction fuel with
  | zero =>
    intro t listed tmps g σ w f hsz hun hcl ht hh st hfr
    refine fin listed tmps g σ w f (fun i hi => ?_) ht hh st hfr
    have h0 : unlisted ops.size listed = 0 := by omega
    unfold unlisted at h0
    rw [List.countP_eq_zero] at h0
    have := h0 i (List.mem_range.2 hi)
    simp only [Bool.not_eq_true', Bool.not_eq_false] at this
    have hlt : i < listed.size := by omega
    simpa [Array.getD, hlt] using this
  | succ fuel ih =>
    intro t listed tmps g σ w f hsz hun hcl ht hh st hfr
    by_cases hne : Region.ready .any ops listed = []
    · -- nothing is ready: all are listed
      have hall : ∀ i, i < ops.size → listed.getD i false = true := by
        intro i
        induction i using Nat.strongRecOn with
        | ind i ihi =>
          intro hi
          cases hl : listed.getD i false with
          | true => rfl
          | false =>
            exfalso
            have hlt : i < listed.size := by omega
            have : i ∈ Region.ready .any ops listed := by
              rw [mem_ready]
              refine ⟨by simpa [Array.getD, hlt] using hl, ops[i], by simp [hi], fun e he hb => ?_⟩
              have hok1 := hok
              unfold Edges at hok1
              rw [List.all_eq_true] at hok1
              have := hok1 i (List.mem_range.2 hi)
              simp only [show ops[i]? = some ops[i] by simp [hi], List.all_eq_true] at this
              have := this e (Array.mem_toList_iff.2 he)
              simp only [hb, Bool.not_true, Bool.false_or, decide_eq_true_eq] at this
              exact ihi e.on this (by omega)
            rw [hne] at this; simp at this
      have hgo : Region.linearise.go .any ops (fuel + 1) t listed [] = [] := by
        simp only [Region.linearise.go]
        unfold Region.ready at hne
        rw [hne]; rfl
      rw [hgo] at hfr
      exact fin listed tmps g σ w f hall ht hh st hfr
    · have hlen : 0 < (Region.ready .any ops listed).length := List.length_pos_iff.2 hne
      obtain ⟨i, hi⟩ : ∃ i, (Region.ready .any ops listed)[t % (Region.ready .any ops listed).length]? = some i := ⟨_, List.getElem?_eq_getElem (Nat.mod_lt _ hlen)⟩
      rw [linearise_next hi] at hfr
      have hmem := List.mem_of_getElem? hi
      obtain ⟨hl0, o, ho, hdeps⟩ := mem_ready.1 hmem
      have hio := lt_of_get? ho
      have hlt : i < listed.size := by omega
      have hDi : listed.getD i false = false := by simpa [Array.getD, hlt] using hl0
      have hD' : (fun q => (listed.setIfInBounds i true).getD q false) = fun q => (listed.getD q false || decide (q = i)) := by
        funext q
        by_cases hq : q = i
        · subst hq; simp [Array.getD, hlt]
        · rw [getD_set_ne false (Ne.symm hq)]; simp [hq]
      obtain ⟨t1, t2⟩ := hany ho hDi hcl hdeps ht hh
      have hcl' : Closed ops.toList (fun q => (listed.setIfInBounds i true).getD q false) := by
        rw [hD']
        intro q oq hq hDq e he hb
        simp only [Bool.or_eq_true, decide_eq_true_eq] at hDq ⊢
        rcases hDq with hDq | hDq
        · exact .inl (hcl q oq hq hDq e he hb)
        · subst hDq
          have h2 : ops[q]? = some oq := by simpa using hq
          rw [ho] at h2; cases h2
          exact .inl (hdeps e he hb)
      have hun' : unlisted ops.size (listed.setIfInBounds i true) ≤ fuel := by
        have : unlisted ops.size (listed.setIfInBounds i true) < unlisted ops.size listed := by
          unfold unlisted
          refine countP_lt (i := i) (List.mem_range.2 hio) (by simp [hl0]) (by simp [Array.getD, hlt]) (fun x hx => ?_)
          by_cases hxi : x = i
          · subst hxi; simp [hl0]
          · rw [getD_set_ne true (Ne.symm hxi)] at hx; exact hx
        omega
      have hmode : f.mode = .run := by
        have h0 := hfr.mode
        generalize f.mode = m at h0
        cases h0; rfl
      have htodo : ∃ K', f.todo = .inRegion ops (i :: Region.linearise.go .any ops fuel (t / (Region.ready .any ops listed).length) (listed.setIfInBounds i true) []) :: K' := by
        have h0 := hfr.todo
        generalize f.todo = m at h0
        cases h0 with | cons hi ht => cases hi; exact ⟨_, rfl⟩
      obtain ⟨K', htodo⟩ := htodo
      have hfin : ∀ {σ' : Emb} {u u' : Value}, σ.le σ' → VR σ' u u' → FR σ' ⟨fn, aput' tmps o.dst u, .inRegion ops (Region.linearise.go .any ops fuel (t / (Region.ready .any ops listed).length) (listed.setIfInBounds i true) []) :: K, ds, .run, kd, rn⟩ (f.finish u') := by
        intro σ' u u' le hu
        have := (hfr.mono le).finish hu
        unfold AF.finish at this
        simpa [ho] using this
      rcases t2 with ⟨b1, b2, g', b3, b4⟩ | ⟨b1, b2, b3⟩
      · obtain ⟨v', w', σ', steps, le, st', hv⟩ := goes_drawn (cs0 := cs0) hnest ho hfr st b1 b2 b3
        obtain ⟨tmps2, g2, σ2, w2, f2, r1, r2, r3, r4, r5, r6⟩ := ih (t / (Region.ready .any ops listed).length) (listed.setIfInBounds i true) _ g' σ' w' (f.finish v') (by simpa using hsz) hun' hcl' (by rw [hD']; exact t1) (by rw [hD']; exact b4) st' (hfin le hv)
        exact ⟨tmps2, g2, σ2, w2, f2, steps.trans r1, le.trans r2, r3, r4, r5, r6⟩
      · have hstep : step P (lone f cs0 w) = .next (lone (f.finish undef) cs0 w) := step_skip_op hmode htodo (by rw [ho]; simp only [Option.map_some, Option.getD_some]; rw [awanted_eq hfr.tmps]; exact b1)
        rw [b2] at t1
        obtain ⟨tmps2, g2, σ2, w2, f2, r1, r2, r3, r4, r5, r6⟩ := ih (t / (Region.ready .any ops listed).length) (listed.setIfInBounds i true) _ g σ w (f.finish undef) (by simpa using hsz) hun' hcl' (by rw [hD']; exact t1) (by rw [hD']; exact b3) st (hfin (.refl _) VR.undef)
        exact ⟨tmps2, g2, σ2, w2, f2, .head hstep r1, r2, r3, r4, r5, r6⟩

end
end Go.Ev

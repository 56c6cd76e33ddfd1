/- The machine over a heap of names tells no less than a function's body as one term. No condition. -/
import Derived.Test.YtgiemmoomdndaaaGreatXE
namespace Go.Ev
open Go Go.RowKit
set_option linter.unusedVariables false
set_option linter.unusedSimpArgs false

section
variable {P : Program}
def Qt (r : Option Value) (A : M Next) : Prop := ∀ (k : Next → Nat → AM) s, A k s = match r with | some v => k (.value v) s | none => .fail
theorem qt_plain (ρ : Operand → Value) (o : Oper) : ∃ r, Qt r (aplain P ρ o) := by
  unfold aplain
  cases o.op.operands.toList.all _
  · exact ⟨none, fun _ _ => rfl⟩
  · cases hp : pureRun P (execOp ρ o) with
    | none => exact ⟨none, fun _ _ => rfl⟩
    | some nx => cases nx with
      | value v => cases hv : plainV v; exact ⟨none, fun _ _ => by simp [hv]⟩; exact ⟨some v, fun _ _ => by simp [hv]⟩
      | _ => exact ⟨none, fun _ _ => rfl⟩
theorem qt_opt (o : Option Value) : ∃ r, Qt r (fun k => M.opt o (fun v => k (.value v))) := by
  cases o with
  | none => exact ⟨none, fun _ _ => rfl⟩
  | some v => exact ⟨some v, fun _ _ => rfl⟩
theorem quiet_spec (ρ : Operand → Value) {o : Oper} (hq : quiet o = true) : ∃ r, Qt r (aop P ρ o) := by
  unfold quiet at hq
  unfold aop
  cases ho : o.op <;> rw [ho] at hq <;> try (exact (Bool.noConfusion hq : _))
  case move x => exact ⟨some (ρ x), fun _ _ => rfl⟩
  case assign x => exact ⟨some (ρ x), fun _ _ => rfl⟩
  case pick c a b =>
    dsimp only
    cases ρ c with
    | bool t => exact ⟨some (bif t then ρ a else ρ b), fun _ _ => rfl⟩
    | _ => exact ⟨none, fun _ _ => rfl⟩
  case build => exact qt_opt _
  case binOp op t x y yt =>
    dsimp only
    cases aeqNil P t (ρ x) (ρ y) with
    | none => exact qt_plain _ _
    | some b =>
      dsimp only
      cases isEq op
      · cases isNeq op
        · exact ⟨none, fun _ _ => rfl⟩
        · exact ⟨some (.bool !b), fun _ _ => rfl⟩
      · exact ⟨some (.bool b), fun _ _ => rfl⟩
  case unOp => exact qt_plain _ _
  case makeInterface t x =>
    dsimp only
    cases P.underlying t with
    | none => exact ⟨none, fun _ _ => rfl⟩
    | some d => cases d <;> first | exact ⟨none, fun _ _ => rfl⟩ | exact ⟨some (.iface t (ρ x)), fun _ _ => rfl⟩
  case fieldAddr => exact qt_opt _
  case field => exact qt_opt _
  case indexAddr => exact qt_opt _
  case index t x i =>
    dsimp only
    cases P.underlying t with
    | none => exact qt_opt _
    | some d => cases d <;> first | exact qt_plain _ _ | exact qt_opt _
  case typeAssert => exact qt_opt _
  case extract x i =>
    dsimp only
    cases ρ x with
    | tuple vs => exact qt_opt _
    | _ => exact ⟨none, fun _ _ => rfl⟩

theorem log_ret {u : Value} {k : Value → List Nat → List Nat → AM} : AM.le (k u [] []) (.log (.ret u) k) := by
  intro h ts ws o e
  rw [AM.runL_log, AM.runL_ret]
  exact e

/-! ### groups under one guard -/
def Grp (ops : Array Oper) : List Oper → Prop
  | o :: p :: g => joins ops o p = true ∧ Grp ops (p :: g)
  | _ => True
def GrpS (ops : Array Oper) (d : Nat) (want : Bool) : List Oper → Prop
  | [] => True
  | o :: g => gdSlot ops o = some (d, want) ∧ (g = [] ∨ o.dst ≠ some d) ∧ GrpS ops d want g
theorem groups_flat (ops : Array Oper) : ∀ l : List Oper, (groups ops l).flatten = l
  | [] => rfl
  | o :: l => by
    have ih := groups_flat ops l
    unfold groups
    split
    · rename_i p g gs h
      rw [h] at ih
      cases joins ops o p
      · simpa using ih
      · simpa using ih
    · simp [ih]
theorem groups_grp (ops : Array Oper) : ∀ (l : List Oper), ∀ g ∈ groups ops l, Grp ops g ∧ g ≠ []
  | [], g, h => by cases h
  | o :: l, g, h => by
    have ih := groups_grp ops l
    unfold groups at h
    split at h
    · rename_i p g' gs hg
      rw [hg] at ih
      cases hj : joins ops o p with
      | false =>
        rw [hj] at h
        simp only [cond_false, List.mem_cons] at h
        rcases h with rfl | h
        · exact ⟨trivial, by simp⟩
        · exact ih g (List.mem_cons.2 h)
      | true =>
        rw [hj] at h
        simp only [cond_true, List.mem_cons] at h
        rcases h with rfl | h
        · exact ⟨⟨hj, (ih _ (List.mem_cons_self ..)).1⟩, by simp⟩
        · exact ih g (List.mem_cons_of_mem _ h)
    · rcases List.mem_cons.1 h with rfl | h
      · exact ⟨trivial, by simp⟩
      · exact ih g h
theorem Grp.allNone {ops : Array Oper} : ∀ {g : List Oper} {o : Oper}, Grp ops (o :: g) → o.guard = none → ∀ p ∈ o :: g, p.guard = none
  | [], o, _, h, p, hp => by simp at hp; subst hp; exact h
  | q :: g, o, hg, h, p, hp => by
    rcases List.mem_cons.1 hp with rfl | hp
    · exact h
    · have hj := hg.1
      unfold joins at hj
      rw [h] at hj
      cases hq : q.guard with
      | none => exact Grp.allNone hg.2 hq p hp
      | some x => rw [hq] at hj; cases hj
theorem Grp.allSome {ops : Array Oper} {d : Nat} {want : Bool} : ∀ {g : List Oper} {o : Oper}, Grp ops (o :: g) → gdSlot ops o = some (d, want) → GrpS ops d want (o :: g)
  | [], o, _, h => ⟨h, .inl rfl, trivial⟩
  | q :: g, o, hg, h => by
    have hj := hg.1
    unfold joins at hj
    rw [h] at hj
    have hgu : q.guard = o.guard ∧ o.dst ≠ some d := by
      split at hj
      · rename_i h1 h2
        unfold gdSlot at h; rw [h1] at h; cases h
      · rename_i i a j b h1 h2
        simp only [Bool.and_eq_true, beq_iff_eq] at hj
        have e1 := Nat.eq_of_beq_eq_true hj.1.1
        subst e1
        rw [h1, h2, hj.1.2]
        refine ⟨rfl, fun hd => ?_⟩
        have := hj.2
        rw [hd] at this
        simp [beq_yes] at this
      · cases hj
    refine ⟨h, .inr hgu.2, Grp.allSome hg.2 ?_⟩
    unfold gdSlot; rw [hgu.1]; exact h

theorem put_ne (E : List Value) (dst : Option Tmp) (v : Value) {d : Nat} (h : dst ≠ some d) : nthD (aput' E dst v) d = nthD E d := by
  cases dst with
  | none => rfl
  | some e =>
    simp only [aput', nthD_set]
    rw [if_neg]
    rintro ⟨rfl, _⟩; exact h rfl

/-- Operations that run. -/
theorem xplain_ok {C : CallT} {J : Nat} (hC : ∀ f, CallOK P C J f) (ops : Array Oper) (R : Nat) : ∀ (g : List Oper) (i : Nat) (tl : List Nat), (∀ k, k < g.length → ops[i + k]? = g[k]?) → (∀ o ∈ g, ∀ t, (rdOper ops o).testBit t = true → R.testBit t = true) →
    ∀ n fn r kd cs fin E tmps k s, ((∀ o ∈ g, o.guard = none) ∨ ∃ d want, GrpS ops d want g ∧ gd (nthD E d) want = true) → ∀ (Q : Nat), (∀ o ∈ g, True) → Rep (R ||| Q) E tmps →
    (∀ E' tmps' s', Rep (R ||| Q) E' tmps' → Frm (wrOps g) E E' → AM.le (k E' s') (arun P n ⟨fn, tmps', .inRegion ops tl :: r, [], .run, kd, none⟩ cs fin s')) →
    AM.le (xplain P C g E k s) (arun P (n + g.length * (J + 1)) ⟨fn, tmps, .inRegion ops (List.range' i g.length ++ tl) :: r, [], .run, kd, none⟩ cs fin s)
  | [], i, tl, hi, hR, n, fn, r, kd, cs, fin, E, tmps, k, s, hg, Q, _, hr, hk => by
    show AM.le (k E s) _
    simpa using hk E tmps s hr (.refl _ _)
  | o :: g, i, tl, hi, hR, n, fn, r, kd, cs, fin, E, tmps, k, s, hg, Q, hT, hr, hk => by
    have hoi : ops[i]? = some o := by simpa using hi 0 (by simp)
    have hro : ∀ t, (rdOper ops o).testBit t = true → (R ||| Q).testBit t = true := fun t ht => by rw [Nat.testBit_or, hR o (List.mem_cons_self ..) t ht]; rfl
    have hwo : ∀ t, o.dst = some t → (wrOps (o :: g)).testBit t = true := fun t ht => by
      show (wrOper o ||| wrOps g).testBit t = true
      unfold wrOper; rw [ht, Nat.testBit_or, bit_two]; simp
    have hwl : ∀ t, (wrOps g).testBit t = true → (wrOps (o :: g)).testBit t = true := fun t ht => by
      show (wrOper o ||| wrOps g).testBit t = true
      rw [Nat.testBit_or, ht]; simp
    have e1 : n + (o :: g).length * (J + 1) = (n + g.length * (J + 1) + J) + 1 := by simp [Nat.add_mul]; omega
    have next : ∀ v s, AM.le (xplain P C g (aput' E o.dst v) k s) (arun P (n + g.length * (J + 1)) ⟨fn, aput' tmps o.dst v, .inRegion ops (List.range' (i + 1) g.length ++ tl) :: r, [], .run, kd, none⟩ cs fin s) := fun v s => by
      cases g with
      | nil => show AM.le (k (aput' E o.dst v) s) _; simpa using hk _ _ s (hr.put _ _) (Frm.put E o.dst v _ hwo)
      | cons p g =>
        refine xplain_ok hC ops R (p :: g) (i + 1) tl (fun k hk => ?_) (fun o ho => hR o (List.mem_cons_of_mem _ ho)) n fn r kd cs fin _ _ k s ?_ Q (fun _ _ => trivial) (hr.put _ _) fun E' tmps' s' h1 h2 => hk E' tmps' s' h1 ((Frm.put E o.dst v _ hwo).trans (h2.mono hwl))
        · have := hi (k + 1) (by simpa using hk)
          rw [show i + 1 + k = i + (k + 1) by omega]; simpa using this
        · rcases hg with hg | ⟨d, want, h1, h2⟩
          · exact .inl fun o ho => hg o (List.mem_cons_of_mem _ ho)
          · refine .inr ⟨d, want, h1.2.2, ?_⟩
            rw [put_ne _ _ _ (h1.2.1.resolve_left (by simp))]; exact h2
    have hfin : ∀ v, AF.finish ⟨fn, tmps, .inRegion ops (i :: (List.range' (i + 1) g.length ++ tl)) :: r, [], .run, kd, none⟩ v = ⟨fn, aput' tmps o.dst v, .inRegion ops (List.range' (i + 1) g.length ++ tl) :: r, [], .run, kd, none⟩ := fun v => by
      simp [AF.finish, hoi]
    have hops := oper_rep hr hro
    have hw : awanted ops tmps o = true := by
      rcases hg with hg | ⟨d, want, h1, h2⟩
      · exact wanted_none (hg o (List.mem_cons_self ..))
      · rw [guard_rep hr hro h1.1]; exact h2
    rw [e1, arun_succ, List.length_cons, List.range'_succ, List.cons_append]
    show AM.le (Bool.rec (motive := fun _ => AM) .fail (xopV P C E o (fun v s => putC E o.dst v (fun E' => xplain P C g E' k s)) s) (okOper o)) _
    cases hok : okOper o with
    | false => exact .fail _
    | true =>
    simp only [putC_eq]
    show AM.le (xopV P C E o (fun v s => xplain P C g (aput' E o.dst v) k s) s) _
    unfold astep
    dsimp only
    rw [hoi]
    dsimp only
    rw [hw]
    simp only [cond_true]
    unfold aoper
    rw [hok]
    simp only [Option.isSome_none, Bool.and_false, Bool.not_false, Bool.and_true, cond_true]
    split
    · rename_i x hx
      have : xopV P C E o (fun v s => xplain P C g (aput' E o.dst v) k s) s = .fail := by unfold xopV; rw [hx]
      rw [this]; exact .fail _
    · refine (aev_congr_xopV C o hops _ s).trans (cg_op _ _ _ _ _ fun nx s => xnext_apply hC (fun v s => ?_) nx s)
      rw [hfin]; exact next v s

/-- Operations that do not. -/
theorem skip_ok (ops : Array Oper) (R : Nat) {d : Nat} {want : Bool} : ∀ (g : List Oper) (i : Nat) (tl : List Nat), (∀ k, k < g.length → ops[i + k]? = g[k]?) → (∀ o ∈ g, ∀ t, (rdOper ops o).testBit t = true → R.testBit t = true) →
    ∀ n fn r kd cs fin E tmps (k : List Value → Nat → AM) s, GrpS ops d want g → gd (nthD E d) want = false → ∀ (Q : Nat), Rep (R ||| Q) E tmps →
    (∀ E' tmps' s', Rep (R ||| Q) E' tmps' → Frm (wrOps g) E E' → AM.le (k E' s') (arun P n ⟨fn, tmps', .inRegion ops tl :: r, [], .run, kd, none⟩ cs fin s')) →
    AM.le (k (skipE E g) s) (arun P (n + g.length) ⟨fn, tmps, .inRegion ops (List.range' i g.length ++ tl) :: r, [], .run, kd, none⟩ cs fin s)
  | [], i, tl, hi, hR, n, fn, r, kd, cs, fin, E, tmps, k, s, hg, hf, Q, hr, hk => by
    show AM.le (k E s) _
    simpa using hk E tmps s hr (.refl _ _)
  | o :: g, i, tl, hi, hR, n, fn, r, kd, cs, fin, E, tmps, k, s, hg, hf, Q, hr, hk => by
    have hoi : ops[i]? = some o := by simpa using hi 0 (by simp)
    have hro : ∀ t, (rdOper ops o).testBit t = true → (R ||| Q).testBit t = true := fun t ht => by rw [Nat.testBit_or, hR o (List.mem_cons_self ..) t ht]; rfl
    have hwo : ∀ t, o.dst = some t → (wrOps (o :: g)).testBit t = true := fun t ht => by
      show (wrOper o ||| wrOps g).testBit t = true
      unfold wrOper; rw [ht, Nat.testBit_or, bit_two]; simp
    have hwl : ∀ t, (wrOps g).testBit t = true → (wrOps (o :: g)).testBit t = true := fun t ht => by
      show (wrOper o ||| wrOps g).testBit t = true
      rw [Nat.testBit_or, ht]; simp
    have hw : awanted ops tmps o = false := by rw [guard_rep hr hro hg.1]; exact hf
    have e1 : n + (o :: g).length = (n + g.length) + 1 := by simp; omega
    rw [e1, arun_succ, List.length_cons, List.range'_succ, List.cons_append]
    unfold astep
    dsimp only
    rw [hoi]
    dsimp only
    rw [hw]
    simp only [cond_false]
    cases g with
    | nil => simpa [skipE] using hk _ _ s (hr.put o.dst undef) (Frm.put E o.dst undef _ hwo)
    | cons p g =>
      refine skip_ok ops R (p :: g) (i + 1) tl (fun k hk => ?_) (fun o ho => hR o (List.mem_cons_of_mem _ ho)) n fn r kd cs fin (aput' E o.dst undef) _ k s hg.2.2 ?_ Q (hr.put _ _) fun E' tmps' s' h1 h2 => hk E' tmps' s' h1 ((Frm.put E o.dst undef _ hwo).trans (h2.mono hwl))
      · have := hi (k + 1) (by simpa using hk)
        rw [show i + 1 + k = i + (k + 1) by omega]; simpa using this
      · rw [put_ne _ _ _ (hg.2.1.resolve_left (by simp))]; exact hf

theorem rdOps_append (ops : Array Oper) : ∀ (a b : List Oper) (t : Nat), (rdOps ops (a ++ b)).testBit t = ((rdOps ops a).testBit t || (rdOps ops b).testBit t)
  | [], b, t => by simp [rdOps]
  | o :: a, b, t => by
    have ih := rdOps_append ops a b t
    show (rdOper ops o ||| rdOps ops (a ++ b)).testBit t = ((rdOper ops o ||| rdOps ops a).testBit t || _)
    rw [Nat.testBit_or, Nat.testBit_or, ih, Bool.or_assoc]
theorem wrOps_append : ∀ (a b : List Oper) (t : Nat), (wrOps (a ++ b)).testBit t = ((wrOps a).testBit t || (wrOps b).testBit t)
  | [], b, t => by simp [wrOps]
  | o :: a, b, t => by
    have ih := wrOps_append a b t
    show (wrOper o ||| wrOps (a ++ b)).testBit t = ((wrOper o ||| wrOps a).testBit t || _)
    rw [Nat.testBit_or, Nat.testBit_or, ih, Bool.or_assoc]

/-- A region in the text's order. -/
theorem xgroups_ok {C : CallT} {J : Nat} (hC : ∀ f, CallOK P C J f) (ops : Array Oper) (lv : Nat) : ∀ (gs : List (List Oper)) (i : Nat), (∀ g ∈ gs, Grp ops g ∧ g ≠ []) → gs.flatten = ops.toList.drop i → ∀ n fn r kd cs fin E tmps k s, Rep (rdOps ops gs.flatten ||| lv) E tmps →
    (∀ E' tmps' s', Rep lv E' tmps' → Frm (wrOps gs.flatten) E E' → AM.le (k E' s') (arun P n ⟨fn, tmps', r, [], .run, kd, none⟩ cs fin s')) →
    AM.le (xgroups P C ops lv gs E k s) (arun P (n + 1 + gs.flatten.length * (J + 1)) ⟨fn, tmps, .inRegion ops (List.range' i gs.flatten.length) :: r, [], .run, kd, none⟩ cs fin s)
  | [], i, hg, hl, n, fn, r, kd, cs, fin, E, tmps, k, s, hr, hk => by
    have : n + 1 + (([] : List (List Oper)).flatten).length * (J + 1) = n + 1 := by simp
    rw [this, arun_succ]
    exact hk E tmps s hr.right (.refl _ _)
  | g :: gs, i, hg, hl, n, fn, r, kd, cs, fin, E, tmps, k, s, hr, hk => by
    obtain ⟨hg1, hg2⟩ := hg g (List.mem_cons_self ..)
    rw [List.flatten_cons] at hl hr hk ⊢
    have hlen : g.length + gs.flatten.length = ops.size - i := by
      have := congrArg List.length hl
      simpa using this
    have hat : ∀ k, k < g.length → ops[i + k]? = g[k]? := by
      intro k hk
      have : (g ++ gs.flatten)[k]? = (ops.toList.drop i)[k]? := by rw [hl]
      rw [List.getElem?_append_left hk, List.getElem?_drop] at this
      rw [this]; simp
    have hl' : gs.flatten = ops.toList.drop (i + g.length) := by
      have : (g ++ gs.flatten).drop g.length = (ops.toList.drop i).drop g.length := by rw [hl]
      rw [List.drop_left, List.drop_drop] at this
      exact this
    have hRg : ∀ o ∈ g, ∀ t, (rdOper ops o).testBit t = true → (rdOps ops g).testBit t = true := fun o ho t ht => rdOps_mem ho ht
    have hr' : Rep (rdOps ops g ||| (rdOps ops gs.flatten ||| lv)) E tmps := hr.mono fun t ht => by
      rw [Nat.testBit_or, rdOps_append]
      rw [Nat.testBit_or, Nat.testBit_or] at ht
      rw [← Bool.or_assoc] at ht; exact ht
    -- behind the group
    have next : ∀ E' tmps' s', Rep (rdOps ops gs.flatten ||| lv) E' tmps' → Frm (wrOps g) E E' → AM.le (xgroups P C ops lv gs E' k s') (arun P (n + 1 + gs.flatten.length * (J + 1)) ⟨fn, tmps', .inRegion ops (List.range' (i + g.length) gs.flatten.length) :: r, [], .run, kd, none⟩ cs fin s') := fun E' tmps' s' h1 h2 =>
      xgroups_ok hC ops lv gs (i + g.length) (fun g hx => hg g (List.mem_cons_of_mem _ hx)) hl' n fn r kd cs fin E' tmps' k s' h1 fun E2 tmps2 s2 h3 h4 => hk E2 tmps2 s2 h3
        ((h2.mono fun t ht => by rw [wrOps_append, ht]; rfl).trans (h4.mono fun t ht => by rw [wrOps_append, ht]; simp))
    have e1 : n + 1 + (g ++ gs.flatten).length * (J + 1) = (n + 1 + gs.flatten.length * (J + 1)) + g.length * (J + 1) := by
      rw [List.length_append, Nat.add_mul]; omega
    have e2 : List.range' i (g ++ gs.flatten).length = List.range' i g.length ++ List.range' (i + g.length) gs.flatten.length := by
      rw [List.length_append, List.range'_append_1]
    rw [e1, e2]
    cases g with
    | nil => exact absurd rfl hg2
    | cons o g0 =>
    show AM.le (Option.rec (motive := fun _ => AM) (xplain P C (o :: g0) E (fun E s => xgroups P C ops lv gs E k s) s) (fun _ => Option.rec (motive := fun _ => AM) .fail (fun dw => _) (gdSlot ops o)) o.guard) _
    cases hgo : o.guard with
    | none =>
      exact xplain_ok hC ops _ (o :: g0) i _ hat hRg _ fn r kd cs fin E tmps _ s (.inl (hg1.allNone hgo)) _ (fun _ _ => trivial) hr' fun E' tmps' s' h1 h2 => next E' tmps' s' h1.right h2
    | some q =>
      cases hd : gdSlot ops o with
      | none => exact .fail _
      | some dw =>
        obtain ⟨d, want⟩ := dw
        dsimp only
        unfold bindJ
        have hgs := hg1.allSome hd
        have nextJ : ∀ E' tmps' s', Rep (rdOps ops (o :: g0) ||| (rdOps ops gs.flatten ||| lv)) E' tmps' → Frm (wrOps (o :: g0)) E E' →
            AM.le (app (slots E.length (wrOps (o :: g0) &&& (rdOps ops gs.flatten ||| lv))).length (cur (slots E.length (wrOps (o :: g0) &&& (rdOps ops gs.flatten ||| lv))).length fun vals => forceL (setMany E (slots E.length (wrOps (o :: g0) &&& (rdOps ops gs.flatten ||| lv))) vals) fun E' => xgroups P C ops lv gs E' k) (getMany E' (slots E.length (wrOps (o :: g0) &&& (rdOps ops gs.flatten ||| lv)))) s')
              (arun P (n + 1 + gs.flatten.length * (J + 1)) ⟨fn, tmps', .inRegion ops (List.range' (i + (o :: g0).length) gs.flatten.length) :: r, [], .run, kd, none⟩ cs fin s') := by
          intro E' tmps' s' h1 h2
          rw [app_cur _ _ _ _ (getMany_length _ _), forceL_eq]
          exact next _ tmps' s' (h1.right.join h2) h2.join
        show AM.le (guardX (gd (nthD E d) want) _ _) _
        cases hgd : gd (nthD E d) want with
        | true => exact xplain_ok hC ops _ (o :: g0) i _ hat hRg _ fn r kd cs fin E tmps _ s (.inr ⟨d, want, hgs, hgd⟩) _ (fun _ _ => trivial) hr' nextJ
        | false =>
          refine (skip_ok ops _ (o :: g0) i _ hat hRg _ fn r kd cs fin E tmps _ s hgs hgd _ hr' nextJ).trans (arun_add ?_ _ _ _ _)
          have : (o :: g0).length ≤ (o :: g0).length * (J + 1) := Nat.le_mul_of_pos_right _ (by omega)
          omega

/-- A region whose order is open. -/
theorem xdraw_ok {C : CallT} {J : Nat} (hC : ∀ f, CallOK P C J f) (ops : Array Oper) (R : Nat) {n : Nat} (hn : J ≤ n) {q : List Value → Nat → AM} : ∀ (l : List Oper), (∀ o ∈ l, ∀ t, (rdOper ops o).testBit t = true → R.testBit t = true) → ∀ E tmps rs k s, Rep R E tmps →
    (∀ E' tmps' s', Rep R E' tmps' → Frm (wrOps l) E E' → AM.le (k E' s') (q tmps' s')) →
    AM.le (xdraw P C ops l E rs k s) (adraw P (fun b q => arun P n b [] q) ops q l tmps rs s)
  | [], hR, E, tmps, rs, k, s, hr, hk => by
    show AM.le (guardX (okDraw2 ops rs.reverse) (k E s) .fail) (bif okDraw2 ops rs.reverse then q tmps s else .fail)
    cases okDraw2 ops rs.reverse
    · exact .fail _
    · exact hk E tmps s hr (.refl _ _)
  | o :: l, hR, E, tmps, rs, k, s, hr, hk => by
    have hro := hR o (List.mem_cons_self ..)
    have hwo : ∀ t, o.dst = some t → (wrOps (o :: l)).testBit t = true := fun t ht => by
      show (wrOper o ||| wrOps l).testBit t = true
      unfold wrOper; rw [ht, Nat.testBit_or, bit_two]; simp
    have hwl : ∀ t, (wrOps l).testBit t = true → (wrOps (o :: l)).testBit t = true := fun t ht => by
      show (wrOper o ||| wrOps l).testBit t = true
      rw [Nat.testBit_or, ht]; simp
    have next : ∀ v ts ws s, AM.le (xdraw P C ops l (aput' E o.dst v) ((ts, ws) :: rs) k s) (adraw P (fun b q => arun P n b [] q) ops q l (aput' tmps o.dst v) ((ts, ws) :: rs) s) := fun v ts ws s =>
      xdraw_ok hC ops R hn l (fun o ho => hR o (List.mem_cons_of_mem _ ho)) _ _ _ k s (hr.put _ _) fun E' tmps' s' h1 h2 => hk E' tmps' s' h1 ((Frm.put E o.dst v _ hwo).trans (h2.mono hwl))
    have hops := oper_rep hr hro
    have main : ∀ j : LogT, (∀ v ts ws s, AM.le (j v ts ws s) (adraw P (fun b q => arun P n b [] q) ops q l (aput' tmps o.dst v) ((ts, ws) :: rs) s)) →
        AM.le (xlog P C E o j s) (.log (aopV P (fun b q => arun P n b [] q) tmps o s) (fun u ts ws => match up u with
        | some (v, s') => adraw P (fun b q => arun P n b [] q) ops q l (aput' tmps o.dst v) ((ts, ws) :: rs) s'
        | none => .fail)) := by
      intro j hj
      unfold xlog
      cases hq : quiet o with
      | true =>
        obtain ⟨rr, hrr⟩ := quiet_spec (P := P) (aev tmps) hq
        refine (aev_congr_xopV C o hops _ s).trans ?_
        rw [hrr]
        cases rr with
        | none => exact .fail _
        | some v =>
          have : aopV P (fun b q => arun P n b [] q) tmps o s = .ret (pk v s) := by unfold aopV; rw [hrr]
          rw [this]
          refine AM.le.trans ?_ (log_ret (u := pk v s))
          rw [up_pk]
          exact hj v [] [] s
      | false =>
        refine .log ((aev_congr_xopV C o hops _ s).trans ?_) fun u ts ws => ?_
        · unfold aopV
          exact cg_op _ _ _ _ _ fun nx s => xnext_nest hC hn nx s
        · unfold logU
          cases up u with
          | some p => exact hj _ _ _ _
          | none => exact .fail _
    show AM.le (Bool.rec (motive := fun _ => AM) .fail (Option.rec (motive := fun _ => AM) (xlog P C E o (fun v ts ws s => putC E o.dst v (fun E' => xdraw P C ops l E' ((ts, ws) :: rs) k s)) s) (fun _ => Option.rec (motive := fun _ => AM) .fail (fun dw => logJ (fun v ts ws s => putC E o.dst v (fun E' => xdraw P C ops l E' ((ts, ws) :: rs) k s)) (fun j s => guardX (gd (nthD E dw.1) dw.2) (xlog P C E o j s) (j undef [] [] s)) s) (gdSlot ops o)) o.guard) (okOperD o)) _
    simp only [putC_eq]
    cases hok : okOperD o with
    | false => exact .fail _
    | true =>
    unfold adraw
    rw [hok]
    simp only [cond_true]
    cases hg : o.guard with
    | none =>
      rw [wanted_none hg]
      exact main _ next
    | some q =>
      cases hd : gdSlot ops o with
      | none => exact .fail _
      | some dw =>
        obtain ⟨d, want⟩ := dw
        rw [guard_rep hr hro hd]
        show AM.le (guardX (gd (nthD E d) want) (xlog P C E o (fun v ts ws s => xdraw P C ops l (aput' E o.dst v) ((ts, ws) :: rs) k s) s) (xdraw P C ops l (aput' E o.dst undef) (([], []) :: rs) k s)) _
        cases gd (nthD E d) want with
        | false => exact next _ _ _ _
        | true => exact main _ next
end
end Go.Ev

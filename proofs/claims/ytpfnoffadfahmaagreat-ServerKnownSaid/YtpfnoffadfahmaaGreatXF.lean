/- The machine over a heap of names tells no less than a function's body as one term. No condition. -/
import Derived.Test.YtpfnoffadfahmaaGreatXE
namespace Go.Ev
open Go Go.RowKit
set_option linter.unusedVariables false
set_option linter.unusedSimpArgs false

section
variable {P : Program}
def Qt (r : Option Value) (A : M Next) : Prop := ∀ (k : Next → Nat → AM) s, A k s = match r with | some v => k (.value v) s | none => .fail
theorem qt_plain (ρ : Operand → Value) (o : Oper) : ∃ r, Qt r (aplain P ρ o) := by
  unfold aplain
  cases o.op.operands.toList.all _
  · exact ⟨none, fun _ _ => rfl⟩
  · cases hp : pureRun P (execOp ρ o) with
    | none => exact ⟨none, fun _ _ => rfl⟩
    | some nx => cases nx with
      | value v => cases hv : plainV v; exact ⟨none, fun _ _ => by simp [hv]⟩; exact ⟨some v, fun _ _ => by simp [hv]⟩
      | _ => exact ⟨none, fun _ _ => rfl⟩
theorem qt_opt (o : Option Value) : ∃ r, Qt r (fun k => M.opt o (fun v => k (.value v))) := by
  cases o with
  | none => exact ⟨none, fun _ _ => rfl⟩
  | some v => exact ⟨some v, fun _ _ => rfl⟩
theorem quiet_spec (ρ : Operand → Value) {o : Oper} (hq : quiet o = true) : ∃ r, Qt r (aop P ρ o) := by
  unfold quiet at hq
  unfold aop
  cases ho : o.op <;> rw [ho] at hq <;> try (exact (Bool.noConfusion hq : _))
  case move x => exact ⟨some (ρ x), fun _ _ => rfl⟩
  case assign x => exact ⟨some (ρ x), fun _ _ => rfl⟩
  case pick c a b =>
    dsimp only
    cases ρ c with
    | bool t => exact ⟨some (bif t then ρ a else ρ b), fun _ _ => rfl⟩
    | _ => exact ⟨none, fun _ _ => rfl⟩
  case build => exact qt_opt _
  case binOp op t x y yt =>
    dsimp only
    cases aeqNil P t (ρ x) (ρ y) with
    | none => exact qt_plain _ _
    | some b =>
      dsimp only
      cases isEq op
      · cases isNeq op
        · exact ⟨none, fun _ _ => rfl⟩
        · exact ⟨some (.bool !b), fun _ _ => rfl⟩
      · exact ⟨some (.bool b), fun _ _ => rfl⟩
  case unOp => exact qt_plain _ _
  case nilCheck x =>
    dsimp only
    split <;> first | exact ⟨none, fun _ _ => rfl⟩ | exact ⟨some _, fun _ _ => rfl⟩
  case makeInterface t x =>
    dsimp only
    cases P.underlying t with
    | none => exact ⟨none, fun _ _ => rfl⟩
    | some d => cases d <;> first | exact ⟨none, fun _ _ => rfl⟩ | exact ⟨some (.iface t (ρ x)), fun _ _ => rfl⟩
  case fieldAddr => exact qt_opt _
  case field => exact qt_opt _
  case indexAddr => exact qt_opt _
  case index t x i =>
    dsimp only
    cases P.underlying t with
    | none => exact qt_opt _
    | some d => cases d <;> first | exact qt_plain _ _ | exact qt_opt _
  case typeAssert => exact qt_opt _
  case extract x i =>
    dsimp only
    cases ρ x with
    | tuple vs => exact qt_opt _
    | _ => exact ⟨none, fun _ _ => rfl⟩

theorem log_ret {u : Value} {k : Value → List Nat → List Nat → AM} : AM.le (k u [] []) (.log (.ret u) k) := by
  intro h ts ws o e
  rw [AM.runL_log, AM.runL_ret]
  exact e

/-! ### groups under one guard -/
def Grp (ops : Array Oper) : List Oper → Prop
  | o :: p :: g => joins ops o p = true ∧ Grp ops (p :: g)
  | _ => True
def GrpS (ops : Array Oper) (d : Nat) (want : Bool) : List Oper → Prop
  | [] => True
  | o :: g => gdSlot ops o = some (d, want) ∧ (g = [] ∨ o.dst ≠ some d) ∧ GrpS ops d want g
theorem groups_flat (ops : Array Oper) : ∀ l : List Oper, (groups ops l).flatten = l
  | [] => rfl
  | o :: l => by
    have ih := groups_flat ops l
    unfold groups
    split
    · rename_i p g gs h
      rw [h] at ih
      cases joins ops o p
      · simpa using ih
      · simpa using ih
    · simp [ih]
theorem groups_grp (ops : Array Oper) : ∀ (l : List Oper), ∀ g ∈ groups ops l, Grp ops g ∧ g ≠ []
  | [], g, h => by cases h
  | o :: l, g, h => by
    have ih := groups_grp ops l
    unfold groups at h
    split at h
    · rename_i p g' gs hg
      rw [hg] at ih
      cases hj : joins ops o p with
      | false =>
        rw [hj] at h
        simp only [cond_false, List.mem_cons] at h
        rcases h with rfl | h
        · exact ⟨trivial, by simp⟩
        · exact ih g (List.mem_cons.2 h)
      | true =>
        rw [hj] at h
        simp only [cond_true, List.mem_cons] at h
        rcases h with rfl | h
        · exact ⟨⟨hj, (ih _ (List.mem_cons_self ..)).1⟩, by simp⟩
        · exact ih g (List.mem_cons_of_mem _ h)
    · rcases List.mem_cons.1 h with rfl | h
      · exact ⟨trivial, by simp⟩
      · exact ih g h
theorem Grp.allNone {ops : Array Oper} : ∀ {g : List Oper} {o : Oper}, Grp ops (o :: g) → o.guard = none → ∀ p ∈ o :: g, p.guard = none
  | [], o, _, h, p, hp => by simp at hp; subst hp; exact h
  | q :: g, o, hg, h, p, hp => by
    rcases List.mem_cons.1 hp with rfl | hp
    · exact h
    · have hj := hg.1
      unfold joins at hj
      rw [h] at hj
      cases hq : q.guard with
      | none => exact Grp.allNone hg.2 hq p hp
      | some x => rw [hq] at hj; cases hj
theorem Grp.allSome {ops : Array Oper} {d : Nat} {want : Bool} : ∀ {g : List Oper} {o : Oper}, Grp ops (o :: g) → gdSlot ops o = some (d, want) → GrpS ops d want (o :: g)
  | [], o, _, h => ⟨h, .inl rfl, trivial⟩
  | q :: g, o, hg, h => by
    have hj := hg.1
    unfold joins at hj
    rw [h] at hj
    have hgu : q.guard = o.guard ∧ o.dst ≠ some d := by
      split at hj
      · rename_i h1 h2
        unfold gdSlot at h; rw [h1] at h; cases h
      · rename_i i a j b h1 h2
        simp only [Bool.and_eq_true, beq_iff_eq] at hj
        have e1 := Nat.eq_of_beq_eq_true hj.1.1
        subst e1
        rw [h1, h2, hj.1.2]
        refine ⟨rfl, fun hd => ?_⟩
        have := hj.2
        rw [hd] at this
        simp [beq_yes] at this
      · cases hj
    refine ⟨h, .inr hgu.2, Grp.allSome hg.2 ?_⟩
    unfold gdSlot; rw [hgu.1]; exact h

theorem put_ne (E : List Value) (dst : Option Tmp) (v : Value) {d : Nat} (h : dst ≠ some d) : nthD (aput' E dst v) d = nthD E d := by
  cases dst with
  | none => rfl
  | some e =>
    simp only [aput', nthD_set]
    rw [if_neg]
    rintro ⟨rfl, _⟩; exact h rfl

theorem clr_bit (m d t : Nat) : (clr m (some d)).testBit t = (m.testBit t && !decide (d = t)) := by
  show (m ^^^ (m &&& 2 ^ d)).testBit t = _
  rw [Nat.testBit_xor, Nat.testBit_and, bit_two]
  cases m.testBit t <;> cases decide (d = t) <;> rfl
theorem Rep.step {ops : Array Oper} {o : Oper} {m : Nat} {E tmps : List Value} (h : Rep (rdOper ops o ||| clr m o.dst) E tmps) (v : Value) : Rep m (aput' E o.dst v) (aput' tmps o.dst v) := by
  have h := h.right
  cases hd : o.dst with
  | none => rw [hd] at h; exact h
  | some d =>
    rw [hd] at h
    refine ⟨by simp [aput', setL_eq, h.len], fun t ht => ?_⟩
    simp only [aput', nthD_set, h.len]
    split
    · rfl
    · rename_i hne
      by_cases hdt : d = t
      · subst hdt
        have hl : tmps.length ≤ d := by
          rcases Nat.lt_or_ge d tmps.length with hl | hl
          · exact absurd ⟨rfl, hl⟩ hne
          · exact hl
        rw [nthD_eq, nthD_eq, List.getElem?_eq_none hl, List.getElem?_eq_none (by rw [h.len]; exact hl)]
      · exact h.at_ t (by rw [clr_bit, ht]; simp [hdt])
theorem Rep.reads {ops : Array Oper} {o : Oper} {m : Nat} {E tmps : List Value} (h : Rep (rdOper ops o ||| m) E tmps) : ∀ x ∈ o.op.operands, aev E x = aev tmps x :=
  oper_rep h fun t ht => by rw [Nat.testBit_or, ht]; rfl
theorem Rep.guard {ops : Array Oper} {o : Oper} {m : Nat} {E tmps : List Value} (h : Rep (rdOper ops o ||| m) E tmps) {d : Nat} {want : Bool} (hg : gdSlot ops o = some (d, want)) : awanted ops tmps o = gd (nthD E d) want :=
  guard_rep h (fun t ht => by rw [Nat.testBit_or, ht]; rfl) hg
theorem xopV_defer {C : CallT} {E : List Value} {o : Oper} {k : Value → Nat → AM} {s : Nat} (h : isDefer o.op = true) : xopV P C E o k s = .fail := by
  unfold xopV
  cases ho : o.op <;> rw [ho] at h <;> first | rfl | (exact (Bool.noConfusion (h : false = true)))

/-- Operations that run. -/
theorem xplain_ok [Known P] {C : CallT} {J : Nat} (hC : AllOK P C J) (ops : Array Oper) (lv : Nat) (ds : List Deferred) (rnd : Option Nat) : ∀ (g : List Oper) (i : Nat) (tl : List Nat), (∀ k, k < g.length → ops[i + k]? = g[k]?) →
    ∀ n fn r kd cs fin E tmps k s, ((∀ o ∈ g, o.guard = none) ∨ ∃ d want, GrpS ops d want g ∧ gd (nthD E d) want = true) → Rep (lvOps ops g lv) E tmps →
    (∀ E' tmps' s', Rep lv E' tmps' → Frm (wrOps g) E E' → AM.le (k E' s') (arun P n ⟨fn, tmps', .inRegion ops tl :: r, ds, .run, kd, rnd⟩ cs fin s')) →
    AM.le (xplain P C g E k s) (arun P (n + g.length * (J + 1)) ⟨fn, tmps, .inRegion ops (List.range' i g.length ++ tl) :: r, ds, .run, kd, rnd⟩ cs fin s)
  | [], i, tl, hi, n, fn, r, kd, cs, fin, E, tmps, k, s, hg, hr, hk => by
    show AM.le (k E s) _
    simpa using hk E tmps s hr (.refl _ _)
  | o :: g, i, tl, hi, n, fn, r, kd, cs, fin, E, tmps, k, s, hg, hr, hk => by
    have hoi : ops[i]? = some o := by simpa using hi 0 (by simp)
    have hr : Rep (rdOper ops o ||| clr (lvOps ops g lv) o.dst) E tmps := hr
    have hwo : ∀ t, o.dst = some t → (wrOps (o :: g)).testBit t = true := fun t ht => by
      show (wrOper o ||| wrOps g).testBit t = true
      unfold wrOper; rw [ht, Nat.testBit_or, bit_two]; simp
    have hwl : ∀ t, (wrOps g).testBit t = true → (wrOps (o :: g)).testBit t = true := fun t ht => by
      show (wrOper o ||| wrOps g).testBit t = true
      rw [Nat.testBit_or, ht]; simp
    have e1 : n + (o :: g).length * (J + 1) = (n + g.length * (J + 1) + J) + 1 := by simp [Nat.add_mul]; omega
    have next : ∀ v s, AM.le (xplain P C g (aput' E o.dst v) k s) (arun P (n + g.length * (J + 1)) ⟨fn, aput' tmps o.dst v, .inRegion ops (List.range' (i + 1) g.length ++ tl) :: r, ds, .run, kd, rnd⟩ cs fin s) := fun v s => by
      cases g with
      | nil => show AM.le (k (aput' E o.dst v) s) _; simpa using hk _ _ s (hr.step v) (Frm.put E o.dst v _ hwo)
      | cons p g =>
        refine xplain_ok hC ops lv ds rnd (p :: g) (i + 1) tl (fun k hk => ?_) n fn r kd cs fin _ _ k s ?_ (hr.step v) fun E' tmps' s' h1 h2 => hk E' tmps' s' h1 ((Frm.put E o.dst v _ hwo).trans (h2.mono hwl))
        · have := hi (k + 1) (by simpa using hk)
          rw [show i + 1 + k = i + (k + 1) by omega]; simpa using this
        · rcases hg with hg | ⟨d, want, h1, h2⟩
          · exact .inl fun o ho => hg o (List.mem_cons_of_mem _ ho)
          · refine .inr ⟨d, want, h1.2.2, ?_⟩
            rw [put_ne _ _ _ (h1.2.1.resolve_left (by simp))]; exact h2
    have hfin : ∀ v, AF.finish ⟨fn, tmps, .inRegion ops (i :: (List.range' (i + 1) g.length ++ tl)) :: r, ds, .run, kd, rnd⟩ v = ⟨fn, aput' tmps o.dst v, .inRegion ops (List.range' (i + 1) g.length ++ tl) :: r, ds, .run, kd, rnd⟩ := fun v => by
      simp [AF.finish, hoi]
    have hops := hr.reads
    have hw : awanted ops tmps o = true := by
      rcases hg with hg | ⟨d, want, h1, h2⟩
      · exact wanted_none (hg o (List.mem_cons_self ..))
      · rw [hr.guard h1.1]; exact h2
    rw [e1, arun_succ, List.length_cons, List.range'_succ, List.cons_append]
    show AM.le (Bool.rec (motive := fun _ => AM) .fail (xopV P C E o (fun v s => putC E o.dst v (fun E' => xplain P C g E' k s)) s) (okOper o)) _
    cases hok : okOper o with
    | false => exact .fail _
    | true =>
    simp only [putC_eq]
    show AM.le (xopV P C E o (fun v s => xplain P C g (aput' E o.dst v) k s) s) _
    cases hdf : isDefer o.op with
    | true => rw [xopV_defer hdf]; exact .fail _
    | false =>
    unfold astep
    dsimp only
    rw [hoi]
    dsimp only
    rw [hw]
    simp only [cond_true]
    unfold aoper
    rw [hok, hdf]
    simp only [Bool.false_and, Bool.not_false, Bool.and_true, cond_true]
    split
    · rename_i x hx
      have : xopV P C E o (fun v s => xplain P C g (aput' E o.dst v) k s) s = .fail := by unfold xopV; rw [hx]
      rw [this]; exact .fail _
    · have hd : ∀ v s, AM.le (xplain P C g (aput' E o.dst v) k s) (arun P (n + g.length * (J + 1)) (AF.finish ⟨fn, tmps, .inRegion ops (i :: (List.range' (i + 1) g.length ++ tl)) :: r, ds, .run, kd, rnd⟩ v) cs fin s) := fun v s => by rw [hfin]; exact next v s
      exact xopV_to hC.big hops (xnext_apply hC hd) (yield_apply hC hd) s

/-- Operations that do not. -/
theorem skip_ok [Known P] (ops : Array Oper) (lv : Nat) (ds : List Deferred) (rnd : Option Nat) {d : Nat} {want : Bool} : ∀ (g : List Oper) (i : Nat) (tl : List Nat), (∀ k, k < g.length → ops[i + k]? = g[k]?) →
    ∀ n fn r kd cs fin E tmps (k : List Value → Nat → AM) s, GrpS ops d want g → gd (nthD E d) want = false → Rep (lvOps ops g lv) E tmps →
    (∀ E' tmps' s', Rep lv E' tmps' → Frm (wrOps g) E E' → AM.le (k E' s') (arun P n ⟨fn, tmps', .inRegion ops tl :: r, ds, .run, kd, rnd⟩ cs fin s')) →
    AM.le (k (skipE E g) s) (arun P (n + g.length) ⟨fn, tmps, .inRegion ops (List.range' i g.length ++ tl) :: r, ds, .run, kd, rnd⟩ cs fin s)
  | [], i, tl, hi, n, fn, r, kd, cs, fin, E, tmps, k, s, hg, hf, hr, hk => by
    show AM.le (k E s) _
    simpa using hk E tmps s hr (.refl _ _)
  | o :: g, i, tl, hi, n, fn, r, kd, cs, fin, E, tmps, k, s, hg, hf, hr, hk => by
    have hoi : ops[i]? = some o := by simpa using hi 0 (by simp)
    have hr : Rep (rdOper ops o ||| clr (lvOps ops g lv) o.dst) E tmps := hr
    have hwo : ∀ t, o.dst = some t → (wrOps (o :: g)).testBit t = true := fun t ht => by
      show (wrOper o ||| wrOps g).testBit t = true
      unfold wrOper; rw [ht, Nat.testBit_or, bit_two]; simp
    have hwl : ∀ t, (wrOps g).testBit t = true → (wrOps (o :: g)).testBit t = true := fun t ht => by
      show (wrOper o ||| wrOps g).testBit t = true
      rw [Nat.testBit_or, ht]; simp
    have hw : awanted ops tmps o = false := by rw [hr.guard hg.1]; exact hf
    have e1 : n + (o :: g).length = (n + g.length) + 1 := by simp; omega
    rw [e1, arun_succ, List.length_cons, List.range'_succ, List.cons_append]
    unfold astep
    dsimp only
    rw [hoi]
    dsimp only
    rw [hw]
    simp only [cond_false]
    cases g with
    | nil => simpa [skipE] using hk _ _ s (hr.step undef) (Frm.put E o.dst undef _ hwo)
    | cons p g =>
      refine skip_ok ops lv ds rnd (p :: g) (i + 1) tl (fun k hk => ?_) n fn r kd cs fin (aput' E o.dst undef) _ k s hg.2.2 ?_ (hr.step undef) fun E' tmps' s' h1 h2 => hk E' tmps' s' h1 ((Frm.put E o.dst undef _ hwo).trans (h2.mono hwl))
      · have := hi (k + 1) (by simpa using hk)
        rw [show i + 1 + k = i + (k + 1) by omega]; simpa using this
      · rw [put_ne _ _ _ (hg.2.1.resolve_left (by simp))]; exact hf

theorem lvOps_append (ops : Array Oper) (lv : Nat) (a b : List Oper) : lvOps ops (a ++ b) lv = lvOps ops a (lvOps ops b lv) := by unfold lvOps; rw [List.foldr_append]
theorem wrOps_append : ∀ (a b : List Oper) (t : Nat), (wrOps (a ++ b)).testBit t = ((wrOps a).testBit t || (wrOps b).testBit t)
  | [], b, t => by simp [wrOps]
  | o :: a, b, t => by
    have ih := wrOps_append a b t
    show (wrOper o ||| wrOps (a ++ b)).testBit t = ((wrOper o ||| wrOps a).testBit t || _)
    rw [Nat.testBit_or, Nat.testBit_or, ih, Bool.or_assoc]

/-- A region in the text's order. -/
theorem xgroups_ok [Known P] {C : CallT} {J : Nat} (hC : AllOK P C J) (ops : Array Oper) (lv : Nat) (ds : List Deferred) (rnd : Option Nat) : ∀ (gs : List (List Oper)) (i : Nat), (∀ g ∈ gs, Grp ops g ∧ g ≠ []) → gs.flatten = ops.toList.drop i → ∀ n fn r kd cs fin E tmps k s, Rep (lvOps ops gs.flatten lv) E tmps →
    (∀ E' tmps' s', Rep lv E' tmps' → Frm (wrOps gs.flatten) E E' → AM.le (k E' s') (arun P n ⟨fn, tmps', r, ds, .run, kd, rnd⟩ cs fin s')) →
    AM.le (xgroups P C ops lv gs E k s) (arun P (n + 1 + gs.flatten.length * (J + 1)) ⟨fn, tmps, .inRegion ops (List.range' i gs.flatten.length) :: r, ds, .run, kd, rnd⟩ cs fin s)
  | [], i, hg, hl, n, fn, r, kd, cs, fin, E, tmps, k, s, hr, hk => by
    have : n + 1 + (([] : List (List Oper)).flatten).length * (J + 1) = n + 1 := by simp
    rw [this, arun_succ]
    exact hk E tmps s hr (.refl _ _)
  | g :: gs, i, hg, hl, n, fn, r, kd, cs, fin, E, tmps, k, s, hr, hk => by
    obtain ⟨hg1, hg2⟩ := hg g (List.mem_cons_self ..)
    rw [List.flatten_cons] at hl hr hk ⊢
    have hlen : g.length + gs.flatten.length = ops.size - i := by
      have := congrArg List.length hl
      simpa using this
    have hat : ∀ k, k < g.length → ops[i + k]? = g[k]? := by
      intro k hk
      have : (g ++ gs.flatten)[k]? = (ops.toList.drop i)[k]? := by rw [hl]
      rw [List.getElem?_append_left hk, List.getElem?_drop] at this
      rw [this]; simp
    have hl' : gs.flatten = ops.toList.drop (i + g.length) := by
      have : (g ++ gs.flatten).drop g.length = (ops.toList.drop i).drop g.length := by rw [hl]
      rw [List.drop_left, List.drop_drop] at this
      exact this
    rw [lvOps_append] at hr
    -- behind the group
    have next : ∀ E' tmps' s', Rep (lvOps ops gs.flatten lv) E' tmps' → Frm (wrOps g) E E' → AM.le (xgroups P C ops lv gs E' k s') (arun P (n + 1 + gs.flatten.length * (J + 1)) ⟨fn, tmps', .inRegion ops (List.range' (i + g.length) gs.flatten.length) :: r, ds, .run, kd, rnd⟩ cs fin s') := fun E' tmps' s' h1 h2 =>
      xgroups_ok hC ops lv ds rnd gs (i + g.length) (fun g hx => hg g (List.mem_cons_of_mem _ hx)) hl' n fn r kd cs fin E' tmps' k s' h1 fun E2 tmps2 s2 h3 h4 => hk E2 tmps2 s2 h3
        ((h2.mono fun t ht => by rw [wrOps_append, ht]; rfl).trans (h4.mono fun t ht => by rw [wrOps_append, ht]; simp))
    have e1 : n + 1 + (g ++ gs.flatten).length * (J + 1) = (n + 1 + gs.flatten.length * (J + 1)) + g.length * (J + 1) := by
      rw [List.length_append, Nat.add_mul]; omega
    have e2 : List.range' i (g ++ gs.flatten).length = List.range' i g.length ++ List.range' (i + g.length) gs.flatten.length := by
      rw [List.length_append, List.range'_append_1]
    rw [e1, e2]
    cases g with
    | nil => exact absurd rfl hg2
    | cons o g0 =>
    show AM.le (Option.rec (motive := fun _ => AM) (xplain P C (o :: g0) E (fun E s => xgroups P C ops lv gs E k s) s) (fun _ => Option.rec (motive := fun _ => AM) .fail (fun dw => _) (gdSlot ops o)) o.guard) _
    cases hgo : o.guard with
    | none =>
      exact xplain_ok hC ops _ ds rnd (o :: g0) i _ hat _ fn r kd cs fin E tmps _ s (.inl (hg1.allNone hgo)) hr fun E' tmps' s' h1 h2 => next E' tmps' s' h1 h2
    | some q =>
      cases hd : gdSlot ops o with
      | none => exact .fail _
      | some dw =>
        obtain ⟨d, want⟩ := dw
        dsimp only
        unfold bindJ
        have hgs := hg1.allSome hd
        have nextJ : ∀ E' tmps' s', Rep (lvOps ops gs.flatten lv) E' tmps' → Frm (wrOps (o :: g0)) E E' →
            AM.le (app (slots E.length (wrOps (o :: g0) &&& lvOps ops gs.flatten lv)).length (cur (slots E.length (wrOps (o :: g0) &&& lvOps ops gs.flatten lv)).length fun vals => forceL (setMany E (slots E.length (wrOps (o :: g0) &&& lvOps ops gs.flatten lv)) vals) fun E' => xgroups P C ops lv gs E' k) (getMany E' (slots E.length (wrOps (o :: g0) &&& lvOps ops gs.flatten lv))) s')
              (arun P (n + 1 + gs.flatten.length * (J + 1)) ⟨fn, tmps', .inRegion ops (List.range' (i + (o :: g0).length) gs.flatten.length) :: r, ds, .run, kd, rnd⟩ cs fin s') := by
          intro E' tmps' s' h1 h2
          rw [app_cur _ _ _ _ (getMany_length _ _), forceL_eq]
          exact next _ tmps' s' (h1.join h2) h2.join
        show AM.le (guardX (gd (nthD E d) want) _ _) _
        cases hgd : gd (nthD E d) want with
        | true => exact xplain_ok hC ops _ ds rnd (o :: g0) i _ hat _ fn r kd cs fin E tmps _ s (.inr ⟨d, want, hgs, hgd⟩) hr nextJ
        | false =>
          refine (skip_ok ops _ ds rnd (o :: g0) i _ hat _ fn r kd cs fin E tmps _ s hgs hgd hr nextJ).trans (arun_add ?_ _ _ _ _)
          have : (o :: g0).length ≤ (o :: g0).length * (J + 1) := Nat.le_mul_of_pos_right _ (by omega)
          omega

/-! ### what need not be kept -/
def Sp (F : List (List Nat)) (a b : List (List Nat × List Nat)) : Prop := a.length = b.length ∧ ∀ (j : Nat) (f : List Nat), F[j]? = some f → f ≠ [] → a[j]? = b[j]?
theorem Sp.snoc {F : List (List Nat)} {a b : List (List Nat × List Nat)} (h : Sp F a b) {x y : List Nat × List Nat} (hx : ∀ f : List Nat, F[a.length]? = some f → f ≠ [] → x = y) : Sp F (a ++ [x]) (b ++ [y]) := by
  refine ⟨by simp [h.1], fun j f hf hn => ?_⟩
  rcases Nat.lt_trichotomy j a.length with hj | hj | hj
  · rw [List.getElem?_append_left hj, List.getElem?_append_left (by rw [← h.1]; exact hj)]; exact h.2 j f hf hn
  · subst hj
    rw [List.getElem?_append_right (Nat.le_refl _), List.getElem?_append_right (by rw [h.1]; exact Nat.le_refl _), h.1]
    simp [hx f hf hn]
  · rw [List.getElem?_eq_none (by simp; omega), List.getElem?_eq_none (by simp; have := h.1; omega)]
theorem free_symm {mk : List Nat} {n i j : Nat} (hj : j < n) (h : i ∈ freeOf mk n j) : j ∈ freeOf mk n i := by
  unfold freeOf at h ⊢
  rw [List.mem_filter] at h ⊢
  refine ⟨List.mem_range.2 hj, ?_⟩
  obtain ⟨hi, h⟩ := h
  rcases Nat.lt_trichotomy i j with hij | hij | hij
  · have e1 : Nat.blt i j = true := by rw [Nat.blt_eq]; exact hij
    have e2 : Nat.blt j i = false := by rw [← Bool.not_eq_true, Nat.blt_eq]; omega
    rw [e1] at h; rw [e2, e1]; exact h
  · subst hij
    have e1 : Nat.blt i i = false := by rw [← Bool.not_eq_true, Nat.blt_eq]; omega
    rw [e1] at h; cases h
  · have e1 : Nat.blt j i = true := by rw [Nat.blt_eq]; exact hij
    have e2 : Nat.blt i j = false := by rw [← Bool.not_eq_true, Nat.blt_eq]; omega
    rw [e2, e1] at h; rw [e1]; exact h
theorem dynOk_of (all : List (List Nat × List Nat)) : ∀ (rs : List (List Nat × List Nat)) (fs : List (List Nat)), rs.length ≤ fs.length → (∀ (j : Nat) (x : List Nat × List Nat) (f : List Nat), rs[j]? = some x → fs[j]? = some f → ∀ i ∈ f, disj x.2 (touched all i) = true) → dynOk all rs fs = true
  | [], fs, _, _ => rfl
  | x :: l, [], h, _ => by simp at h
  | x :: l, f :: fs, h, hp => by
    have ih := dynOk_of all l fs (by simpa using h) fun j x f hx hf => hp (j + 1) x f (by simpa using hx) (by simpa using hf)
    have h0 := hp 0 x f rfl rfl
    obtain ⟨a, b⟩ := x
    cases b with
    | nil => exact ih
    | cons y ys =>
      show Bool.rec (motive := fun _ => Bool) false (dynOk all l fs) (allF all (y :: ys) f) = true
      have : allF all (y :: ys) f = true := by rw [allF_eq, List.all_eq_true]; exact h0
      rw [this]; exact ih
/-! ### what looks alone writes nothing -/
def RO (m : AM) : Prop := ∀ h ts ws o, m.runL h ts ws = some o → o.ws = ws
theorem RO.fail : RO .fail := fun _ _ _ _ e => by cases e
theorem RO.ret (v : Value) : RO (.ret v) := fun h ts ws o e => by rw [AM.runL_ret] at e; obtain rfl := Option.some.inj e; rfl
theorem RO.get {n : Nat} {k : Obj → AM} (hk : ∀ o, RO (k o)) : RO (.get n k) := fun h ts ws o e => by
  rw [AM.runL_get] at e
  split at e
  · exact hk _ _ _ _ _ e
  · cases e
theorem RO.bif {c : Bool} {a b : AM} (ha : RO a) (hb : RO b) : RO (bif c then a else b) := by cases c; exact hb; exact ha
theorem RO.opt {α : Type} {o : Option α} {k : α → Nat → AM} (hk : ∀ a s, RO (k a s)) (s : Nat) : RO (M.opt o k s) := by
  cases o with
  | none => exact .fail
  | some a => exact hk a s
theorem RO.loadAt {t : TypeId} {x : Value} {k : Value → Nat → AM} (hk : ∀ v s, RO (k v s)) (s : Nat) : RO (aloadAt P t x k s) := by
  unfold aloadAt
  cases aaddr x with
  | none => exact .fail
  | some p =>
    obtain ⟨n, o⟩ := p
    show RO (aloadVar P t n o k s)
    unfold aloadVar
    cases aggT P t with
    | none => exact .fail
    | some p =>
      obtain ⟨b, z⟩ := p
      cases b
      · show RO (aload n o k s)
        unfold aload
        refine .get fun o => ?_
        cases o <;> try exact .fail
        dsimp only
        split
        · exact hk _ _
        · exact .fail
      · show RO (acells n o z (fun l => k (.agg ⟨l⟩)) s)
        unfold acells
        refine .get fun o => ?_
        cases o <;> try exact .fail
        exact .bif (hk _ _) .fail
theorem RO.looks {ρ : Operand → Value} {o : Oper} (ho : looks o = true) {k : Next → Nat → AM} (hk : ∀ v s, RO (k (.value v) s)) (s : Nat) : RO (aop P ρ o k s) := by
  unfold Ev.looks at ho
  unfold aop
  cases hop : o.op <;> rw [hop] at ho <;> try (exact (Bool.noConfusion (ho : false = true)))
  case load t a => exact .loadAt (fun v s => hk v s) s
  case call c =>
    dsimp only at ho ⊢
    unfold aresolve
    cases hc : c.callee with
    | value f => rw [hc] at ho; cases ho
    | invoke r n => rw [hc] at ho; cases ho
    | builtin b =>
      rw [hc] at ho
      dsimp only at ho ⊢
      unfold ainvoke
      dsimp only
      cases b <;> try (exact (Bool.noConfusion (ho : false = true)))
      case len =>
        unfold abuiltin
        split <;> first | exact .fail | contradiction | skip
        · unfold alenMap
          split
          · split
            · refine .get fun o => ?_
              cases o <;> first | exact .fail | exact hk _ _
            · exact .fail
          · exact .fail
        · exact .opt (fun v s => hk v s) _
      case cap =>
        unfold abuiltin
        split <;> first | exact .fail | contradiction | skip
        unfold acap
        split
        · split
          · exact hk _ _
          · refine .get fun o => ?_
            cases o <;> try exact .fail
            dsimp only
            split
            · exact hk _ _
            · exact .bif .fail (hk _ _)
          · exact .fail
        · exact .fail
theorem looks_ws [Known P] {n : Nat} {tmps : List Value} {o : Oper} (ho : looks o = true) (s : Nat) : RO (aopV P (fun b q => arun P n b [] q) tmps o s) := by
  rw [aopV_nest]
  exact .looks ho (fun v s => .ret _) s

/-- What is known of what was told. -/
def Seen (ops : Array Oper) (rs : List (List Nat × List Nat)) : Prop := ∀ (j : Nat) (x : List Nat × List Nat) (o : Oper), rs[j]? = some x → ops[j]? = some o → (quiet o = true → x = ([], [])) ∧ (looks o = true → x.2 = [])
theorem Seen.snoc {ops : Array Oper} {rs : List (List Nat × List Nat)} (h : Seen ops rs) {x : List Nat × List Nat} (hx : ∀ o, ops[rs.length]? = some o → (quiet o = true → x = ([], [])) ∧ (looks o = true → x.2 = [])) : Seen ops (rs ++ [x]) := by
  intro j y o hy ho
  rcases Nat.lt_trichotomy j rs.length with hj | hj | hj
  · rw [List.getElem?_append_left hj] at hy; exact h j y o hy ho
  · subst hj
    rw [List.getElem?_append_right (Nat.le_refl _)] at hy
    simp at hy
    subst hy
    exact hx o ho
  · rw [List.getElem?_eq_none (by simp; omega)] at hy; cases hy
theorem disj_nil (a : List Nat) : disj a [] = true := by
  induction a with
  | nil => rfl
  | cons x a ih => exact ih
theorem still_symm (ops : Array Oper) (i j : Nat) : still ops i j = still ops j i := by
  unfold still
  cases quietAt ops i <;> cases quietAt ops j <;> cases looksAt ops i <;> cases looksAt ops j <;> rfl
theorem okDraw2_sp {ops : Array Oper} {a b : List (List Nat × List Nat)} (h : Sp (freeX ops) a b) (hsn : Seen ops b) (ha : okDrawX ops a = true) : okDraw2 ops b = true := by
  unfold okDrawX at ha
  unfold okDraw2
  cases hs : statOk ops with
  | false => rw [hs] at ha; cases ha
  | true =>
  cases hl : Nat.beq a.length ops.size with
  | false => rw [hs, hl] at ha; cases ha
  | true =>
  rw [hs, hl] at ha
  have ha : dynOk a a (freeX ops) = true := ha
  rw [h.1] at hl
  rw [hl]
  simp only [cond_true]
  have hsz := Nat.eq_of_beq_eq_true hl
  have hfree : ∀ (k : Nat) (f : List Nat), (freeAll ops)[k]? = some f → k < ops.size ∧ f = freeOf (masks ops.toList []) ops.size k := fun k f hk => by
    have hlt : k < ops.size := by
      have := (List.getElem?_eq_some_iff.1 hk).1
      simpa [freeAll] using this
    exact ⟨hlt, by simpa [freeAll, hlt] using hk.symm⟩
  refine dynOk_of b b _ (by simp [freeAll, hsz]) fun j x f hx hf i hi => ?_
  obtain ⟨hj, rfl⟩ := hfree j f hf
  have hin : i < ops.size := by unfold freeOf at hi; exact List.mem_range.1 (List.mem_filter.1 hi).1
  have hib : i < b.length := by omega
  have hb : b[i]? = some b[i] := by simp [hib]
  have hoi : ops[i]? = some ops[i] := by simp
  have hoj : ops[j]? = some ops[j] := by simp
  have si := hsn i _ _ hb hoi
  have sj := hsn j _ _ hx hoj
  rw [touched_eq b i _ hb]
  have hsy := still_symm ops i j
  cases hst : still ops i j with
  | true =>
    unfold still quietAt looksAt at hst
    rw [hoi, hoj] at hst
    simp only [Bool.or_eq_true, Bool.and_eq_true] at hst
    rcases hst with (hq | hq) | hq
    · rw [si.1 hq]; exact disj_nil _
    · rw [sj.1 hq]; rfl
    · rw [sj.2 hq.2]; rfl
  | false =>
    have hfx : (freeX ops)[j]? = some ((freeOf (masks ops.toList []) ops.size j).filter fun i => !still ops i j) := by simp [freeX, hj]
    have hfi : (freeX ops)[i]? = some ((freeOf (masks ops.toList []) ops.size i).filter fun j => !still ops j i) := by simp [freeX, hin]
    have hij : i ∈ (freeOf (masks ops.toList []) ops.size j).filter fun i => !still ops i j := List.mem_filter.2 ⟨hi, by rw [hst]; rfl⟩
    have hji : j ∈ (freeOf (masks ops.toList []) ops.size i).filter fun j => !still ops j i := List.mem_filter.2 ⟨free_symm hj hi, by rw [← hsy, hst]; rfl⟩
    have hxa : a[j]? = some x := (h.2 j _ hfx (fun e => by rw [e] at hij; cases hij)).trans hx
    have h1 := dynOk_spec a a _ ha j x _ hxa hfx i hij
    have hab := h.2 i _ hfi (fun e => by rw [e] at hji; cases hji)
    rw [touched_eq a i _ (hab.trans hb)] at h1
    exact h1
theorem hd_drop (F : List Bool) (i : Nat) {f : Bool} (h : F[i]? = some f) : hdB (F.drop i) = f := by
  have : (F.drop i)[0]? = some f := by rw [List.getElem?_drop]; simpa using h
  cases hd : F.drop i with
  | nil => rw [hd] at this; cases this
  | cons x l => rw [hd] at this; simp at this; exact this
theorem tl_drop (F : List Bool) (i : Nat) : tlB (F.drop i) = F.drop (i + 1) := by
  rw [← List.tail_drop]
  cases F.drop i <;> rfl
theorem AM.le.logO {m m' : AM} {k k' : Value → List Nat → List Nat → AM} (hm : AM.le m m') (h : ∀ v ts ws, (∃ g g', m'.runL g [] [] = some ⟨v, g', ts, ws⟩) → AM.le (k v ts ws) (k' v ts ws)) : AM.le (.log m k) (.log m' k') := by
  intro g ts ws o e
  rw [AM.runL_log] at e ⊢
  split at e
  · rename_i v h' ts' ws' hm'
    have := hm _ _ _ _ hm'
    rw [this]
    exact h _ _ _ ⟨_, _, this⟩ _ _ _ _ e
  · cases e
/-- A region whose order is open. -/
theorem xdraw_ok [Known P] {C : CallT} {J : Nat} (hC : AllOK P C J) (ops : Array Oper) (lv : Nat) {n : Nat} (hn : J ≤ n) {q : List Value → Nat → AM} : ∀ (l : List Oper), ∀ E tmps rs' rs k s, l = ops.toList.drop rs.length → Sp (freeX ops) rs'.reverse rs.reverse → Seen ops rs.reverse → Rep (lvOps ops l lv) E tmps →
    (∀ E' tmps' s', Rep lv E' tmps' → Frm (wrOps l) E E' → AM.le (k E' s') (q tmps' s')) →
    AM.le (xdraw P C ops l ((keepsX ops).drop rs.length) E rs' k s) (adraw P (fun b q => arun P n b [] q) ops q l tmps rs s)
  | [], E, tmps, rs', rs, k, s, hl, hsp, hsn, hr, hk => by
    show AM.le (guardX (okDrawX ops rs'.reverse) (k E s) .fail) (bif okDraw2 ops rs.reverse then q tmps s else .fail)
    cases ho : okDrawX ops rs'.reverse
    · exact .fail _
    · rw [okDraw2_sp hsp hsn ho]; exact hk E tmps s hr (.refl _ _)
  | o :: l, E, tmps, rs', rs, k, s, hl, hsp, hsn, hr, hk => by
    have hr : Rep (rdOper ops o ||| clr (lvOps ops l lv) o.dst) E tmps := hr
    have hwo : ∀ t, o.dst = some t → (wrOps (o :: l)).testBit t = true := fun t ht => by
      show (wrOper o ||| wrOps l).testBit t = true
      unfold wrOper; rw [ht, Nat.testBit_or, bit_two]; simp
    have hwl : ∀ t, (wrOps l).testBit t = true → (wrOps (o :: l)).testBit t = true := fun t ht => by
      show (wrOper o ||| wrOps l).testBit t = true
      rw [Nat.testBit_or, ht]; simp
    have hoi : ops[rs.length]? = some o := by
      have : (ops.toList.drop rs.length)[0]? = some o := by rw [← hl]; rfl
      simpa using this
    have hl' : l = ops.toList.drop (rs.length + 1) := by
      have : (o :: l).tail = (ops.toList.drop rs.length).tail := by rw [hl]
      simpa using this
    have next : ∀ v ts ws s, ((quiet o = true → (ts, ws) = (([], []) : List Nat × List Nat)) ∧ (looks o = true → ws = [])) → AM.le (xdraw P C ops l (tlB ((keepsX ops).drop rs.length)) (aput' E o.dst v) ((keepL (hdB ((keepsX ops).drop rs.length)) ts, keepL (hdB ((keepsX ops).drop rs.length)) ws) :: rs') k s) (adraw P (fun b q => arun P n b [] q) ops q l (aput' tmps o.dst v) ((ts, ws) :: rs) s) := fun v ts ws s hts => by
      rw [tl_drop]
      refine xdraw_ok hC ops lv hn l _ _ _ ((ts, ws) :: rs) k s hl' ?_ ?_ (hr.step v) fun E' tmps' s' h1 h2 => hk E' tmps' s' h1 ((Frm.put E o.dst v _ hwo).trans (h2.mono hwl))
      · rw [List.reverse_cons, List.reverse_cons]
        refine hsp.snoc fun f hf hnf => ?_
        have hlen : rs'.reverse.length = rs.length := by rw [hsp.1]; simp
        rw [hlen] at hf
        rw [hd_drop _ _ (f := true) (by unfold keepsX; rw [List.getElem?_map, hf]; cases f with | nil => exact absurd rfl hnf | cons => rfl)]
      · rw [List.reverse_cons]
        refine hsn.snoc fun o' ho' => ?_
        rw [List.length_reverse, hoi] at ho'
        cases ho'
        exact hts
    have next0 : ∀ s, AM.le (xdraw P C ops l (tlB ((keepsX ops).drop rs.length)) (aput' E o.dst undef) ((keepL (hdB ((keepsX ops).drop rs.length)) [], keepL (hdB ((keepsX ops).drop rs.length)) []) :: rs') k s) (adraw P (fun b q => arun P n b [] q) ops q l (aput' tmps o.dst undef) (([], []) :: rs) s) := fun s => next undef [] [] s ⟨fun _ => rfl, fun _ => rfl⟩
    have hops := hr.reads
    have main : ∀ j : LogT, (∀ v ts ws s, ((quiet o = true → (ts, ws) = (([], []) : List Nat × List Nat)) ∧ (looks o = true → ws = [])) → AM.le (j v ts ws s) (adraw P (fun b q => arun P n b [] q) ops q l (aput' tmps o.dst v) ((ts, ws) :: rs) s)) →
        AM.le (xlog P C E o j s) (.log (aopV P (fun b q => arun P n b [] q) tmps o s) (fun u ts ws => match up u with
        | some (v, s') => adraw P (fun b q => arun P n b [] q) ops q l (aput' tmps o.dst v) ((ts, ws) :: rs) s'
        | none => .fail)) := by
      intro j hj
      unfold xlog
      cases hq : quiet o with
      | true =>
        obtain ⟨rr, hrr⟩ := quiet_spec (P := P) (aev tmps) hq
        refine (aev_congr_xopV C o (fun c hc => by unfold quiet at hq; rw [hc] at hq; cases hq) hops _ s).trans ?_
        rw [hrr]
        cases rr with
        | none => exact .fail _
        | some v =>
          have : aopV P (fun b q => arun P n b [] q) tmps o s = .ret (pk v s) := by unfold aopV; rw [hrr]
          rw [this]
          refine AM.le.trans ?_ (log_ret (u := pk v s))
          rw [up_pk]
          exact hj v [] [] s ⟨fun _ => rfl, fun _ => rfl⟩
      | false =>
        refine .logO ?_ fun u ts ws hrun => ?_
        · rw [aopV_nest]
          exact xopV_to hC.big hops (xnext_nest hC hn) (yield_nest hC hn) s
        · unfold logU
          obtain ⟨g, g', hg⟩ := hrun
          cases up u with
          | some p => exact hj _ _ _ _ ⟨(fun h => absurd (hq.symm.trans h) (by simp)), fun h => looks_ws h s _ _ _ _ hg⟩
          | none => exact .fail _
    show AM.le (Bool.rec (motive := fun _ => AM) .fail (Option.rec (motive := fun _ => AM) (xlog P C E o (fun v ts ws s => putC E o.dst v (fun E' => xdraw P C ops l (tlB ((keepsX ops).drop rs.length)) E' ((keepL (hdB ((keepsX ops).drop rs.length)) ts, keepL (hdB ((keepsX ops).drop rs.length)) ws) :: rs') k s)) s) (fun _ => Option.rec (motive := fun _ => AM) .fail (fun dw => logJ (fun v ts ws s => putC E o.dst v (fun E' => xdraw P C ops l (tlB ((keepsX ops).drop rs.length)) E' ((keepL (hdB ((keepsX ops).drop rs.length)) ts, keepL (hdB ((keepsX ops).drop rs.length)) ws) :: rs') k s)) (fun j s => guardX (gd (nthD E dw.1) dw.2) (xlog P C E o j s) (j undef [] [] s)) s) (gdSlot ops o)) o.guard) (okOperD o)) _
    simp only [putC_eq]
    cases hok : okOperD o with
    | false => exact .fail _
    | true =>
    unfold adraw
    rw [hok]
    simp only [cond_true]
    cases hg : o.guard with
    | none =>
      rw [wanted_none hg]
      exact main _ next
    | some q =>
      cases hd : gdSlot ops o with
      | none => exact .fail _
      | some dw =>
        obtain ⟨d, want⟩ := dw
        rw [hr.guard hd]
        show AM.le (guardX (gd (nthD E d) want) (xlog P C E o (fun v ts ws s => xdraw P C ops l (tlB ((keepsX ops).drop rs.length)) (aput' E o.dst v) ((keepL (hdB ((keepsX ops).drop rs.length)) ts, keepL (hdB ((keepsX ops).drop rs.length)) ws) :: rs') k s) s) (xdraw P C ops l (tlB ((keepsX ops).drop rs.length)) (aput' E o.dst undef) ((keepL (hdB ((keepsX ops).drop rs.length)) [], keepL (hdB ((keepsX ops).drop rs.length)) []) :: rs') k s)) _
        cases gd (nthD E d) want with
        | false => exact next0 _
        | true => exact main _ next
end
end Go.Ev

/- Functions with loops over functions: run step by step, their calls as terms. No condition. -/
import Derived.Test.YtpfnoffadfahmaaGreatXK
import Derived.KernelRfl
namespace Go.Ev
open Go Go.RowKit
set_option linter.unusedVariables false
set_option linter.unusedSimpArgs false

section
variable (P : Program) (C : CallT)
noncomputable def hasPanic : Code → Bool
  | .region _ ops _ => ops.toList.any fun o => match o.op with | .panic _ => true | _ => false
  | .seq a b => hasPanic a || hasPanic b
  | .cond _ a b => hasPanic a || hasPanic b
  | .block _ a | .loop a | .scope a => hasPanic a
  | _ => false
/-- What may panic is run step by step where it is called from what is run so. -/
noncomputable def slowF (f : Nat) : Bool := match P.funcs[f]? with
  | some fn => match fn.body with
    | some c => hasPanic c
    | none => true
  | none => true
noncomputable def happly [Known P] (k : AF → List AF → Nat → AM) (a : AF) (cs : List AF) (nx : Next) (s : Nat) : AM := match nx with
  | .enter f args => bif slowF P f then aapply P k a cs (.enter f args) s else C f args.toList (fun v s => k (a.finish v) cs s) s
  | nx => aapply P k a cs nx s
noncomputable def isDyn (o : Oper) : Bool := match o.op with
  | .call c => match c.callee with
    | .value (.func f) => slowF P f
    | .builtin .recover => true
    | .builtin _ => false
    | _ => true
  | .defer _ => true
  | _ => false
noncomputable def hoper [Known P] (k : AF → List AF → Nat → AM) (a : AF) (cs : List AF) (o : Oper) (s : Nat) : AM :=
  bif okOper o && !(isDefer o.op && a.rnd.isSome) then
    match o.op with
    | .panic x => match aev a.tmps x with
      | .iface t v => k (a.raise [{ v := .iface t v, recovered := false }]) cs s
      | _ => .fail
    | _ => bif isDyn P o then aop P (aev a.tmps) o (fun nx s => happly P C k a cs nx s) s else xopV P C a.tmps o (fun v s => k (a.finish v) cs s) s
  else .fail
noncomputable def hopV [Known P] (nest : Nest) (tmps : List Value) (o : Oper) (s : Nat) : AM :=
  bif isDyn P o then aop P (aev tmps) o (fun nx s => match nx with
    | .round l f t as body => nest ⟨f, t.toList, [.code as, .beginRound, .code body], [], .run, .normal, some l⟩ (fun v s' => .ret (pk v s')) s
    | .enter f args => bif slowF P f then askK P f args.toList .fail (match AF.enter P f args.toList .normal with
      | some a => nest a (fun v s' => .ret (pk v s')) s
      | none => .fail) else C f args.toList (fun v s => .ret (pk v s)) s
    | nx => xnext C (fun v s => .ret (pk v s)) nx s) s
  else xopV P C tmps o (fun v s => .ret (pk v s)) s
noncomputable def hdraw [Known P] (nest : Nest) (ops : Array Oper) (k : List Value → Nat → AM) : List Oper → List Value → List (List Nat × List Nat) → Nat → AM
  | [], tmps, rs, s => bif okDraw2 ops rs.reverse then k tmps s else .fail
  | o :: l, tmps, rs, s => bif awanted ops tmps o then
      (bif okOperD o then .log (hopV P C nest tmps o s) (fun u ts ws => match up u with
        | some (v, s') => hdraw nest ops k l (aput' tmps o.dst v) ((ts, ws) :: rs) s'
        | none => .fail) else .fail)
    else hdraw nest ops k l (aput' tmps o.dst undef) (([], []) :: rs) s
noncomputable def hdrawS [Known P] (nest : Nest) (ops : Array Oper) (e : Exc) (k : List Value → Nat → AM) : List Oper → Nat → Rec3 → List Value → List (List Nat × List Nat) → Nat → AM
  | [], _, _, tmps, rs, s => bif okDrawS ops rs.reverse e.i e.j then k tmps s else .fail
  | o :: l, i, c, tmps, rs, s =>
    (fun go : Rec3 → AM => bif Nat.beq i e.i then peekA P e tmps go else go c) fun c =>
      bif awanted ops tmps o then
        (bif okOperD o then .log (hopV P C nest tmps o s) (fun u ts ws => match up u with
          | some (v, s') => bif (bif Nat.beq i e.j then sameA e c tmps v else true) then hdrawS nest ops e k l (i + 1) c (aput' tmps o.dst v) ((ts, ws) :: rs) s' else .fail
          | none => .fail) else .fail)
      else bif Nat.beq i e.j then .fail else hdrawS nest ops e k l (i + 1) c (aput' tmps o.dst undef) (([], []) :: rs) s
noncomputable def hdrawE [Known P] (nest : Nest) (ops : Array Oper) (k : List Value → Nat → AM) (tmps : List Value) (s : Nat) : AM :=
  match exOf ops with
  | none => hdraw P C nest ops k ops.toList tmps [] s
  | some e => hdrawS P C nest ops e k ops.toList 0 (0, 0, undef) tmps [] s
noncomputable def hstep [Known P] (nest : Nest) (k : AF → List AF → Nat → AM) (fin : Value → Nat → AM) (a : AF) (cs : List AF) (s : Nat) : AM :=
  match a with
  | ⟨fn, tmps, .inRegion ops (i :: l) :: r, ds, .run, kind, rnd⟩ => match ops[i]? with
    | none => k ⟨fn, tmps, .inRegion ops l :: r, ds, .run, kind, rnd⟩ cs s
    | some o => bif awanted ops tmps o then hoper P C k ⟨fn, tmps, .inRegion ops (i :: l) :: r, ds, .run, kind, rnd⟩ cs o s
      else k ⟨fn, aput' tmps o.dst undef, .inRegion ops l :: r, ds, .run, kind, rnd⟩ cs s
  | ⟨fn, tmps, .code (.region id ops true) :: r, ds, .run, kind, rnd⟩ => hdrawE P C nest ops (fun tmps' s => k ⟨fn, tmps', r, ds, .run, kind, rnd⟩ cs s) tmps s
  | a => astep P (fun _ _ _ => .fail) k fin a cs s
noncomputable def hrun [Known P] (n : Nat) : AF → List AF → (Value → Nat → AM) → Nat → AM :=
  Nat.rec (fun _ _ _ _ => .fail) (fun _ ih a cs fin s => hstep P C (fun b q => ih b [] q) (fun a' cs' s' => ih a' cs' fin s') fin a cs s) n
end

section
variable {P : Program} {C : CallT} {k k' : AF → List AF → Nat → AM} {fin fin' : Value → Nat → AM} {cs : List AF}
def KLe2 (cs : List AF) (k k' : AF → List AF → Nat → AM) : Prop := ∀ a cs1 s, AM.le (k a cs1 s) (k' a (cs1 ++ cs) s)
def FLe2 (k' : AF → List AF → Nat → AM) (cs : List AF) (f f' : Value → Nat → AM) : Prop := ∀ v s, AM.le (f v s) (match cs with | [] => f' v s | c :: rest => k' (c.finish v) rest s)

theorem le2_leave (hk : KLe2 cs k k') (hf : FLe2 k' cs fin fin') (a : AF) (cs1 : List AF) (j : Option Code) (s : Nat) : AM.le (aleave k fin a cs1 j s) (aleave k' fin' a (cs1 ++ cs) j s) := by
  unfold aleave
  split
  · split <;> first | exact .fail _ | exact hk _ _ _
  · refine .get fun o => ?_
    cases o <;> try exact .fail _
    refine .put ?_
    cases cs1 with
    | nil =>
      dsimp only [List.nil_append]
      cases hkd : a.kind with
      | normal =>
        refine (hf _ _).trans ?_
        cases cs <;> exact .refl _
      | _ => exact .fail _
    | cons c rest =>
      dsimp only [List.cons_append]
      cases a.kind <;> first | exact .fail _ | exact hk _ _ _
theorem le2_unwind (hk : KLe2 cs k k') (hf : FLe2 k' cs fin fin') (a : AF) (cs1 : List AF) (s : Nat) : AM.le (aunwind P k fin a cs1 s) (aunwind P k' fin' a (cs1 ++ cs) s) := by
  unfold aunwind
  split
  · split
    · refine .get fun o => ?_
      split
      · exact .put (hk _ _ _)
      · exact .fail _
    · refine cg_invoke _ _ _ _ fun nx s => ?_
      split
      · split
        · exact hk _ (_ :: cs1) _
        · exact .fail _
      · exact .fail _
    · exact .fail _
  · split
    · cases cs1 with
      | nil => exact .fail _
      | cons c rest =>
        dsimp only [List.cons_append]
        cases P.funcs[a.fn]? with
        | none => exact .fail _
        | some _ => exact hk _ _ _
    · split
      · refine le_results _ _ _ _ _ fun vs s => ?_
        cases cs1 with
        | nil =>
          dsimp only [List.nil_append]
          cases hkd : a.kind with
          | normal =>
            refine (hf _ _).trans ?_
            cases cs <;> exact .refl _
          | _ => exact .fail _
        | cons c rest =>
          dsimp only [List.cons_append]
          cases a.kind <;> first | exact .fail _ | exact hk _ _ _
      · exact .fail _
    · exact .fail _
theorem le2_callIter (hk : KLe2 cs k k') (a : AF) (cs1 : List AF) (f : Operand) (l : Nat) (s : Nat) : AM.le (acallIter P k a cs1 f l s) (acallIter P k' a (cs1 ++ cs) f l s) := by
  unfold acallIter
  split
  · refine cg_invoke _ _ _ _ fun nx s => ?_
    split
    · split
      · exact hk _ (_ :: cs1) _
      · exact .fail _
    · exact .fail _
  · exact .fail _
theorem le2_range (hk : KLe2 cs k k') (a : AF) (cs1 : List AF) (f : Operand) (params : Array Tmp) (as body : Code) (r : List Item) (s : Nat) : AM.le (arange P k a cs1 f params as body r s) (arange P k' a (cs1 ++ cs) f params as body r s) := by
  unfold arange
  refine .bif ?_ (.fail _)
  split
  · exact .new (.new (le2_callIter hk _ _ _ _ _))
  · refine .get fun o => ?_
    split
    · exact .new (le2_callIter hk _ _ _ _ _)
    · exact .fail _
theorem le2_begin (hk : KLe2 cs k k') (a : AF) (cs1 : List AF) (s : Nat) : AM.le (abegin k a cs1 s) (abegin k' a (cs1 ++ cs) s) := by
  unfold abegin
  split
  · refine .get fun o => ?_
    split
    · split
      · exact .put (hk _ _ _)
      · exact .fail _
    · exact .fail _
  · exact .fail _
theorem le2_end (hk : KLe2 cs k k') (a : AF) (cs1 : List AF) (l : Nat) (r : List Item) (s : Nat) : AM.le (aend k a cs1 l r s) (aend k' a (cs1 ++ cs) l r s) := by
  unfold aend
  refine .get fun o => ?_
  split
  · split
    · exact .fail _
    · refine .put ?_
      split <;> exact hk _ _ _
  · exact .fail _
theorem le2_apply [Known P] (hk : KLe2 cs k k') (a : AF) (cs1 : List AF) (nx : Next) (s : Nat) : AM.le (aapply P k a cs1 nx s) (aapply P k' a (cs1 ++ cs) nx s) := by
  unfold aapply
  cases nx with
  | value v => exact hk _ _ _
  | skip => exact hk _ _ _
  | enter f args =>
    dsimp only
    refine le_ask (hk _ _ _) ?_
    split
    · exact hk _ (_ :: cs1) _
    · exact .fail _
  | round l f t as body => exact hk _ (_ :: cs1) _
  | defer d =>
    dsimp only
    split
    · exact hk _ _ _
    · exact .fail _
  | recover =>
    dsimp only
    obtain ⟨fn, tmps, todo, ds, mode, kind, rnd⟩ := a
    dsimp only
    cases rnd with
    | some _ => exact .fail _
    | none =>
      cases kind with
      | normal => exact hk _ _ _
      | deferred =>
        cases cs1 with
        | nil => exact .fail _
        | cons c rest =>
          dsimp only [List.cons_append]
          split
          · exact hk _ (_ :: rest) _
          · exact hk _ (c :: rest) _
      | _ => exact .fail _
  | _ => exact .fail _

theorem slow_ne (hz : P.funcs[1000000]? = none) {f : Nat} (h : slowF P f = false) : f ≠ 1000000 := fun e => by
  subst e; unfold slowF at h; rw [hz] at h; cases h
theorem hrun_ok [Known P] {J : Nat} (hC : AllOK P C J) : ∀ (M : Nat) (a : AF) (cs1 : List AF) (K : Value → Nat → AM) (s n : Nat) (cs : List AF) (fin : Value → Nat → AM), (∀ v s, AM.le (K v s) (back P n cs fin v s)) →
    AM.le (hrun P C M a cs1 K s) (arun P (n + M * (J + 1)) a (cs1 ++ cs) fin s)
  | 0, _, _, _, _, _, _, _, _ => .fail _
  | M + 1, a, cs1, K, s, n, cs, fin, hK => by
    have e : n + (M + 1) * (J + 1) = (n + M * (J + 1) + J) + 1 := by rw [Nat.add_mul]; omega
    rw [e, arun_succ]
    have hk0 : ∀ a cs1 s, AM.le (hrun P C M a cs1 K s) (arun P (n + M * (J + 1)) a (cs1 ++ cs) fin s) := fun a cs1 s => hrun_ok hC M a cs1 K s n cs fin hK
    have hk : KLe2 cs (fun a' cs' s' => hrun P C M a' cs' K s') (fun a' cs' s' => arun P (n + M * (J + 1) + J) a' cs' fin s') := fun a cs1 s => (hk0 a cs1 s).trans (arun_add (by omega) _ _ _ _)
    have hf : FLe2 (fun a' cs' s' => arun P (n + M * (J + 1) + J) a' cs' fin s') cs K fin := fun v s => by
      refine (hK v s).trans ?_
      unfold back
      cases cs with
      | nil => exact .refl _
      | cons c rest => exact arun_add (by omega) _ _ _ _
    show AM.le (hstep P C (fun b q => hrun P C M b [] q) (fun a' cs' s' => hrun P C M a' cs' K s') K a cs1 s) _
    -- what the two have in common
    have common : AM.le (astep P (fun _ _ _ => .fail) (fun a' cs' s' => hrun P C M a' cs' K s') K a cs1 s) (astep P (fun b q => arun P (n + M * (J + 1) + J) b [] q) (fun a' cs' s' => arun P (n + M * (J + 1) + J) a' cs' fin s') fin a (cs1 ++ cs) s) := by
      obtain ⟨fn, tmps, todo, ds, mode, kind, rnd⟩ := a
      unfold astep
      cases mode with
      | returning => exact le2_unwind hk hf _ _ _
      | panicking c => exact le2_unwind hk hf _ _ _
      | run =>
        cases todo with
        | nil => exact le2_leave hk hf _ _ _ _
        | cons i r =>
          cases i with
          | code c =>
            cases c with
            | ret => exact le2_leave hk hf _ _ _ _
            | skip => exact hk _ _ _
            | label l => exact hk _ _ _
            | seq x y => exact hk _ _ _
            | cond c x y => dsimp only; refine .bif ?_ (.fail _); split; exact hk _ _ _; exact .fail _
            | block id x => exact hk _ _ _
            | loop x => exact hk _ _ _
            | scope x => exact hk _ _ _
            | exit id => dsimp only; split; exact hk _ _ _; exact le2_leave hk hf _ _ _ _
            | goto id => dsimp only; split; exact hk _ _ _; exact le2_leave hk hf _ _ _ _
            | region id ops draw => exact .bif (le_drawE (fun _ _ _ _ _ => .fail _) _ (fun t s => hk _ _ _) _ _) (hk _ _ _)
            | rangeFunc f params as body => exact le2_range hk _ _ _ _ _ _ _ _
            | refuse w => exact .fail _
          | inBlock b => exact hk _ _ _
          | inScope c => exact hk _ _ _
          | inLoop c => exact hk _ _ _
          | inRegion ops l =>
            cases l with
            | nil => exact hk _ _ _
            | cons i l =>
              dsimp only
              split
              · exact hk _ _ _
              · refine .bif ?_ (hk _ _ _)
                unfold aoper
                refine .bif ?_ (.fail _)
                split
                · split
                  · exact hk _ _ _
                  · exact .fail _
                · exact cg_op _ _ _ _ _ fun nx s => le2_apply hk _ _ _ _
          | beginRound => exact le2_begin hk _ _ _
          | endRangeFunc l => exact le2_end hk _ _ _ _ _
          | inRangeFunc l => exact .fail _
          | call d w r s => exact .fail _
          | extern r a => exact .fail _
    unfold hstep
    split
    · rename_i fn tmps ops i l r ds kind rnd
      clear common
      unfold astep
      dsimp only
      cases ho : ops[i]? with
      | none => exact hk _ _ _
      | some o =>
        refine .bif ?_ (hk _ _ _)
        have hfin : ∀ v s, AM.le (hrun P C M (AF.finish ⟨fn, tmps, .inRegion ops (i :: l) :: r, ds, .run, kind, rnd⟩ v) cs1 K s) (arun P (n + M * (J + 1)) (AF.finish ⟨fn, tmps, .inRegion ops (i :: l) :: r, ds, .run, kind, rnd⟩ v) (cs1 ++ cs) fin s) := fun v s => hk0 _ _ _
        unfold hoper aoper
        refine .bif ?_ (.fail _)
        have main : AM.le (bif isDyn P o then aop P (aev tmps) o (fun nx s => happly P C (fun a' cs' s' => hrun P C M a' cs' K s') ⟨fn, tmps, .inRegion ops (i :: l) :: r, ds, .run, kind, rnd⟩ cs1 nx s) s else xopV P C tmps o (fun v s => hrun P C M (AF.finish ⟨fn, tmps, .inRegion ops (i :: l) :: r, ds, .run, kind, rnd⟩ v) cs1 K s) s)
            (aop P (aev tmps) o (fun nx s => aapply P (fun a' cs' s' => arun P (n + M * (J + 1) + J) a' cs' fin s') ⟨fn, tmps, .inRegion ops (i :: l) :: r, ds, .run, kind, rnd⟩ (cs1 ++ cs) nx s) s) := by
          cases hd : isDyn P o with
          | true =>
            simp only [cond_true]
            refine cg_op _ _ _ _ _ fun nx s => ?_
            unfold happly
            split
            · rename_i f args
              cases hsl : slowF P f with
              | true => simp only [cond_true]; exact le2_apply hk _ _ _ _
              | false => simp only [cond_false]; exact hC.call f (slow_ne hC.big hsl) args.toList _ (n + M * (J + 1)) (_ :: (cs1 ++ cs)) fin s hfin
            · exact le2_apply hk _ _ _ _
          | false =>
            simp only [cond_false]
            exact xopV_to hC.big (fun _ _ => rfl) (xnext_apply hC hfin) (yield_apply hC hfin) s
        cases hop : o.op
        case panic x =>
          dsimp only
          cases aev tmps x <;> first | exact .fail _ | exact hk _ _ _
        all_goals exact main
    · rename_i fn tmps id ops r ds kind rnd
      clear common
      unfold astep
      dsimp only [cond_true]
      have opv : ∀ (tmps : List Value) (o : Oper) (s : Nat), AM.le (hopV P C (fun b q => hrun P C M b [] q) tmps o s) (aopV P (fun b q => arun P (n + M * (J + 1) + J) b [] q) tmps o s) := by
        intro tmps o s
        unfold hopV aopV
        cases isDyn P o with
        | true =>
          simp only [cond_true]
          refine cg_op _ _ _ _ _ fun nx s => ?_
          cases nx with
          | round l f t as body =>
            have := hrun_ok hC M ⟨f, t.toList, [.code as, .beginRound, .code body], [], .run, .normal, some l⟩ [] (fun v s' => .ret (pk v s')) s 0 [] (fun v s' => .ret (pk v s')) (fun v s => .refl _)
            exact this.trans (arun_add (by omega) _ _ _ _)
          | value v => exact .refl _
          | skip => exact .refl _
          | enter f args =>
            dsimp only
            cases hsl : slowF P f with
            | false =>
              have := (hC.call f (slow_ne hC.big hsl)).more (J' := n + M * (J + 1) + J) (by omega) args.toList (fun v s => .ret (pk v s)) 0 [] (fun v s => .ret (pk v s)) s (fun v s => .refl _)
              unfold entered at this
              rw [Nat.zero_add] at this
              exact this
            | true =>
              simp only [cond_true]
              refine le_ask (.fail _) ?_
              cases AF.enter P f args.toList .normal with
              | none => exact .fail _
              | some b =>
                have := hrun_ok hC M b [] (fun v s' => .ret (pk v s')) s 0 [] (fun v s' => .ret (pk v s')) (fun v s => .refl _)
                exact this.trans (arun_add (by omega) _ _ _ _)
          | _ => exact .fail _
        | false =>
          simp only [cond_false]
          have := xopV_to (o := o) (E := tmps) hC.big (fun _ _ => rfl) (xnext_nest hC (show J ≤ n + M * (J + 1) + J by omega)) (yield_nest hC (show J ≤ n + M * (J + 1) + J by omega)) s
          rw [← aopV_nest] at this
          unfold aopV at this
          exact this
      have draw : ∀ (l : List Oper) (tmps : List Value) (rs : List (List Nat × List Nat)) (s : Nat), AM.le (hdraw P C (fun b q => hrun P C M b [] q) ops (fun tmps' s => hrun P C M ⟨fn, tmps', r, ds, .run, kind, rnd⟩ cs1 K s) l tmps rs s)
          (adraw P (fun b q => arun P (n + M * (J + 1) + J) b [] q) ops (fun tmps' s => arun P (n + M * (J + 1) + J) ⟨fn, tmps', r, ds, .run, kind, rnd⟩ (cs1 ++ cs) fin s) l tmps rs s) := by
        intro l
        induction l with
        | nil => intro tmps rs s; unfold hdraw adraw; exact .bif (hk _ _ _) (.fail _)
        | cons o l ih =>
          intro tmps rs s
          unfold hdraw adraw
          refine .bif (.bif (.log ?_ fun u ts ws => ?_) (.fail _)) (ih _ _ _)
          · exact opv _ _ _
          · cases up u with
            | some p => exact ih _ _ _
            | none => exact .fail _
      have drawS : ∀ (e : Exc) (l : List Oper) (i : Nat) (c : Rec3) (tmps : List Value) (rs : List (List Nat × List Nat)) (s : Nat), AM.le (hdrawS P C (fun b q => hrun P C M b [] q) ops e (fun tmps' s => hrun P C M ⟨fn, tmps', r, ds, .run, kind, rnd⟩ cs1 K s) l i c tmps rs s)
          (adrawS P (fun b q => arun P (n + M * (J + 1) + J) b [] q) ops e (fun tmps' s => arun P (n + M * (J + 1) + J) ⟨fn, tmps', r, ds, .run, kind, rnd⟩ (cs1 ++ cs) fin s) l i c tmps rs s) := by
        intro e l
        induction l with
        | nil => intro i c tmps rs s; unfold hdrawS adrawS; exact .bif (hk _ _ _) (.fail _)
        | cons o l ih =>
          intro i c tmps rs s
          unfold hdrawS adrawS
          have go : ∀ c : Rec3, AM.le (bif awanted ops tmps o then
              (bif okOperD o then .log (hopV P C (fun b q => hrun P C M b [] q) tmps o s) (fun u ts ws => match up u with
                | some (v, s') => bif (bif Nat.beq i e.j then sameA e c tmps v else true) then hdrawS P C (fun b q => hrun P C M b [] q) ops e (fun tmps' s => hrun P C M ⟨fn, tmps', r, ds, .run, kind, rnd⟩ cs1 K s) l (i + 1) c (aput' tmps o.dst v) ((ts, ws) :: rs) s' else .fail
                | none => .fail) else .fail)
            else bif Nat.beq i e.j then .fail else hdrawS P C (fun b q => hrun P C M b [] q) ops e (fun tmps' s => hrun P C M ⟨fn, tmps', r, ds, .run, kind, rnd⟩ cs1 K s) l (i + 1) c (aput' tmps o.dst undef) (([], []) :: rs) s)
            (bif awanted ops tmps o then
              (bif okOperD o then .log (aopV P (fun b q => arun P (n + M * (J + 1) + J) b [] q) tmps o s) (fun u ts ws => match up u with
                | some (v, s') => bif (bif Nat.beq i e.j then sameA e c tmps v else true) then adrawS P (fun b q => arun P (n + M * (J + 1) + J) b [] q) ops e (fun tmps' s => arun P (n + M * (J + 1) + J) ⟨fn, tmps', r, ds, .run, kind, rnd⟩ (cs1 ++ cs) fin s) l (i + 1) c (aput' tmps o.dst v) ((ts, ws) :: rs) s' else .fail
                | none => .fail) else .fail)
            else bif Nat.beq i e.j then .fail else adrawS P (fun b q => arun P (n + M * (J + 1) + J) b [] q) ops e (fun tmps' s => arun P (n + M * (J + 1) + J) ⟨fn, tmps', r, ds, .run, kind, rnd⟩ (cs1 ++ cs) fin s) l (i + 1) c (aput' tmps o.dst undef) (([], []) :: rs) s) := fun c => by
            refine .bif (.bif (.log (opv _ _ _) fun u ts ws => ?_) (.fail _)) (.bif (.fail _) (ih _ _ _ _ _))
            cases up u with
            | some p => exact .bif (ih _ _ _ _ _) (.fail _)
            | none => exact .fail _
          exact .bif (le_peek go) (go c)
      show AM.le (hdrawE P C _ ops _ _ _) (adrawE P _ ops _ _ _)
      unfold hdrawE adrawE
      cases exOf ops with
      | none => exact draw _ _ _ _
      | some e => exact drawS e _ _ _ _ _ _
    · exact common

/-- A function run step by step. -/
noncomputable def hF (P : Program) [Known P] (M f : Nat) (C : CallT) (args : List Value) (K : Value → Nat → AM) (s : Nat) : AM :=
  match AF.enter P f args .normal with
  | some b => hrun P C M b [] K s
  | none => .fail
theorem hF_ok [Known P] {J : Nat} (hC : AllOK P C J) (M f : Nat) (hkn : Known.kn P f = false) (hk2 : Known.k2 P f = false) : CallOK P (fun _ => hF P M f C) (M * (J + 1)) f := by
  intro args K n cs fin s hK
  show AM.le (hF P M f C args K s) _
  unfold hF entered
  simp only [askK_no hkn hk2]
  cases AF.enter P f args .normal with
  | some b => exact hrun_ok hC M b [] K s n cs fin hK
  | none => exact .fail _
end
end Go.Ev

/- The machine over a heap of names tells no less if it may go on longer. No condition. -/
import Derived.Test.YtpfnoffadfahmaaGreatXA
namespace Go.Ev
open Go Go.RowKit
set_option linter.unusedVariables false
set_option linter.unusedSimpArgs false

section
variable {P : Program}
def KLe (k k' : AF → List AF → Nat → AM) : Prop := ∀ a cs s, AM.le (k a cs s) (k' a cs s)
def FLe (f f' : Value → Nat → AM) : Prop := ∀ v s, AM.le (f v s) (f' v s)
def NLe (n n' : Nest) : Prop := ∀ a q q' s, FLe q q' → AM.le (n a q s) (n' a q' s)
variable {k k' : AF → List AF → Nat → AM} {fin fin' : Value → Nat → AM} {nest nest' : Nest}

theorem le_leave (hk : KLe k k') (hf : FLe fin fin') (a : AF) (cs : List AF) (j : Option Code) (s : Nat) : AM.le (aleave k fin a cs j s) (aleave k' fin' a cs j s) := by
  unfold aleave
  split
  · split <;> first | exact .fail _ | exact hk _ _ _
  · refine .get fun o => ?_
    cases o <;> try exact .fail _
    refine .put ?_
    split
    · exact hk _ _ _
    · exact hf _ _
    · exact .fail _
theorem le_results (tmps : List Value) : ∀ (l : List ResultVar) (q q' : List Value → Nat → AM) (s : Nat), (∀ vs s, AM.le (q vs s) (q' vs s)) → AM.le (aresults P tmps q l s) (aresults P tmps q' l s)
  | [], q, q', s, h => h _ _
  | .tmp t :: l, q, q', s, h => le_results tmps l _ _ _ fun vs s => h _ _
  | .cell a t :: l, q, q', s, h => by
    unfold aresults
    split
    · exact cg_loadVar _ _ _ _ _ _ fun v s => le_results tmps l _ _ _ fun vs s => h _ _
    · exact .fail _
theorem le_unwind (hk : KLe k k') (hf : FLe fin fin') (a : AF) (cs : List AF) (s : Nat) : AM.le (aunwind P k fin a cs s) (aunwind P k' fin' a cs s) := by
  unfold aunwind
  split
  · split
    · refine .get fun o => ?_
      split
      · exact .put (hk _ _ _)
      · exact .fail _
    · refine cg_invoke _ _ _ _ fun nx s => ?_
      split
      · split
        · exact hk _ _ _
        · exact .fail _
      · exact .fail _
    · exact .fail _
  · split
    · split
      · exact hk _ _ _
      · exact .fail _
    · split
      · refine le_results _ _ _ _ _ fun vs s => ?_
        split
        · exact hf _ _
        · exact hk _ _ _
        · exact hk _ _ _
        · exact .fail _
      · exact .fail _
    · exact .fail _
theorem le_read : ∀ {l : List Nat} {q q' : List Obj → AM}, (∀ os, AM.le (q os) (q' os)) → AM.le (readA l q) (readA l q')
  | [], q, q', h => h _
  | n :: l, q, q', h => .get fun o => le_read fun os => h _
theorem le_ask [Known P] {f : FuncId} {args : List Value} {y y' n n' : AM} (hy : AM.le y y') (hn : AM.le n n') : AM.le (askK P f args y n) (askK P f args y' n') := by
  unfold askK
  exact .bif hy (.bif (.bif (le_read fun os => .bif hy (.fail _)) (.fail _)) hn)
theorem le_apply [Known P] (hk : KLe k k') (a : AF) (cs : List AF) (nx : Next) (s : Nat) : AM.le (aapply P k a cs nx s) (aapply P k' a cs nx s) := by
  unfold aapply
  split
  · exact hk _ _ _
  · exact hk _ _ _
  · refine le_ask (hk _ _ _) ?_
    split
    · exact hk _ _ _
    · exact .fail _
  · exact hk _ _ _
  · split
    · exact hk _ _ _
    · exact .fail _
  · split
    · split <;> exact hk _ _ _
    · exact hk _ _ _
    · exact .fail _
  · exact .fail _
theorem le_oper [Known P] (hk : KLe k k') (a : AF) (cs : List AF) (o : Oper) (s : Nat) : AM.le (aoper P k a cs o s) (aoper P k' a cs o s) := by
  unfold aoper
  refine .bif ?_ (.fail _)
  split
  · split
    · exact hk _ _ _
    · exact .fail _
  · exact cg_op _ _ _ _ _ fun nx s => le_apply hk _ _ _ _
theorem le_callIter (hk : KLe k k') (a : AF) (cs : List AF) (f : Operand) (l : Nat) (s : Nat) : AM.le (acallIter P k a cs f l s) (acallIter P k' a cs f l s) := by
  unfold acallIter
  split
  · refine cg_invoke _ _ _ _ fun nx s => ?_
    split
    · split
      · exact hk _ _ _
      · exact .fail _
    · exact .fail _
  · exact .fail _
theorem le_range (hk : KLe k k') (a : AF) (cs : List AF) (f : Operand) (params : Array Tmp) (as body : Code) (r : List Item) (s : Nat) : AM.le (arange P k a cs f params as body r s) (arange P k' a cs f params as body r s) := by
  unfold arange
  refine .bif ?_ (.fail _)
  split
  · exact .new (.new (le_callIter hk _ _ _ _ _))
  · refine .get fun o => ?_
    split
    · exact .new (le_callIter hk _ _ _ _ _)
    · exact .fail _
theorem le_begin (hk : KLe k k') (a : AF) (cs : List AF) (s : Nat) : AM.le (abegin k a cs s) (abegin k' a cs s) := by
  unfold abegin
  split
  · refine .get fun o => ?_
    split
    · split
      · exact .put (hk _ _ _)
      · exact .fail _
    · exact .fail _
  · exact .fail _
theorem le_end (hk : KLe k k') (a : AF) (cs : List AF) (l : Nat) (r : List Item) (s : Nat) : AM.le (aend k a cs l r s) (aend k' a cs l r s) := by
  unfold aend
  refine .get fun o => ?_
  split
  · split
    · exact .fail _
    · refine .put ?_
      split <;> exact hk _ _ _
  · exact .fail _
theorem le_opV [Known P] (hn : NLe nest nest') (tmps : List Value) (o : Oper) (s : Nat) : AM.le (aopV P nest tmps o s) (aopV P nest' tmps o s) := by
  unfold aopV
  refine cg_op _ _ _ _ _ fun nx s => ?_
  split
  · exact .refl _
  · exact .refl _
  · refine le_ask (.refl _) ?_
    split
    · exact hn _ _ _ _ fun v s => .refl _
    · exact .fail _
  · exact hn _ _ _ _ fun v s => .refl _
  · exact .fail _
theorem le_draw [Known P] (hn : NLe nest nest') (ops : Array Oper) {q q' : List Value → Nat → AM} (hq : ∀ t s, AM.le (q t s) (q' t s)) : ∀ (l : List Oper) (tmps : List Value) (rs : List (List Nat × List Nat)) (s : Nat), AM.le (adraw P nest ops q l tmps rs s) (adraw P nest' ops q' l tmps rs s)
  | [], tmps, rs, s => by unfold adraw; exact .bif (hq _ _) (.fail _)
  | o :: l, tmps, rs, s => by
    unfold adraw
    refine .bif (.bif (.log (le_opV hn _ _ _) fun u ts ws => ?_) (.fail _)) (le_draw hn ops hq _ _ _ _)
    split
    · exact le_draw hn ops hq _ _ _ _
    · exact .fail _
theorem le_peek {e : Exc} {tmps : List Value} {q q' : Rec3 → AM} (h : ∀ x, AM.le (q x) (q' x)) : AM.le (peekA P e tmps q) (peekA P e tmps q') := by
  unfold peekA
  split
  · refine .get fun o => ?_
    split
    · split
      · exact h _
      · exact .fail _
    · exact .fail _
  · exact .fail _
theorem le_drawS [Known P] (hn : NLe nest nest') (ops : Array Oper) (e : Exc) {q q' : List Value → Nat → AM} (hq : ∀ t s, AM.le (q t s) (q' t s)) : ∀ (l : List Oper) (i : Nat) (c : Rec3) (tmps : List Value) (rs : List (List Nat × List Nat)) (s : Nat), AM.le (adrawS P nest ops e q l i c tmps rs s) (adrawS P nest' ops e q' l i c tmps rs s)
  | [], i, c, tmps, rs, s => by unfold adrawS; exact .bif (hq _ _) (.fail _)
  | o :: l, i, c, tmps, rs, s => by
    unfold adrawS
    have go : ∀ c : Rec3, AM.le (bif awanted ops tmps o then
        (bif okOperD o then .log (aopV P nest tmps o s) (fun u ts ws => match up u with
          | some (v, s') => bif (bif Nat.beq i e.j then sameA e c tmps v else true) then adrawS P nest ops e q l (i + 1) c (aput' tmps o.dst v) ((ts, ws) :: rs) s' else .fail
          | none => .fail) else .fail)
      else bif Nat.beq i e.j then .fail else adrawS P nest ops e q l (i + 1) c (aput' tmps o.dst undef) (([], []) :: rs) s)
      (bif awanted ops tmps o then
        (bif okOperD o then .log (aopV P nest' tmps o s) (fun u ts ws => match up u with
          | some (v, s') => bif (bif Nat.beq i e.j then sameA e c tmps v else true) then adrawS P nest' ops e q' l (i + 1) c (aput' tmps o.dst v) ((ts, ws) :: rs) s' else .fail
          | none => .fail) else .fail)
      else bif Nat.beq i e.j then .fail else adrawS P nest' ops e q' l (i + 1) c (aput' tmps o.dst undef) (([], []) :: rs) s) := fun c => by
      refine .bif (.bif (.log (le_opV hn _ _ _) fun u ts ws => ?_) (.fail _)) (.bif (.fail _) (le_drawS hn ops e hq _ _ _ _ _ _))
      split
      · exact .bif (le_drawS hn ops e hq _ _ _ _ _ _) (.fail _)
      · exact .fail _
    exact .bif (le_peek go) (go c)
theorem le_drawE [Known P] (hn : NLe nest nest') (ops : Array Oper) {q q' : List Value → Nat → AM} (hq : ∀ t s, AM.le (q t s) (q' t s)) (tmps : List Value) (s : Nat) : AM.le (adrawE P nest ops q tmps s) (adrawE P nest' ops q' tmps s) := by
  unfold adrawE
  split
  · exact le_draw hn ops hq _ _ _ _
  · exact le_drawS hn ops _ hq _ _ _ _ _ _
theorem le_step [Known P] (hn : NLe nest nest') (hk : KLe k k') (hf : FLe fin fin') (a : AF) (cs : List AF) (s : Nat) : AM.le (astep P nest k fin a cs s) (astep P nest' k' fin' a cs s) := by
  obtain ⟨fn, tmps, todo, ds, mode, kind, rnd⟩ := a
  unfold astep
  cases mode with
  | returning => exact le_unwind hk hf _ _ _
  | panicking c => exact le_unwind hk hf _ _ _
  | run =>
    cases todo with
    | nil => exact le_leave hk hf _ _ _ _
    | cons i r =>
      cases i with
      | code c =>
        cases c with
        | ret => exact le_leave hk hf _ _ _ _
        | skip => exact hk _ _ _
        | label l => exact hk _ _ _
        | seq x y => exact hk _ _ _
        | cond c x y => dsimp only; refine .bif ?_ (.fail _); split; exact hk _ _ _; exact .fail _
        | block id x => exact hk _ _ _
        | loop x => exact hk _ _ _
        | scope x => exact hk _ _ _
        | exit id => dsimp only; split; exact hk _ _ _; exact le_leave hk hf _ _ _ _
        | goto id => dsimp only; split; exact hk _ _ _; exact le_leave hk hf _ _ _ _
        | region id ops draw => exact .bif (le_drawE hn _ (fun t s => hk _ _ _) _ _) (hk _ _ _)
        | rangeFunc f params as body => exact le_range hk _ _ _ _ _ _ _ _
        | refuse w => exact .fail _
      | inBlock b => exact hk _ _ _
      | inScope c => exact hk _ _ _
      | inLoop c => exact hk _ _ _
      | inRegion ops l =>
        cases l with
        | nil => exact hk _ _ _
        | cons i l =>
          dsimp only
          split
          · exact hk _ _ _
          · exact .bif (le_oper hk _ _ _ _) (hk _ _ _)
      | beginRound => exact le_begin hk _ _ _
      | endRangeFunc l => exact le_end hk _ _ _ _ _
      | inRangeFunc l => exact .fail _
      | call d w r s => exact .fail _
      | extern r a => exact .fail _

theorem arun_succ (P : Program) [Known P] (n : Nat) (a : AF) (cs : List AF) (fin : Value → Nat → AM) (s : Nat) : arun P (n + 1) a cs fin s = astep P (fun b q => arun P n b [] q) (fun a' cs' s' => arun P n a' cs' fin s') fin a cs s := rfl

theorem arun_le [Known P] : ∀ (n : Nat) (a : AF) (cs : List AF) (fin fin' : Value → Nat → AM) (s : Nat), FLe fin fin' → AM.le (arun P n a cs fin s) (arun P (n + 1) a cs fin' s)
  | 0, a, cs, fin, fin', s, _ => .fail _
  | n + 1, a, cs, fin, fin', s, h => by
    rw [arun_succ, arun_succ P (n + 1)]
    exact le_step (fun a q q' s hq => arun_le n a [] q q' s hq) (fun a cs s => arun_le n a cs fin fin' s h) h a cs s
theorem arun_add [Known P] {n m : Nat} (h : n ≤ m) (a : AF) (cs : List AF) (fin : Value → Nat → AM) (s : Nat) : AM.le (arun P n a cs fin s) (arun P m a cs fin s) := by
  obtain ⟨d, rfl⟩ := Nat.exists_eq_add_of_le h
  induction d with
  | zero => exact .refl _
  | succ d ih => exact (ih (by omega)).trans (arun_le _ _ _ _ _ _ fun v s => .refl _)
theorem arun_fin [Known P] : ∀ (n : Nat) (a : AF) (cs : List AF) (fin fin' : Value → Nat → AM) (s : Nat), FLe fin fin' → AM.le (arun P n a cs fin s) (arun P n a cs fin' s)
  | 0, a, cs, fin, fin', s, _ => .fail _
  | n + 1, a, cs, fin, fin', s, h => by
    rw [arun_succ, arun_succ]
    exact le_step (fun a q q' s hq => arun_fin n a [] q q' s hq) (fun a cs s => arun_fin n a cs fin fin' s h) h a cs s
end
end Go.Ev

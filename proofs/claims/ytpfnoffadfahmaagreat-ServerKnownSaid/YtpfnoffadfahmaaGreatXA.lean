/- Of two machines over a heap of names one tells no more than the other; what an operation goes on with may be put in place of less. No condition. -/
import Derived.Test.YtpfnoffadfahmaaGreatEvY
namespace Go.Ev
open Go Go.RowKit
set_option linter.unusedVariables false
set_option linter.unusedSimpArgs false

def AM.le (m m' : AM) : Prop := ∀ (h : T) (ts ws : List Nat) (o : Out), m.runL h ts ws = some o → m'.runL h ts ws = some o
theorem AM.le.refl (m : AM) : AM.le m m := fun _ _ _ _ e => e
theorem AM.le.trans {a b c : AM} (h : AM.le a b) (k : AM.le b c) : AM.le a c := fun _ _ _ _ e => k _ _ _ _ (h _ _ _ _ e)
theorem AM.le.fail (m : AM) : AM.le .fail m := fun _ _ _ _ e => by cases e
theorem AM.le.get {n : Nat} {k k' : Obj → AM} (h : ∀ o, AM.le (k o) (k' o)) : AM.le (.get n k) (.get n k') := by
  intro g ts ws o e
  rw [AM.runL_get] at e ⊢
  split at e
  · exact h _ _ _ _ _ e
  · cases e
theorem AM.le.put {n : Nat} {x : Obj} {k k' : AM} (h : AM.le k k') : AM.le (.put n x k) (.put n x k') := by
  intro g ts ws o e
  rw [AM.runL_put] at e ⊢
  split at e
  · exact h _ _ _ _ e
  · cases e
theorem AM.le.new {n : Nat} {x : Obj} {k k' : AM} (h : AM.le k k') : AM.le (.new n x k) (.new n x k') := by
  intro g ts ws o e
  rw [AM.runL_new] at e ⊢
  split at e
  · cases e
  · exact h _ _ _ _ e
theorem AM.le.log {m m' : AM} {k k' : Value → List Nat → List Nat → AM} (hm : AM.le m m') (h : ∀ v ts ws, AM.le (k v ts ws) (k' v ts ws)) : AM.le (.log m k) (.log m' k') := by
  intro g ts ws o e
  rw [AM.runL_log] at e ⊢
  split at e
  · rename_i v h' ts' ws' hm'
    rw [hm _ _ _ _ hm']
    exact h _ _ _ _ _ _ _ e
  · cases e

theorem AM.le.bif {c : Bool} {a a' b b' : AM} (h : AM.le a a') (k : AM.le b b') : AM.le (bif c then a else b) (bif c then a' else b') := by cases c; exact k; exact h

/-- What goes on with an answer may be put in place of less. -/
def Cg {α : Type} (A : M α) : Prop := ∀ (k k' : α → Nat → AM) (s : Nat), (∀ a s, AM.le (k a s) (k' a s)) → AM.le (A k s) (A k' s)

section
variable {P : Program}
theorem cg_opt {α : Type} (o : Option α) : Cg (M.opt o) := by
  intro k k' s h; cases o with
  | none => exact .fail _
  | some a => exact h a s
theorem cg_load (n off : Nat) : Cg (aload n off) := by
  intro k k' s h; unfold aload
  refine .get fun o => ?_
  cases o <;> try exact .fail _
  dsimp only
  split
  · exact h _ _
  · exact .fail _
theorem cg_cells (n off len : Nat) : Cg (acells n off len) := by
  intro k k' s h; unfold acells
  refine .get fun o => ?_
  cases o <;> try exact .fail _
  dsimp only
  cases Nat.beq _ len
  · exact .fail _
  · exact h _ _
theorem cg_new (o : Obj) : Cg (anew o) := fun k k' s h => .new (h _ _)
theorem cg_put (n off : Nat) (vs : List Value) : Cg (aput n off vs) := by
  intro k k' s h; unfold aput
  refine .get fun o => ?_
  cases o <;> try exact .fail _
  dsimp only
  cases Nat.ble _ _ && _
  · exact .fail _
  · exact .put (h _ _)
theorem cg_plain (ρ : Operand → Value) (o : Oper) : Cg (aplain P ρ o) := by
  intro k k' s h; unfold aplain
  cases o.op.operands.toList.all _
  · exact .fail _
  simp only [cond_true]
  cases pureRun P (execOp ρ o) with
  | none => exact .fail _
  | some nx => cases nx with
    | value v => dsimp only; cases plainV v; exact .fail _; exact h _ _
    | _ => exact .fail _
theorem cg_loadVar (t : TypeId) (n off : Nat) : Cg (aloadVar P t n off) := by
  intro k k' s h; unfold aloadVar
  cases aggT P t with
  | none => exact .fail _
  | some p => obtain ⟨b, z⟩ := p; cases b; exact cg_load _ _ _ _ _ h; exact cg_cells _ _ _ _ _ _ fun l s => h _ _
theorem cg_storeVar (t : TypeId) (n off : Nat) (v : Value) : Cg (astoreVar P t n off v) := by
  intro k k' s h; unfold astoreVar
  cases P.info? t with
  | none => exact .fail _
  | some i => dsimp only; cases Nat.beq _ _; exact .fail _; exact cg_put _ _ _ _ _ _ h
theorem cg_loadAt (t : TypeId) (x : Value) : Cg (aloadAt P t x) := by
  intro k k' s h; unfold aloadAt
  cases aaddr x with
  | none => exact .fail _
  | some p => exact cg_loadVar _ _ _ _ _ _ h
theorem cg_storeAt (t : TypeId) (x v : Value) : Cg (astoreAt P t x v) := by
  intro k k' s h; unfold astoreAt
  cases aaddr x with
  | none => exact .fail _
  | some p => exact cg_storeVar _ _ _ _ _ _ _ h
theorem cg_box (t : TypeId) (v : Value) : Cg (abox t v) := fun k k' s h => cg_new _ _ _ _ fun n s => h _ _
theorem cg_alloc (t : TypeId) : Cg (aalloc P t) := by
  intro k k' s h; unfold aalloc
  cases zeroT P t with
  | none => exact .fail _
  | some z => exact cg_box _ _ _ _ _ h
theorem cg_slice (t : TypeId) (x : Value) (lo hi mx : Option Value) : Cg (aslice P t x lo hi mx) := by
  intro k k' s h; unfold aslice
  split
  · split
    · split
      · cases Nat.beq _ 0 && _; exact .fail _; exact h _ _
      · rename_i cap _ _ _ _ _ _ _ _ _ _ _ _ _ _
        cases Nat.beq _ 0
        · refine .get fun o => ?_
          cases o <;> try exact .fail _
          dsimp only
          cases Nat.beq _ 0 || _; exact .fail _; exact h _ _
        · simp only [cond_true]; cases Nat.beq _ 0; exact .fail _; exact h _ _
    · exact .fail _
  · split
    · refine .get fun o => ?_
      split
      · exact h _ _
      · exact .fail _
    · exact .fail _
  · exact .fail _
theorem cg_first (z n : Nat) (x : Value) : Cg (afirst z n x) := by
  intro k k' s h; unfold afirst
  split
  · cases Nat.beq n 0; exact .fail _; exact h _ _
  · cases Nat.beq (n * z) 0
    · simp only [cond_false]; cases Nat.beq _ 0; exact cg_cells _ _ _ _ _ _ h; exact .fail _
    · exact h _ _
  · exact h _ _
  · exact .fail _
theorem cg_grown (el : TypeId) (z : Nat) (cs : List Value) : Cg (agrown el z cs) := cg_new _
theorem cg_kill (ex : Bool) (n z : Nat) : Cg (akill ex n z) := by
  intro k k' s h; unfold akill
  refine .get fun o => ?_
  cases o <;> try exact .fail _
  dsimp only
  cases ex || _
  · simp only [cond_false]; cases Nat.beq _ _; exact .fail _; exact .put (h _ _)
  · exact h _ _
theorem cg_firstD (d : TypeDesc) (zs : Option Value) (z n : Nat) (y : Value) : Cg (afirstD d zs z n y) := by
  intro k k' s h; unfold afirstD
  split
  · split
    · cases List.all _ _; exact .fail _; exact h _ _
    · exact .fail _
  · exact cg_first _ _ _ _ _ _ h
theorem cg_append (ts : Array TypeId) (x y : Value) : Cg (aappend P ts x y) := by
  intro k k' s h; unfold aappend
  split
  · split
    · split
      · refine .bif (.bif (h _ _) (.bif ?_ ?_)) (.fail _)
        · split
          · exact cg_firstD _ _ _ _ _ _ _ _ fun l s => cg_put _ _ _ _ _ _ fun _ s => h _ _
          · exact .fail _
        · split
          · exact cg_firstD _ _ _ _ _ _ _ _ fun l s => .bif (cg_grown _ _ _ _ _ _ fun b s => h _ _) (.fail _)
          · exact cg_firstD _ _ _ _ _ _ _ _ fun l s => .bif (cg_cells _ _ _ _ _ _ fun q s => cg_kill _ _ _ _ _ _ fun _ s => cg_grown _ _ _ _ _ _ fun b s => h _ _) (.fail _)
      · exact .fail _
    · exact .fail _
  · exact .fail _
theorem cg_copy (ts : Array TypeId) (x y : Value) : Cg (acopy P ts x y) := by
  intro k k' s h; unfold acopy
  split
  · split
    · split
      · dsimp only
        cases Nat.beq _ 0
        · simp only [cond_false]
          split
          · exact cg_first _ _ _ _ _ _ fun l s => cg_put _ _ _ _ _ _ fun _ s => h _ _
          · exact .fail _
        · exact h _ _
      · exact .fail _
    · exact .fail _
  · exact .fail _
theorem cg_lenMap (ts : Array TypeId) (x : Value) : Cg (alenMap P ts x) := by
  intro k k' s h; unfold alenMap
  split
  · split
    · refine .get fun o => ?_
      cases o <;> first | exact .fail _ | exact h _ _
    · exact .fail _
  · exact .fail _
theorem cg_makeSlice (t : TypeId) (l c : Value) : Cg (amakeSlice P t l c) := by
  intro k k' s h; unfold amakeSlice
  split
  · split
    · rename_i i z _ a _ b _ _
      cases (decide (0 ≤ a) && decide (a ≤ b) && decide (b ≤ 1000000) && Nat.ble i.bytes 100000 && Nat.beq z.cells.size i.size && z.cells.toList.all plain1)
      · exact .fail _
      · exact cg_new _ _ _ _ fun n s => h _ _
    · exact .fail _
  · exact .fail _
theorem cg_unsafe (t : TypeId) (p : Option Addr) : Cg (aunsafe P t p) := by
  intro k k' s h; unfold aunsafe
  split
  · exact h _ _
  · split
    · refine .bif (.fail _) (.get fun ob => ?_)
      split
      · exact .bif (h _ _) (.fail _)
      · exact .fail _
    · exact .fail _
  · exact .fail _
theorem cg_bytesStr (x : Value) : Cg (abytesStr x) := by
  intro k k' s h; unfold abytesStr
  split
  · exact h _ _
  · refine .bif (h _ _) (cg_cells _ _ _ _ _ _ fun l s => ?_)
    split
    · exact h _ _
    · exact .fail _
  · exact .fail _
theorem cg_buildSlice (t : TypeId) (len : Nat) (ps : List (Nat × Value)) : Cg (abuildSlice P t len ps) := by
  intro k k' s h; unfold abuildSlice
  split
  · split
    · rename_i z i _ _
      cases (z.cells.toList.all plain1 && Nat.beq z.cells.size i.size && Nat.ble (len * i.size) 1000000 && !Nat.beq i.size 0)
      · exact .fail _
      · simp only [cond_true]
        split
        · exact cg_new _ _ _ _ fun n s => h _ _
        · exact .fail _
    · exact .fail _
  · exact .fail _
theorem cg_lookup (t : TypeId) (x i : Value) (ok : Bool) : Cg (alookup P t x i ok) := by
  intro k k' s h; unfold alookup
  split
  · split
    · cases keyT _ && _
      · exact .fail _
      · simp only [cond_true]
        split
        · exact cg_opt _ _ _ _ h
        · refine .get fun o => ?_
          cases o <;> try exact .fail _
          dsimp only
          split
          · exact cg_opt _ _ _ _ h
          · exact .fail _
        · exact .fail _
    · exact .fail _
  · exact .fail _
theorem cg_mapUpdate (t : TypeId) (m ky x : Value) : Cg (amapUpdate P t m ky x) := by
  intro k k' s h; unfold amapUpdate
  split
  · split
    · cases keyT _ && _
      · exact .fail _
      · simp only [cond_true]
        refine .get fun o => ?_
        cases o <;> try exact .fail _
        dsimp only
        split
        · exact .put (h _ _)
        · exact .put (h _ _)
        · exact .fail _
    · exact .fail _
  · exact .fail _
theorem cg_makeMap : Cg amakeMap := fun k k' s h => cg_new _ _ _ _ fun n s => h _ _
theorem cg_cap (ts : Array TypeId) (x : Value) : Cg (acap P ts x) := by
  intro k k' s h; unfold acap
  split
  · split
    · exact h _ _
    · refine .get fun o => ?_
      cases o <;> try exact .fail _
      dsimp only
      split
      · exact h _ _
      · exact .bif (.fail _) (h _ _)
    · exact .fail _
  · exact .fail _
theorem cg_clear (ts : Array TypeId) (x : Value) : Cg (aclear P ts x) := by
  intro k k' s h; unfold aclear
  split
  · split
    · exact h _ _
    · split
      · exact .bif (cg_put _ _ _ _ _ _ fun _ s => h _ _) (.fail _)
      · exact .fail _
    · exact h _ _
    · exact .fail _
  · exact .fail _
theorem cg_builtin (b : Builtin) (ts : Array TypeId) (t : TypeId) (cs : Array Bool) (args : List Value) : Cg (abuiltin P b ts t cs args) := by
  intro k k' s h; unfold abuiltin
  split
  · exact cg_append _ _ _ _ _ _ fun v s => h _ _
  · exact cg_copy _ _ _ _ _ _ fun v s => h _ _
  · exact cg_lenMap _ _ _ _ _ fun v s => h _ _
  · exact cg_opt _ _ _ _ fun v s => h _ _
  · exact cg_cap _ _ _ _ _ fun v s => h _ _
  · exact cg_clear _ _ _ _ _ fun v s => h _ _
  · exact h _ _
  · cases List.all _ _
    · exact .fail _
    · simp only [cond_true]
      split
      · cases plainV _; exact .fail _; exact h _ _
      · exact .fail _
  · cases List.all _ _
    · exact .fail _
    · simp only [cond_true]
      split
      · cases plainV _; exact .fail _; exact h _ _
      · exact .fail _
  · exact .fail _
theorem cg_yield (l : Nat) (args : List Value) : Cg (ayield l args) := by
  intro k k' s h; unfold ayield
  refine .get fun o => ?_
  cases o <;> try exact .fail _
  dsimp only
  cases Nat.beq _ _; exact .fail _; exact h _ _
theorem cg_atom (a : AtomK) (args : List Value) : Cg (aatom a args) := by
  intro k k' s h; cases a
  case dis => exact h _ _
  case ena => exact h _ _
  case acq =>
    show AM.le (atMark args k s) (atMark args k' s)
    unfold atMark
    split
    · split
      · exact h _ _
      · exact .fail _
    · exact .fail _
  case rel =>
    show AM.le (atMark args k s) (atMark args k' s)
    unfold atMark
    split
    · split
      · exact h _ _
      · exact .fail _
    · exact .fail _
  case relm =>
    show AM.le (atMark args k s) (atMark args k' s)
    unfold atMark
    split
    · split
      · exact h _ _
      · exact .fail _
    · exact .fail _
  case load =>
    show AM.le (atLoad args k s) (atLoad args k' s)
    unfold atLoad
    split
    · split
      · exact cg_load _ _ _ _ _ fun v s => by split <;> first | exact h _ _ | exact .fail _
      · exact .fail _
    · exact .fail _
  case store =>
    show AM.le (atStore args k s) (atStore args k' s)
    unfold atStore
    split
    · split
      · exact cg_put _ _ _ _ _ _ fun _ s => h _ _
      · exact .fail _
    · exact .fail _
  case cas =>
    show AM.le (atCas args k s) (atCas args k' s)
    unfold atCas
    split
    · split
      · refine .get fun o => ?_
        cases o <;> try exact .fail _
        refine .bif (.fail _) (cg_load _ _ _ _ _ fun v s => ?_)
        split
        · exact .bif (cg_put _ _ _ _ _ _ fun _ s => h _ _) (h _ _)
        · exact .fail _
      · exact .fail _
    · exact .fail _
  case add =>
    show AM.le (atAdd args k s) (atAdd args k' s)
    unfold atAdd
    split
    · split
      · refine cg_load _ _ _ _ _ fun v s => ?_
        split
        · exact cg_put _ _ _ _ _ _ fun _ s => h _ _
        · exact .fail _
      · exact .fail _
    · exact .fail _
  case idx =>
    show AM.le (atIdx args k s) (atIdx args k' s)
    unfold atIdx
    split
    · exact h _ _
    · refine .bif (.fail _) (cg_cells _ _ _ _ _ _ fun l s => ?_)
      split
      · exact h _ _
      · exact .fail _
    · exact .fail _
theorem cg_invoke (d : Deferred) : Cg (ainvoke P d) := by
  intro k k' s h; unfold ainvoke
  split
  · cases okFn P _
    · simp only [cond_false]
      split
      · exact cg_atom _ _ _ _ _ fun v s => h _ _
      cases List.all _ _
      · exact .fail _
      · simp only [cond_true]
        split
        · cases plainV _; exact .fail _; exact h _ _
        · exact .fail _
    · exact h _ _
  · exact cg_yield _ _ _ _ _ h
  · split
    · cases _ && okFn P _; exact .fail _; exact h _ _
    · exact .fail _
  · split
    · exact .fail _
    · split
      · cases okFn P _; exact .fail _; exact h _ _
      · exact .fail _
    · exact .fail _
  · split
    · split
      · cases okFn P _; exact .fail _; exact h _ _
      · exact .fail _
    · exact .fail _
  · exact cg_builtin _ _ _ _ _ _ _ _ h
  · exact .fail _
theorem cg_rangeOf (t : TypeId) (x : Value) : Cg (arangeOf P t x) := by
  intro k k' s h; unfold arangeOf
  split
  · exact cg_new _ _ _ _ fun n s => h _ _
  · exact .fail _
theorem cg_nextOf (it : Value) : Cg (anextOf it) := by
  intro k k' s h; unfold anextOf
  split
  · cases Nat.beq _ 0
    · exact .fail _
    · simp only [cond_true]
      refine .get fun o => ?_
      cases o <;> try exact .fail _
      dsimp only
      cases Nat.blt _ _; exact h _ _; exact .put (h _ _)
  · exact .fail _
theorem cg_op (ρ : Operand → Value) (o : Oper) : Cg (aop P ρ o) := by
  intro k k' s h; unfold aop
  cases o.op <;> try dsimp only
  case move => exact h _ _
  case assign => exact h _ _
  case pick => split; exact h _ _; exact .fail _
  case alloc => exact cg_alloc _ _ _ _ fun v s => h _ _
  case box => exact cg_box _ _ _ _ _ fun v s => h _ _
  case build => exact cg_opt _ _ _ _ fun v s => h _ _
  case buildSlice => exact cg_buildSlice _ _ _ _ _ _ fun v s => h _ _
  case load => exact cg_loadAt _ _ _ _ _ fun v s => h _ _
  case store => exact cg_storeAt _ _ _ _ _ _ fun v s => h _ _
  case nilCheck => split <;> first | exact .fail _ | exact h _ _
  case binOp op t x y yt =>
    split
    · cases isEq op
      · simp only [cond_false]; cases isNeq op; exact .fail _; exact h _ _
      · exact h _ _
    · exact cg_plain _ _ _ _ _ h
  case convert =>
    split
    · split
      · exact cg_bytesStr _ _ _ _ fun v s => h _ _
      · exact .fail _
    · exact cg_unsafe _ _ _ _ _ fun v s => h _ _
    · exact cg_plain _ _ _ _ _ h
  case makeInterface => split <;> first | exact .fail _ | exact h _ _
  case makeFunc => split <;> first | exact .fail _ | exact h _ _
  case makeMap t r => cases r; exact cg_makeMap _ _ _ fun v s => h _ _; exact .fail _
  case makeSlice => exact cg_makeSlice _ _ _ _ _ _ fun v s => h _ _
  case slice => split; exact cg_plain _ _ _ _ _ h; exact cg_slice _ _ _ _ _ _ _ _ fun v s => h _ _
  case fieldAddr => exact cg_opt _ _ _ _ fun v s => h _ _
  case field => exact cg_opt _ _ _ _ fun v s => h _ _
  case indexAddr => exact cg_opt _ _ _ _ fun v s => h _ _
  case index => split; exact cg_plain _ _ _ _ _ h; exact cg_opt _ _ _ _ fun v s => h _ _
  case lookup => exact cg_lookup _ _ _ _ _ _ _ fun v s => h _ _
  case mapUpdate => exact cg_mapUpdate _ _ _ _ _ _ _ fun v s => h _ _
  case insert => exact cg_mapUpdate _ _ _ _ _ _ _ fun v s => h _ _
  case typeAssert => exact cg_opt _ _ _ _ fun v s => h _ _
  case extract => split; exact cg_opt _ _ _ _ fun v s => h _ _; exact .fail _
  case call => split; exact cg_invoke _ _ _ _ h; exact .fail _
  case defer => split; exact h _ _; exact .fail _
  case unOp => exact cg_plain _ _ _ _ _ h
  case range => exact cg_rangeOf _ _ _ _ _ fun v s => h _ _
  case next it str => exact .bif (cg_nextOf _ _ _ _ fun v s => h _ _) (.fail _)
  all_goals exact .fail _
end
end Go.Ev

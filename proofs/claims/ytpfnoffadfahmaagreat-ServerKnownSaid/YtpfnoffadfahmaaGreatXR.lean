/- Closed runs in pieces: what calls go on with, by any relation; parts of heaps; pieces. No condition. -/
import Derived.Test.YtpfnoffadfahmaaGreatXQ
namespace Go.Ev.Nt
open Go Go.RowKit Go.Ev
set_option linter.unusedVariables false
set_option linter.unusedSectionVars false
set_option linter.unusedSimpArgs false

/-- A relation that is kept by all that is done ahead. -/
class Rl (R : AM → AM → Prop) : Prop where
  fail : R .fail .fail
  get : ∀ {n : Nat} {k k' : Obj → AM}, (∀ o, R (k o) (k' o)) → R (.get n k) (.get n k')
  put : ∀ {n : Nat} {x : Obj} {k k' : AM}, R k k' → R (.put n x k) (.put n x k')
  new : ∀ {n : Nat} {x : Obj} {k k' : AM}, R k k' → R (.new n x k) (.new n x k')
  log : ∀ {m : AM} {k k' : Value → List Nat → List Nat → AM}, (∀ v ts ws, R (k v ts ws) (k' v ts ws)) → R (.log m k) (.log m k')
theorem Rl.bif {R : AM → AM → Prop} {c : Bool} {a a' b b' : AM} (h : R a a') (k : R b b') : R (bif c then a else b) (bif c then a' else b') := by cases c; exact k; exact h
/-- What goes on with an answer may be put in place of less. -/
def Cg (R : AM → AM → Prop) {α : Type} (A : M α) : Prop := ∀ (k k' : α → Nat → AM) (s : Nat), (∀ a s, R (k a s) (k' a s)) → R (A k s) (A k' s)

section
variable {P : Program} {R : AM → AM → Prop} [Rl R]
theorem cg_opt {α : Type} (o : Option α) : Cg R (M.opt o) := by
  intro k k' s h; cases o with
  | none => exact Rl.fail
  | some a => exact h a s
theorem cg_load (n off : Nat) : Cg R (aload n off) := by
  intro k k' s h; unfold aload
  refine Rl.get fun o => ?_
  cases o <;> try exact Rl.fail
  dsimp only
  split
  · exact h _ _
  · exact Rl.fail
theorem cg_cells (n off len : Nat) : Cg R (acells n off len) := by
  intro k k' s h; unfold acells
  refine Rl.get fun o => ?_
  cases o <;> try exact Rl.fail
  dsimp only
  cases Nat.beq _ len
  · exact Rl.fail
  · exact h _ _
theorem cg_new (o : Obj) : Cg R (anew o) := fun k k' s h => Rl.new (h _ _)
theorem cg_put (n off : Nat) (vs : List Value) : Cg R (aput n off vs) := by
  intro k k' s h; unfold aput
  refine Rl.get fun o => ?_
  cases o <;> try exact Rl.fail
  dsimp only
  cases Nat.ble _ _ && _
  · exact Rl.fail
  · exact Rl.put (h _ _)
theorem cg_plain (ρ : Operand → Value) (o : Oper) : Cg R (aplain P ρ o) := by
  intro k k' s h; unfold aplain
  cases o.op.operands.toList.all _
  · exact Rl.fail
  simp only [cond_true]
  cases pureRun P (execOp ρ o) with
  | none => exact Rl.fail
  | some nx => cases nx with
    | value v => dsimp only; cases plainV v; exact Rl.fail; exact h _ _
    | _ => exact Rl.fail
theorem cg_loadVar (t : TypeId) (n off : Nat) : Cg R (aloadVar P t n off) := by
  intro k k' s h; unfold aloadVar
  cases aggT P t with
  | none => exact Rl.fail
  | some p => obtain ⟨b, z⟩ := p; cases b; exact cg_load _ _ _ _ _ h; exact cg_cells _ _ _ _ _ _ fun l s => h _ _
theorem cg_storeVar (t : TypeId) (n off : Nat) (v : Value) : Cg R (astoreVar P t n off v) := by
  intro k k' s h; unfold astoreVar
  cases P.info? t with
  | none => exact Rl.fail
  | some i => dsimp only; cases Nat.beq _ _; exact Rl.fail; exact cg_put _ _ _ _ _ _ h
theorem cg_loadAt (t : TypeId) (x : Value) : Cg R (aloadAt P t x) := by
  intro k k' s h; unfold aloadAt
  cases aaddr x with
  | none => exact Rl.fail
  | some p => exact cg_loadVar _ _ _ _ _ _ h
theorem cg_storeAt (t : TypeId) (x v : Value) : Cg R (astoreAt P t x v) := by
  intro k k' s h; unfold astoreAt
  cases aaddr x with
  | none => exact Rl.fail
  | some p => exact cg_storeVar _ _ _ _ _ _ _ h
theorem cg_box (t : TypeId) (v : Value) : Cg R (abox t v) := fun k k' s h => cg_new _ _ _ _ fun n s => h _ _
theorem cg_alloc (t : TypeId) : Cg R (aalloc P t) := by
  intro k k' s h; unfold aalloc
  cases zeroT P t with
  | none => exact Rl.fail
  | some z => exact cg_box _ _ _ _ _ h
theorem cg_slice (t : TypeId) (x : Value) (lo hi mx : Option Value) : Cg R (aslice P t x lo hi mx) := by
  intro k k' s h; unfold aslice
  split
  · split
    · split
      · cases Nat.beq _ 0 && _; exact Rl.fail; exact h _ _
      · rename_i cap _ _ _ _ _ _ _ _ _ _ _ _ _ _
        cases Nat.beq _ 0
        · refine Rl.get fun o => ?_
          cases o <;> try exact Rl.fail
          dsimp only
          cases Nat.beq _ 0 || _; exact Rl.fail; exact h _ _
        · simp only [cond_true]; cases Nat.beq _ 0; exact Rl.fail; exact h _ _
    · exact Rl.fail
  · split
    · refine Rl.get fun o => ?_
      split
      · exact h _ _
      · exact Rl.fail
    · exact Rl.fail
  · exact Rl.fail
theorem cg_first (z n : Nat) (x : Value) : Cg R (afirst z n x) := by
  intro k k' s h; unfold afirst
  split
  · cases Nat.beq n 0; exact Rl.fail; exact h _ _
  · cases Nat.beq (n * z) 0
    · simp only [cond_false]; cases Nat.beq _ 0; exact cg_cells _ _ _ _ _ _ h; exact Rl.fail
    · exact h _ _
  · exact h _ _
  · exact Rl.fail
theorem cg_grown (el : TypeId) (z : Nat) (cs : List Value) : Cg R (agrown el z cs) := cg_new _
theorem cg_kill (ex : Bool) (n z : Nat) : Cg R (akill ex n z) := by
  intro k k' s h; unfold akill
  refine Rl.get fun o => ?_
  cases o <;> try exact Rl.fail
  dsimp only
  cases ex || _
  · simp only [cond_false]; cases Nat.beq _ _; exact Rl.fail; exact Rl.put (h _ _)
  · exact h _ _
theorem cg_firstD (d : TypeDesc) (zs : Option Value) (z n : Nat) (y : Value) : Cg R (afirstD d zs z n y) := by
  intro k k' s h; unfold afirstD
  split
  · split
    · cases List.all _ _; exact Rl.fail; exact h _ _
    · exact Rl.fail
  · exact cg_first _ _ _ _ _ _ h
theorem cg_append (ts : Array TypeId) (x y : Value) : Cg R (aappend P ts x y) := by
  intro k k' s h; unfold aappend
  split
  · split
    · split
      · refine Rl.bif (Rl.bif (h _ _) (Rl.bif ?_ ?_)) (Rl.fail)
        · split
          · exact cg_firstD _ _ _ _ _ _ _ _ fun l s => cg_put _ _ _ _ _ _ fun _ s => h _ _
          · exact Rl.fail
        · split
          · exact cg_firstD _ _ _ _ _ _ _ _ fun l s => Rl.bif (cg_grown _ _ _ _ _ _ fun b s => h _ _) (Rl.fail)
          · exact cg_firstD _ _ _ _ _ _ _ _ fun l s => Rl.bif (cg_cells _ _ _ _ _ _ fun q s => cg_kill _ _ _ _ _ _ fun _ s => cg_grown _ _ _ _ _ _ fun b s => h _ _) (Rl.fail)
      · exact Rl.fail
    · exact Rl.fail
  · exact Rl.fail
theorem cg_copy (ts : Array TypeId) (x y : Value) : Cg R (acopy P ts x y) := by
  intro k k' s h; unfold acopy
  split
  · split
    · split
      · dsimp only
        cases Nat.beq _ 0
        · simp only [cond_false]
          split
          · exact cg_first _ _ _ _ _ _ fun l s => cg_put _ _ _ _ _ _ fun _ s => h _ _
          · exact Rl.fail
        · exact h _ _
      · exact Rl.fail
    · exact Rl.fail
  · exact Rl.fail
theorem cg_lenMap (ts : Array TypeId) (x : Value) : Cg R (alenMap P ts x) := by
  intro k k' s h; unfold alenMap
  split
  · split
    · refine Rl.get fun o => ?_
      cases o <;> first | exact Rl.fail | exact h _ _
    · exact Rl.fail
  · exact Rl.fail
theorem cg_makeSlice (t : TypeId) (l c : Value) : Cg R (amakeSlice P t l c) := by
  intro k k' s h; unfold amakeSlice
  split
  · split
    · rename_i i z _ a _ b _ _
      cases (decide (0 ≤ a) && decide (a ≤ b) && decide (b ≤ 1000000) && Nat.ble i.bytes 100000 && Nat.beq z.cells.size i.size && z.cells.toList.all plain1)
      · exact Rl.fail
      · exact cg_new _ _ _ _ fun n s => h _ _
    · exact Rl.fail
  · exact Rl.fail
theorem cg_unsafe (t : TypeId) (p : Option Addr) : Cg R (aunsafe P t p) := by
  intro k k' s h; unfold aunsafe
  split
  · exact h _ _
  · split
    · refine Rl.bif Rl.fail (Rl.get fun ob => ?_)
      split
      · exact Rl.bif (h _ _) Rl.fail
      · exact Rl.fail
    · exact Rl.fail
  · exact Rl.fail
theorem cg_bytesStr (x : Value) : Cg R (abytesStr x) := by
  intro k k' s h; unfold abytesStr
  split
  · exact h _ _
  · refine Rl.bif (h _ _) (cg_cells _ _ _ _ _ _ fun l s => ?_)
    split
    · exact h _ _
    · exact Rl.fail
  · exact Rl.fail
theorem cg_buildSlice (t : TypeId) (len : Nat) (ps : List (Nat × Value)) : Cg R (abuildSlice P t len ps) := by
  intro k k' s h; unfold abuildSlice
  split
  · split
    · rename_i z i _ _
      cases (z.cells.toList.all plain1 && Nat.beq z.cells.size i.size && Nat.ble (len * i.size) 1000000 && !Nat.beq i.size 0)
      · exact Rl.fail
      · simp only [cond_true]
        split
        · exact cg_new _ _ _ _ fun n s => h _ _
        · exact Rl.fail
    · exact Rl.fail
  · exact Rl.fail
theorem cg_lookup (t : TypeId) (x i : Value) (ok : Bool) : Cg R (alookup P t x i ok) := by
  intro k k' s h; unfold alookup
  split
  · split
    · cases keyT _ && _
      · exact Rl.fail
      · simp only [cond_true]
        split
        · exact cg_opt _ _ _ _ h
        · refine Rl.get fun o => ?_
          cases o <;> try exact Rl.fail
          dsimp only
          split
          · exact cg_opt _ _ _ _ h
          · exact Rl.fail
        · exact Rl.fail
    · exact Rl.fail
  · exact Rl.fail
theorem cg_mapUpdate (t : TypeId) (m ky x : Value) : Cg R (amapUpdate P t m ky x) := by
  intro k k' s h; unfold amapUpdate
  split
  · split
    · cases keyT _ && _
      · exact Rl.fail
      · simp only [cond_true]
        refine Rl.get fun o => ?_
        cases o <;> try exact Rl.fail
        dsimp only
        split
        · exact Rl.put (h _ _)
        · exact Rl.put (h _ _)
        · exact Rl.fail
    · exact Rl.fail
  · exact Rl.fail
theorem cg_makeMap : Cg R amakeMap := fun k k' s h => cg_new _ _ _ _ fun n s => h _ _
theorem cg_cap (ts : Array TypeId) (x : Value) : Cg R (acap P ts x) := by
  intro k k' s h; unfold acap
  split
  · split
    · exact h _ _
    · refine Rl.get fun o => ?_
      cases o <;> try exact Rl.fail
      dsimp only
      split
      · exact h _ _
      · exact Rl.bif (Rl.fail) (h _ _)
    · exact Rl.fail
  · exact Rl.fail
theorem cg_clear (ts : Array TypeId) (x : Value) : Cg R (aclear P ts x) := by
  intro k k' s h; unfold aclear
  split
  · split
    · exact h _ _
    · split
      · exact Rl.bif (cg_put _ _ _ _ _ _ fun _ s => h _ _) (Rl.fail)
      · exact Rl.fail
    · exact h _ _
    · exact Rl.fail
  · exact Rl.fail
theorem cg_builtin (b : Builtin) (ts : Array TypeId) (t : TypeId) (cs : Array Bool) (args : List Value) : Cg R (abuiltin P b ts t cs args) := by
  intro k k' s h; unfold abuiltin
  split
  · exact cg_append _ _ _ _ _ _ fun v s => h _ _
  · exact cg_copy _ _ _ _ _ _ fun v s => h _ _
  · exact cg_lenMap _ _ _ _ _ fun v s => h _ _
  · exact cg_opt _ _ _ _ fun v s => h _ _
  · exact cg_cap _ _ _ _ _ fun v s => h _ _
  · exact cg_clear _ _ _ _ _ fun v s => h _ _
  · exact h _ _
  · cases List.all _ _
    · exact Rl.fail
    · simp only [cond_true]
      split
      · cases plainV _; exact Rl.fail; exact h _ _
      · exact Rl.fail
  · cases List.all _ _
    · exact Rl.fail
    · simp only [cond_true]
      split
      · cases plainV _; exact Rl.fail; exact h _ _
      · exact Rl.fail
  · exact Rl.fail
theorem cg_yield (l : Nat) (args : List Value) : Cg R (ayield l args) := by
  intro k k' s h; unfold ayield
  refine Rl.get fun o => ?_
  cases o <;> try exact Rl.fail
  dsimp only
  cases Nat.beq _ _; exact Rl.fail; exact h _ _
theorem cg_atom (a : AtomK) (args : List Value) : Cg R (aatom a args) := by
  intro k k' s h; cases a
  case dis => exact h _ _
  case ena => exact h _ _
  case acq =>
    show R (atMark args k s) (atMark args k' s)
    unfold atMark
    split
    · split
      · exact h _ _
      · exact Rl.fail
    · exact Rl.fail
  case rel =>
    show R (atMark args k s) (atMark args k' s)
    unfold atMark
    split
    · split
      · exact h _ _
      · exact Rl.fail
    · exact Rl.fail
  case relm =>
    show R (atMark args k s) (atMark args k' s)
    unfold atMark
    split
    · split
      · exact h _ _
      · exact Rl.fail
    · exact Rl.fail
  case load =>
    show R (atLoad args k s) (atLoad args k' s)
    unfold atLoad
    split
    · split
      · exact cg_load _ _ _ _ _ fun v s => by split <;> first | exact h _ _ | exact Rl.fail
      · exact Rl.fail
    · exact Rl.fail
  case store =>
    show R (atStore args k s) (atStore args k' s)
    unfold atStore
    split
    · split
      · exact cg_put _ _ _ _ _ _ fun _ s => h _ _
      · exact Rl.fail
    · exact Rl.fail
  case cas =>
    show R (atCas args k s) (atCas args k' s)
    unfold atCas
    split
    · split
      · refine Rl.get fun o => ?_
        cases o <;> try exact Rl.fail
        refine Rl.bif (Rl.fail) (cg_load _ _ _ _ _ fun v s => ?_)
        split
        · exact Rl.bif (cg_put _ _ _ _ _ _ fun _ s => h _ _) (h _ _)
        · exact Rl.fail
      · exact Rl.fail
    · exact Rl.fail
  case add =>
    show R (atAdd args k s) (atAdd args k' s)
    unfold atAdd
    split
    · split
      · refine cg_load _ _ _ _ _ fun v s => ?_
        split
        · exact cg_put _ _ _ _ _ _ fun _ s => h _ _
        · exact Rl.fail
      · exact Rl.fail
    · exact Rl.fail
  case idx =>
    show R (atIdx args k s) (atIdx args k' s)
    unfold atIdx
    split
    · exact h _ _
    · refine Rl.bif (Rl.fail) (cg_cells _ _ _ _ _ _ fun l s => ?_)
      split
      · exact h _ _
      · exact Rl.fail
    · exact Rl.fail
theorem cg_invoke (d : Deferred) : Cg R (ainvoke P d) := by
  intro k k' s h; unfold ainvoke
  split
  · cases okFn P _
    · simp only [cond_false]
      split
      · exact cg_atom _ _ _ _ _ fun v s => h _ _
      cases List.all _ _
      · exact Rl.fail
      · simp only [cond_true]
        split
        · cases plainV _; exact Rl.fail; exact h _ _
        · exact Rl.fail
    · exact h _ _
  · exact cg_yield _ _ _ _ _ h
  · split
    · cases _ && okFn P _; exact Rl.fail; exact h _ _
    · exact Rl.fail
  · split
    · exact Rl.fail
    · split
      · cases okFn P _; exact Rl.fail; exact h _ _
      · exact Rl.fail
    · exact Rl.fail
  · split
    · split
      · cases okFn P _; exact Rl.fail; exact h _ _
      · exact Rl.fail
    · exact Rl.fail
  · exact cg_builtin _ _ _ _ _ _ _ _ h
  · exact Rl.fail
theorem cg_rangeOf (t : TypeId) (x : Value) : Cg R (arangeOf P t x) := by
  intro k k' s h; unfold arangeOf
  split
  · exact cg_new _ _ _ _ fun n s => h _ _
  · exact Rl.fail
theorem cg_nextOf (it : Value) : Cg R (anextOf it) := by
  intro k k' s h; unfold anextOf
  split
  · cases Nat.beq _ 0
    · exact Rl.fail
    · simp only [cond_true]
      refine Rl.get fun o => ?_
      cases o <;> try exact Rl.fail
      dsimp only
      cases Nat.blt _ _; exact h _ _; exact Rl.put (h _ _)
  · exact Rl.fail
theorem cg_op (ρ : Operand → Value) (o : Oper) : Cg R (aop P ρ o) := by
  intro k k' s h; unfold aop
  cases o.op <;> try dsimp only
  case move => exact h _ _
  case assign => exact h _ _
  case pick => split; exact h _ _; exact Rl.fail
  case alloc => exact cg_alloc _ _ _ _ fun v s => h _ _
  case box => exact cg_box _ _ _ _ _ fun v s => h _ _
  case build => exact cg_opt _ _ _ _ fun v s => h _ _
  case buildSlice => exact cg_buildSlice _ _ _ _ _ _ fun v s => h _ _
  case load => exact cg_loadAt _ _ _ _ _ fun v s => h _ _
  case store => exact cg_storeAt _ _ _ _ _ _ fun v s => h _ _
  case nilCheck => split <;> first | exact Rl.fail | exact h _ _
  case binOp op t x y yt =>
    split
    · cases isEq op
      · simp only [cond_false]; cases isNeq op; exact Rl.fail; exact h _ _
      · exact h _ _
    · exact cg_plain _ _ _ _ _ h
  case convert =>
    split
    · split
      · exact cg_bytesStr _ _ _ _ fun v s => h _ _
      · exact Rl.fail
    · exact cg_unsafe _ _ _ _ _ fun v s => h _ _
    · exact cg_plain _ _ _ _ _ h
  case makeInterface => split <;> first | exact Rl.fail | exact h _ _
  case makeFunc => split <;> first | exact Rl.fail | exact h _ _
  case makeMap t r => cases r; exact cg_makeMap _ _ _ fun v s => h _ _; exact Rl.fail
  case makeSlice => exact cg_makeSlice _ _ _ _ _ _ fun v s => h _ _
  case slice => split; exact cg_plain _ _ _ _ _ h; exact cg_slice _ _ _ _ _ _ _ _ fun v s => h _ _
  case fieldAddr => exact cg_opt _ _ _ _ fun v s => h _ _
  case field => exact cg_opt _ _ _ _ fun v s => h _ _
  case indexAddr => exact cg_opt _ _ _ _ fun v s => h _ _
  case index => split; exact cg_plain _ _ _ _ _ h; exact cg_opt _ _ _ _ fun v s => h _ _
  case lookup => exact cg_lookup _ _ _ _ _ _ _ fun v s => h _ _
  case mapUpdate => exact cg_mapUpdate _ _ _ _ _ _ _ fun v s => h _ _
  case insert => exact cg_mapUpdate _ _ _ _ _ _ _ fun v s => h _ _
  case typeAssert => exact cg_opt _ _ _ _ fun v s => h _ _
  case extract => split; exact cg_opt _ _ _ _ fun v s => h _ _; exact Rl.fail
  case call => split; exact cg_invoke _ _ _ _ h; exact Rl.fail
  case defer => split; exact h _ _; exact Rl.fail
  case unOp => exact cg_plain _ _ _ _ _ h
  case range => exact cg_rangeOf _ _ _ _ _ fun v s => h _ _
  case next it str => exact Rl.bif (cg_nextOf _ _ _ _ fun v s => h _ _) (Rl.fail)
  all_goals exact Rl.fail
end
end Go.Ev.Nt
namespace Go.Ev.Nt
open Go Go.RowKit Go.Ev
set_option linter.unusedVariables false
set_option linter.unusedSectionVars false
set_option linter.unusedSimpArgs false
section
variable {P : Program} {R : AM → AM → Prop} [Rl R]
def CgC (R : AM → AM → Prop) (C : CallT) : Prop := ∀ f args, Cg R (C f args)
variable {C : CallT} (hC : CgC R C)
include hC
theorem cg_next {k k' : Value → Nat → AM} (h : ∀ v s, R (k v s) (k' v s)) (nx : Next) (s : Nat) : R (xnext C k nx s) (xnext C k' nx s) := by
  unfold xnext
  cases nx
  case value => exact h _ _
  case skip => exact h _ _
  case enter f args =>
    dsimp only
    cases Nat.beq f 1000000
    · exact hC _ _ _ _ _ h
    · exact Rl.fail
  all_goals exact Rl.fail
omit hC in
theorem cg_binG (op : BinOp) (t yt : TypeId) (cx cy : Bool) (x y : Value) : Cg R (binG P op t yt cx cy x y) := by
  intro k k' s h
  unfold binG
  refine cg_op _ _ _ _ _ fun nx s => ?_
  cases nx <;> first | exact h _ _ | exact Rl.fail
omit hC in
theorem cg_opG (op : Op) (vs : List Value) : Cg R (opG P op vs) := by
  intro k k' s h
  unfold opG
  refine cg_op _ _ _ _ _ fun nx s => ?_
  cases nx <;> first | exact h _ _ | exact Rl.fail
omit hC [Rl R] in
theorem cg_vInt {f f' : IntKind → Int → AM} {g g' : AM} (hf : ∀ a b, R (f a b) (f' a b)) (hg : R g g') (v : Value) : R (vInt f g v) (vInt f' g' v) := by
  cases v <;> first | exact hg | exact hf _ _
omit hC [Rl R] in
theorem cg_vBool {f f' : Bool → AM} {g g' : AM} (hf : ∀ a, R (f a) (f' a)) (hg : R g g') (v : Value) : R (vBool f g v) (vBool f' g' v) := by
  cases v <;> first | exact hg | exact hf _
omit hC [Rl R] in
theorem cg_vSlice {f f' : Option Addr → Nat → Nat → AM} {g g' : AM} (hf : ∀ a b c, R (f a b c) (f' a b c)) (hg : R g g') (v : Value) : R (vSlice f g v) (vSlice f' g' v) := by
  cases v <;> first | exact hg | exact hf _ _ _
omit hC [Rl R] in
theorem cg_rec {a a' b b' : AM} (ha : R a a') (hb : R b b') (c : Bool) : R (Bool.rec (motive := fun _ => AM) a b c) (Bool.rec (motive := fun _ => AM) a' b' c) := by cases c; exact ha; exact hb
omit hC [Rl R] in
theorem cg_orec {α : Type} {a a' : AM} {b b' : α → AM} (ha : R a a') (hb : ∀ x, R (b x) (b' x)) (c : Option α) : R (Option.rec (motive := fun _ => AM) a b c) (Option.rec (motive := fun _ => AM) a' b' c) := by
  cases c; exact ha; exact hb _
omit hC in
theorem cg_arI (f : IntKind → Int → Int → Value) {g : Ev.M Value} (hg : Cg R g) (x y : Value) : Cg R (arI f g x y) := by
  intro k k' s h
  unfold arI
  exact cg_vInt (fun a b => cg_vInt (fun c d => cg_rec (hg _ _ _ h) (h _ _) _) (hg _ _ _ h) _) (hg _ _ _ h) _
omit hC in
theorem cg_arD (f : IntKind → Int → Int → Value) {g : Ev.M Value} (hg : Cg R g) (x y : Value) : Cg R (arD f g x y) := by
  intro k k' s h
  unfold arD
  exact cg_vInt (fun a b => cg_vInt (fun c d => cg_rec (hg _ _ _ h) (cg_rec (h _ _) (hg _ _ _ h) _) _) (hg _ _ _ h) _) (hg _ _ _ h) _
omit hC in
theorem cg_arS (f : IntKind → Int → Nat → Int) {g : Ev.M Value} (hg : Cg R g) (x y : Value) : Cg R (arS f g x y) := by
  intro k k' s h
  unfold arS
  refine cg_vInt (fun a b => cg_vInt (fun c d => ?_) (hg _ _ _ h) _) (hg _ _ _ h) _
  cases d
  · exact h _ _
  · exact hg _ _ _ h
omit hC in
theorem cg_binX (op : BinOp) (t yt : TypeId) (cx cy : Bool) (x y : Value) : Cg R (binX P op t yt cx cy x y) := by
  cases op
  case add => exact cg_arI _ (cg_binG _ _ _ _ _ _ _) _ _
  case sub => exact cg_arI _ (cg_binG _ _ _ _ _ _ _) _ _
  case mul => exact cg_arI _ (cg_binG _ _ _ _ _ _ _) _ _
  case quo => exact cg_arD _ (cg_binG _ _ _ _ _ _ _) _ _
  case rem => exact cg_arD _ (cg_binG _ _ _ _ _ _ _) _ _
  case and => exact cg_arI _ (cg_binG _ _ _ _ _ _ _) _ _
  case or => exact cg_arI _ (cg_binG _ _ _ _ _ _ _) _ _
  case xor => exact cg_arI _ (cg_binG _ _ _ _ _ _ _) _ _
  case shl => exact cg_arS _ (cg_binG _ _ _ _ _ _ _) _ _
  case shr => exact cg_arS _ (cg_binG _ _ _ _ _ _ _) _ _
  case andNot => exact cg_binG _ _ _ _ _ _ _
  case eql => exact cg_arI _ (cg_binG _ _ _ _ _ _ _) _ _
  case neq => exact cg_arI _ (cg_binG _ _ _ _ _ _ _) _ _
  case lss => exact cg_arI _ (cg_binG _ _ _ _ _ _ _) _ _
  case leq => exact cg_arI _ (cg_binG _ _ _ _ _ _ _) _ _
  case gtr => exact cg_arI _ (cg_binG _ _ _ _ _ _ _) _ _
  case geq => exact cg_arI _ (cg_binG _ _ _ _ _ _ _) _ _
omit hC in
theorem cg_unX (op : UnOp) (t : TypeId) (v : Value) : Cg R (unX P op t v) := by
  cases op
  case not => intro k k' s h; exact cg_vBool (fun b => h _ _) (cg_opG _ _ _ _ _ h) _
  all_goals exact cg_opG _ _
omit hC in
theorem cg_convX (src dst : TypeId) (v : Value) : Cg R (convX P src dst v) := by
  intro k k' s h
  unfold convX
  exact cg_vInt (fun a b => cg_orec (cg_opG _ _ _ _ _ h) (fun kd => cg_orec (cg_opG _ _ _ _ _ h) (fun _ => h _ _) _) _) (cg_opG _ _ _ _ _ h) _
theorem cg_invV (v : Value) (args : List Value) : Cg R (fun k s => invV P C v args k s) := by
  intro k k' s h
  show R (invV P C v args k s) (invV P C v args k' s)
  unfold invV
  split
  · exact hC _ _ _ _ _ h
  · exact cg_invoke _ _ _ _ fun nx s => cg_next hC h nx s
  · exact Rl.fail
theorem cg_invM (name : String) (args : List Value) : Cg R (fun k s => invM P C name args k s) := by
  intro k k' s h
  exact cg_invoke _ _ _ _ fun nx s => cg_next hC h nx s
theorem cg_blt0 (b : Builtin) (ts : Array TypeId) (t : TypeId) (cs : Array Bool) (args : List Value) : Cg R (fun k s => blt0 P C b ts t cs args k s) := by
  intro k k' s h
  exact cg_builtin _ _ _ _ _ _ _ _ fun nx s => cg_next hC h nx s
omit hC in
theorem cg_lenX (ts : Array TypeId) (v : Value) : Cg R (lenX P ts v) := by
  intro k k' s h
  unfold lenX
  refine cg_vSlice (fun a b c => cg_rec Rl.fail (h _ _) _) ?_ _
  split
  · exact cg_lenMap _ _ _ _ _ h
  · exact cg_opt _ _ _ _ h
theorem cg_bltX (b : Builtin) (ts : Array TypeId) (t : TypeId) (cs : Array Bool) (args : List Value) : Cg R (fun k s => bltX P C b ts t cs args k s) := by
  intro k k' s h
  have h0 : R (blt0 P C b ts t cs args k s) (blt0 P C b ts t cs args k' s) := cg_blt0 hC b ts t cs args k k' s h
  cases b
  case len =>
    match args with
    | [] => exact h0
    | [x] => exact cg_lenX _ _ _ _ _ h
    | _ :: _ :: _ => exact h0
  case append => match args with
    | [] => exact h0
    | [x] => exact h0
    | [x, y] => exact cg_append _ _ _ _ _ _ h
    | _ :: _ :: _ :: _ => exact h0
  case copy => match args with
    | [] => exact h0
    | [x] => exact h0
    | [x, y] => exact cg_copy _ _ _ _ _ _ h
    | _ :: _ :: _ :: _ => exact h0
  case cap => match args with
    | [] => exact h0
    | [x] => exact cg_cap _ _ _ _ _ h
    | _ :: _ :: _ => exact h0
  case clear => match args with
    | [] => exact h0
    | [x] => exact cg_clear _ _ _ _ _ h
    | _ :: _ :: _ => exact h0
  all_goals exact h0
theorem cg_callX (ρ : Operand → Value) (o : Oper) (c : Call) : Cg R (fun k s => callX P C ρ o c k s) := by
  intro k k' s h
  show R (callX P C ρ o c k s) (callX P C ρ o c k' s)
  unfold callX
  cases c.callee with
  | value x =>
    cases x with
    | func f => exact cg_rec (cg_invV hC _ _ _ _ _ h) (hC _ _ _ _ _ h) _
    | _ => exact cg_invV hC _ _ _ _ _ h
  | invoke r name => exact cg_invM hC _ _ _ _ _ h
  | builtin b => exact cg_bltX hC _ _ _ _ _ _ _ _ h
omit hC [Rl R] in
theorem cg_aevC (E : List Value) (x : Operand) {k k' : Value → AM} (h : ∀ v, R (k v) (k' v)) : R (aevC E x k) (aevC E x k') := by
  rw [aevC_eq, aevC_eq]; exact h _
theorem cg_xopV (E : List Value) (o : Oper) : Cg R (fun k s => xopV P C E o k s) := by
  intro k k' s h
  show R (xopV P C E o k s) (xopV P C E o k' s)
  unfold xopV
  cases o.op
  case move x => exact cg_aevC E x fun v => h _ _
  case assign x => exact cg_aevC E x fun v => h _ _
  case pick c a b => exact cg_vBool (fun t => h _ _) Rl.fail _
  case alloc => exact cg_alloc _ _ _ _ h
  case box => exact cg_box _ _ _ _ _ h
  case build => exact cg_opt _ _ _ _ h
  case buildSlice => exact cg_buildSlice _ _ _ _ _ _ h
  case insert => exact cg_mapUpdate _ _ _ _ _ _ _ fun v s => h _ _
  case load => exact cg_loadAt _ _ _ _ _ h
  case store => exact cg_storeAt _ _ _ _ _ _ fun v s => h _ _
  case nilCheck x =>
    show R (nilX _ k s) (nilX _ k' s)
    unfold nilX
    split <;> first | exact h _ _ | exact Rl.fail
  case binOp => exact cg_binX _ _ _ _ _ _ _ _ _ _ h
  case unOp => exact cg_unX _ _ _ _ _ _ h
  case convert => exact cg_convX _ _ _ _ _ _ h
  case makeInterface t x =>
    show R (ifcX P _ _ k s) (ifcX P _ _ k' s)
    unfold ifcX
    split <;> first | exact h _ _ | exact Rl.fail
  case makeFunc f xs ys =>
    show R (funX f _ _ k s) (funX f _ _ k' s)
    unfold funX
    split <;> first | exact h _ _ | exact Rl.fail
  case makeMap t r =>
    cases r with
    | none => exact cg_makeMap _ _ _ h
    | some _ => exact Rl.fail
  case makeSlice => exact cg_makeSlice _ _ _ _ _ _ h
  case slice =>
    show R (sliceX P _ _ _ _ _ k s) (sliceX P _ _ _ _ _ k' s)
    unfold sliceX
    split
    · exact cg_opG _ _ _ _ _ h
    · exact cg_slice _ _ _ _ _ _ _ _ h
  case fieldAddr => exact cg_opt _ _ _ _ h
  case field => exact cg_opt _ _ _ _ h
  case indexAddr => exact cg_opt _ _ _ _ h
  case index =>
    show R (indexX P _ _ _ k s) (indexX P _ _ _ k' s)
    unfold indexX
    split
    · exact cg_opG _ _ _ _ _ h
    · exact cg_opt _ _ _ _ h
  case lookup => exact cg_lookup _ _ _ _ _ _ _ h
  case mapUpdate => exact cg_mapUpdate _ _ _ _ _ _ _ fun v s => h _ _
  case range => exact cg_rangeOf _ _ _ _ _ h
  case next it str => exact cg_rec Rl.fail (cg_nextOf _ _ _ _ h) _
  case typeAssert => exact cg_opt _ _ _ _ h
  case extract x i =>
    show R (extX _ _ k s) (extX _ _ k' s)
    unfold extX
    split
    · exact cg_opt _ _ _ _ h
    · exact Rl.fail
  case call c => exact cg_callX hC _ _ _ _ _ _ h
  all_goals exact Rl.fail
omit hC in
theorem cg_app {J J' : List Value → Nat → AM} (n : Nat) (hJ : ∀ l s, R (J l s) (J' l s)) (l : List Value) (s : Nat) : R (app n (cur n J) l s) (app n (cur n J') l s) := by
  by_cases h : l.length = n
  · rw [app_cur _ _ _ _ h, app_cur _ _ _ _ h]; exact hJ _ _
  · rw [app_bad _ _ _ _ h, app_bad _ _ _ _ h]; exact Rl.fail
/-! ### regions -/
theorem cg_xplain : ∀ (l : List Oper) (E : List Value) {k k' : List Value → Nat → AM}, (∀ E s, R (k E s) (k' E s)) → ∀ s, R (xplain P C l E k s) (xplain P C l E k' s)
  | [], E, k, k', h, s => h E s
  | o :: l, E, k, k', h, s => by
    show R (Bool.rec (motive := fun _ => AM) .fail (xopV P C E o (fun v s => putC E o.dst v (fun E' => xplain P C l E' k s)) s) (okOper o)) (Bool.rec (motive := fun _ => AM) .fail (xopV P C E o (fun v s => putC E o.dst v (fun E' => xplain P C l E' k' s)) s) (okOper o))
    refine cg_rec Rl.fail (cg_xopV hC E o _ _ _ fun v s => ?_) _
    rw [putC_eq, putC_eq]
    exact cg_xplain l _ h s
theorem cg_xgroups (ops : Array Oper) (lv : Nat) : ∀ (gs : List (List Oper)) (E : List Value) {k k' : List Value → Nat → AM}, (∀ E s, R (k E s) (k' E s)) → ∀ s, R (xgroups P C ops lv gs E k s) (xgroups P C ops lv gs E k' s)
  | [], E, k, k', h, s => h E s
  | [] :: gs, E, k, k', h, s => Rl.fail
  | (o :: g) :: gs, E, k, k', h, s => by
    have key : ∀ og : Option (Nat × Bool), R
      (Option.rec (motive := fun _ => AM) (xplain P C (o :: g) E (fun E s => xgroups P C ops lv gs E k s) s)
        (fun _ => Option.rec (motive := fun _ => AM) .fail
          (fun dw => bindJ (slots E.length (wrOps (o :: g) &&& lvOps ops gs.flatten lv)).length (cur (slots E.length (wrOps (o :: g) &&& lvOps ops gs.flatten lv)).length fun vals => forceL (setMany E (slots E.length (wrOps (o :: g) &&& lvOps ops gs.flatten lv)) vals) (fun E' => xgroups P C ops lv gs E' k))
              (fun j s => guardX (gd (nthD E dw.1) dw.2) (xplain P C (o :: g) E (fun E' => app (slots E.length (wrOps (o :: g) &&& lvOps ops gs.flatten lv)).length j (getMany E' (slots E.length (wrOps (o :: g) &&& lvOps ops gs.flatten lv)))) s)
                (app (slots E.length (wrOps (o :: g) &&& lvOps ops gs.flatten lv)).length j (getMany (skipE E (o :: g)) (slots E.length (wrOps (o :: g) &&& lvOps ops gs.flatten lv))) s)) s) (gdSlot ops o)) og)
      (Option.rec (motive := fun _ => AM) (xplain P C (o :: g) E (fun E s => xgroups P C ops lv gs E k' s) s)
        (fun _ => Option.rec (motive := fun _ => AM) .fail
          (fun dw => bindJ (slots E.length (wrOps (o :: g) &&& lvOps ops gs.flatten lv)).length (cur (slots E.length (wrOps (o :: g) &&& lvOps ops gs.flatten lv)).length fun vals => forceL (setMany E (slots E.length (wrOps (o :: g) &&& lvOps ops gs.flatten lv)) vals) (fun E' => xgroups P C ops lv gs E' k'))
              (fun j s => guardX (gd (nthD E dw.1) dw.2) (xplain P C (o :: g) E (fun E' => app (slots E.length (wrOps (o :: g) &&& lvOps ops gs.flatten lv)).length j (getMany E' (slots E.length (wrOps (o :: g) &&& lvOps ops gs.flatten lv)))) s)
                (app (slots E.length (wrOps (o :: g) &&& lvOps ops gs.flatten lv)).length j (getMany (skipE E (o :: g)) (slots E.length (wrOps (o :: g) &&& lvOps ops gs.flatten lv))) s)) s) (gdSlot ops o)) og) := by
      intro og
      cases og with
      | none => exact cg_xplain hC _ _ (fun E s => cg_xgroups ops lv gs E h s) s
      | some _ =>
        cases gdSlot ops o with
        | none => exact Rl.fail
        | some dw =>
          dsimp only
          unfold bindJ guardX
          have hJ : ∀ l s, R (app (slots E.length (wrOps (o :: g) &&& lvOps ops gs.flatten lv)).length (cur (slots E.length (wrOps (o :: g) &&& lvOps ops gs.flatten lv)).length fun vals => forceL (setMany E (slots E.length (wrOps (o :: g) &&& lvOps ops gs.flatten lv)) vals) (fun E' => xgroups P C ops lv gs E' k)) l s)
              (app (slots E.length (wrOps (o :: g) &&& lvOps ops gs.flatten lv)).length (cur (slots E.length (wrOps (o :: g) &&& lvOps ops gs.flatten lv)).length fun vals => forceL (setMany E (slots E.length (wrOps (o :: g) &&& lvOps ops gs.flatten lv)) vals) (fun E' => xgroups P C ops lv gs E' k')) l s) := by
            refine fun l s => cg_app _ (fun l s => ?_) l s
            rw [forceL_eq, forceL_eq]
            exact cg_xgroups ops lv gs _ h s
          exact cg_rec (hJ _ _) (cg_xplain hC _ _ (fun E s => hJ _ _) s) _
    exact key o.guard
omit hC in
theorem cg_logU {j j' : LogT} (h : ∀ v ts ws s, R (j v ts ws s) (j' v ts ws s)) (u : Value) (ts ws : List Nat) : R (logU j u ts ws) (logU j' u ts ws) := by
  unfold logU
  split
  · exact h _ _ _ _
  · exact Rl.fail
theorem cg_xlog (E : List Value) (o : Oper) {j j' : LogT} (h : ∀ v ts ws s, R (j v ts ws s) (j' v ts ws s)) (s : Nat) : R (xlog P C E o j s) (xlog P C E o j' s) := by
  show R (Bool.rec (motive := fun _ => AM) (.log (xopV P C E o (fun v s => .ret (pk v s)) s) (logU j)) (xopV P C E o (fun v s => j v [] [] s) s) (quiet o)) (Bool.rec (motive := fun _ => AM) (.log (xopV P C E o (fun v s => .ret (pk v s)) s) (logU j')) (xopV P C E o (fun v s => j' v [] [] s) s) (quiet o))
  exact cg_rec (Rl.log fun u ts ws => cg_logU h u ts ws) (cg_xopV hC E o _ _ _ fun v s => h _ _ _ _) _
theorem cg_xdraw (ops : Array Oper) : ∀ (l : List Oper) (F : List Bool) (E : List Value) (rs : List (List Nat × List Nat)) {k k' : List Value → Nat → AM}, (∀ E s, R (k E s) (k' E s)) → ∀ s, R (xdraw P C ops l F E rs k s) (xdraw P C ops l F E rs k' s)
  | [], F, E, rs, k, k', h, s => by
    show R (Bool.rec (motive := fun _ => AM) .fail (k E s) (okDrawX ops rs.reverse)) (Bool.rec (motive := fun _ => AM) .fail (k' E s) (okDrawX ops rs.reverse))
    exact cg_rec Rl.fail (h _ _) _
  | o :: l, F, E, rs, k, k', h, s => by
    have hj : ∀ v ts ws s, R (putC E o.dst v (fun E' => xdraw P C ops l (tlB F) E' ((keepL (hdB F) ts, keepL (hdB F) ws) :: rs) k s)) (putC E o.dst v (fun E' => xdraw P C ops l (tlB F) E' ((keepL (hdB F) ts, keepL (hdB F) ws) :: rs) k' s)) := by
      intro v ts ws s
      rw [putC_eq, putC_eq]
      exact cg_xdraw ops l _ _ _ h s
    have key : ∀ og : Option (Nat × Bool), R
      (Option.rec (motive := fun _ => AM) (xlog P C E o (fun v ts ws s => putC E o.dst v (fun E' => xdraw P C ops l (tlB F) E' ((keepL (hdB F) ts, keepL (hdB F) ws) :: rs) k s)) s)
        (fun _ => Option.rec (motive := fun _ => AM) .fail
          (fun dw => logJ (fun v ts ws s => putC E o.dst v (fun E' => xdraw P C ops l (tlB F) E' ((keepL (hdB F) ts, keepL (hdB F) ws) :: rs) k s)) (fun (j : LogT) s => guardX (gd (nthD E dw.1) dw.2) (xlog P C E o j s) (j undef [] [] s)) s) (gdSlot ops o)) og)
      (Option.rec (motive := fun _ => AM) (xlog P C E o (fun v ts ws s => putC E o.dst v (fun E' => xdraw P C ops l (tlB F) E' ((keepL (hdB F) ts, keepL (hdB F) ws) :: rs) k' s)) s)
        (fun _ => Option.rec (motive := fun _ => AM) .fail
          (fun dw => logJ (fun v ts ws s => putC E o.dst v (fun E' => xdraw P C ops l (tlB F) E' ((keepL (hdB F) ts, keepL (hdB F) ws) :: rs) k' s)) (fun (j : LogT) s => guardX (gd (nthD E dw.1) dw.2) (xlog P C E o j s) (j undef [] [] s)) s) (gdSlot ops o)) og) := by
      intro og
      cases og with
      | none => exact cg_xlog hC E o hj s
      | some _ =>
        cases gdSlot ops o with
        | none => exact Rl.fail
        | some dw => exact cg_rec (hj _ _ _ _) (cg_xlog hC E o hj s) _
    show R (Bool.rec (motive := fun _ => AM) .fail _ (okOperD o)) (Bool.rec (motive := fun _ => AM) .fail _ (okOperD o))
    exact cg_rec Rl.fail (key o.guard) _
/-! ### code -/
omit hC in
theorem cg_cond {a a' b b' : AM} (v : Value) (ha : R a a') (hb : R b b') : R (condX v a b) (condX v a' b') := by
  unfold condX
  split
  · exact cg_rec hb ha _
  · exact Rl.fail
def CgK (R : AM → AM → Prop) (K K' : KX) : Prop := ∀ ex E s, R (K ex E s) (K' ex E s)
omit hC [Rl R] in
theorem cg_seqK {f f' : List Value → Nat → AM} {K K' : KX} (hf : ∀ E s, R (f E s) (f' E s)) (hK : CgK R K K') : CgK R (seqK f K) (seqK f' K') := by
  intro ex E s
  cases ex
  · exact hf _ _
  · exact hK _ _ _
  · exact hK _ _ _
omit hC in
theorem cg_blockK (id : Nat) {K K' : KX} (hK : CgK R K K') : CgK R (blockK id K) (blockK id K') := by
  intro ex E s
  cases ex
  · exact hK _ _ _
  · exact cg_rec (hK _ _ _) (hK _ _ _) _
  · exact hK _ _ _
theorem cg_xcode (N : Nat) (c : Code) : ∀ (lv : Nat) (E : List Value) {K K' : KX}, CgK R K K' → ∀ s, R (xcode P C N c lv E K s) (xcode P C N c lv E K' s) := by
  induction c with
  | skip => exact fun lv E K K' h s => h _ _ _
  | region id ops draw =>
    intro lv E K K' h s
    show R (Bool.rec (motive := fun _ => AM) (xgroups P C ops lv (groups ops ops.toList) E (fun E s => K .fall E s) s) (Option.rec (motive := fun _ => AM) (forceB (keepsX ops) (fun F => xdraw P C ops ops.toList F E [] (fun E s => K .fall E s) s)) (fun _ => .fail) (exOf ops)) draw) (Bool.rec (motive := fun _ => AM) (xgroups P C ops lv (groups ops ops.toList) E (fun E s => K' .fall E s) s) (Option.rec (motive := fun _ => AM) (forceB (keepsX ops) (fun F => xdraw P C ops ops.toList F E [] (fun E s => K' .fall E s) s)) (fun _ => .fail) (exOf ops)) draw)
    refine cg_rec (cg_xgroups hC ops lv _ _ (fun E s => h _ _ _) s) ?_ _
    cases exOf ops with
    | some ex => exact Rl.fail
    | none =>
    show R (forceB (keepsX ops) (fun F => xdraw P C ops ops.toList F E [] (fun E s => K .fall E s) s)) (forceB (keepsX ops) (fun F => xdraw P C ops ops.toList F E [] (fun E s => K' .fall E s) s))
    rw [forceB_eq, forceB_eq]
    exact cg_xdraw hC ops _ _ _ _ (fun E s => h _ _ _) s
  | seq a b iha ihb =>
    intro lv E K K' h s
    show R (xseq b (wr a) (multi a) (xcode P C N a) (xcode P C N b) lv E K s) (xseq b (wr a) (multi a) (xcode P C N a) (xcode P C N b) lv E K' s)
    unfold xseq
    refine cg_rec (iha _ _ (cg_seqK (fun E s => ihb _ _ h s) h) s) ?_ _
    unfold bindJ
    refine iha _ _ (cg_seqK (fun E' s => cg_app _ (fun l s => ?_) _ _) h) s
    rw [forceL_eq, forceL_eq]
    exact ihb _ _ h s
  | cond c a b iha ihb =>
    intro lv E K K' h s
    show R (Bool.rec (motive := fun _ => AM) .fail (condX (aev E c) (xcode P C N a lv E K s) (xcode P C N b lv E K s)) (okOperand c)) (Bool.rec (motive := fun _ => AM) .fail (condX (aev E c) (xcode P C N a lv E K' s) (xcode P C N b lv E K' s)) (okOperand c))
    exact cg_rec Rl.fail (cg_cond _ (iha _ _ h s) (ihb _ _ h s)) _
  | block id x ih => exact fun lv E K K' h s => ih lv E (cg_blockK id h) s
  | loop x ih =>
    intro lv E K K' h s
    show R (xloop N (wr x &&& live x lv) (xcode P C N x (live x lv ||| lv)) E K s) (xloop N (wr x &&& live x lv) (xcode P C N x (live x lv ||| lv)) E K' s)
    unfold xloop
    have key : ∀ (L : List Nat) (m : Nat) (l : List Value) (s : Nat), R
        (app L.length (loopJ m L.length (cur L.length fun _ _ => .fail) fun ih => cur L.length fun vals => forceL (setMany E L vals) fun E0 => xcode P C N x (live x lv ||| lv) E0 (seqK (fun E' => app L.length ih (getMany E' L)) K)) l s)
        (app L.length (loopJ m L.length (cur L.length fun _ _ => .fail) fun ih => cur L.length fun vals => forceL (setMany E L vals) fun E0 => xcode P C N x (live x lv ||| lv) E0 (seqK (fun E' => app L.length ih (getMany E' L)) K')) l s) := by
      intro L m
      induction m with
      | zero => intro l s; exact cg_app (J := fun _ _ => .fail) (J' := fun _ _ => .fail) _ (fun _ _ => Rl.fail) l s
      | succ m ihm =>
        intro l s
        rw [loopJ_succ, loopJ_succ]
        refine cg_app _ (fun l s => ?_) l s
        rw [forceL_eq, forceL_eq]
        exact ih _ _ (cg_seqK (fun E' s => ihm _ _) h) s
    exact key _ _ _ _
  | rangeFunc f params as body _ _ => exact fun lv E K K' h s => Rl.fail
  | exit id => exact fun lv E K K' h s => h _ _ _
  | scope x ih => exact fun lv E K K' h s => ih lv E h s
  | label l => exact fun lv E K K' h s => h _ _ _
  | ret => exact fun lv E K K' h s => h _ _ _
  | _ => exact fun lv E K K' h s => Rl.fail

omit hC in
theorem cg_results (E : List Value) : ∀ (l : List ResultVar) (q q' : List Value → Nat → AM) (s : Nat), (∀ vs s, R (q vs s) (q' vs s)) → R (aresults P E q l s) (aresults P E q' l s)
  | [], q, q', s, h => h _ _
  | .tmp t :: l, q, q', s, h => cg_results E l _ _ _ fun vs s => h _ _
  | .cell a t :: l, q, q', s, h => by
    unfold aresults
    split
    · exact cg_loadVar _ _ _ _ _ _ fun v s => cg_results E l _ _ _ fun vs s => h _ _
    · exact Rl.fail
theorem cg_xfun (N : Nat) : CgC R (xfun P N C) := by
  intro f args k k' s h
  unfold xfun
  cases P.funcs[f]? with
  | none => exact Rl.fail
  | some fn =>
    dsimp only
    cases fn.body with
    | none => exact Rl.fail
    | some c =>
      dsimp only
      unfold xbody
      refine cg_app _ (fun l s => ?_) _ _
      rw [forceL_eq, forceL_eq]
      refine cg_xcode hC N c _ _ (fun ex E s => ?_) s
      cases ex
      · exact cg_results E _ _ _ _ fun vs s => h _ _
      · exact Rl.fail
      · exact cg_results E _ _ _ _ fun vs s => h _ _
/-! ### loops over functions -/
def CgY (R : AM → AM → Prop) (K K' : KY) : Prop := ∀ ex E D s, R (K ex E D s) (K' ex E D s)
omit hC [Rl R] in
theorem cg_seqY {f f' : List Value → List Nat → Nat → AM} {K K' : KY} (hf : ∀ E D s, R (f E D s) (f' E D s)) (hK : CgY R K K') : CgY R (seqY f K) (seqY f' K') := by
  intro ex E D s
  cases ex
  · exact hf _ _ _
  · exact hK _ _ _ _
  · exact hK _ _ _ _
omit hC in
theorem cg_blockY (id : Nat) {K K' : KY} (hK : CgY R K K') : CgY R (blockY id K) (blockY id K') := by
  intro ex E D s
  cases ex
  · exact hK _ _ _ _
  · exact cg_rec (hK _ _ _ _) (hK _ _ _ _) _
  · exact hK _ _ _ _
omit hC in
theorem cg_yend (l : Nat) {Kf Kf' : Nat → AM} {Kb Kb' : Nat → Nat → AM} {Kr Kr' : Nat → AM} (hf : ∀ s, R (Kf s) (Kf' s)) (hb : ∀ i s, R (Kb i s) (Kb' i s)) (hr : ∀ s, R (Kr s) (Kr' s)) (s : Nat) : R (yend l Kf Kb Kr s) (yend l Kf' Kb' Kr' s) := by
  unfold yend
  refine Rl.get fun o => ?_
  cases o <;> try exact Rl.fail
  rename_i q
  dsimp only
  cases q.state <;> first | exact Rl.fail | skip
  all_goals
    refine Rl.put ?_
    cases q.pending with
    | none => exact hf _
    | some c => cases c <;> first | exact Rl.fail | exact hb _ _ | exact hr _
theorem cg_yiter (v : Value) (l : Nat) {k k' : Nat → AM} (h : ∀ s, R (k s) (k' s)) (s : Nat) : R (yiter P C v l k s) (yiter P C v l k' s) := by
  unfold yiter
  cases v <;> try exact Rl.fail
  refine cg_invoke _ _ _ _ fun nx s => ?_
  cases nx <;> try exact Rl.fail
  rename_i f args
  dsimp only
  refine cg_rec ?_ Rl.fail _
  cases args.toList with
  | nil => exact Rl.fail
  | cons x l' => exact hC _ _ _ _ _ fun _ s => h s
theorem cg_yloopN (fn : FuncId) (v : Value) (params : Array Tmp) (as body : Code) (E : List Value) {Kf Kf' : Nat → Nat → AM} {Kb Kb' : Nat → Nat → Nat → AM} {Kr Kr' : Nat → Nat → AM} (hf : ∀ n s, R (Kf n s) (Kf' n s)) (hb : ∀ n i s, R (Kb n i s) (Kb' n i s)) (hr : ∀ n s, R (Kr n s) (Kr' n s)) (s : Nat) :
    R (yloopN P C fn v params as body E Kf Kb Kr s) (yloopN P C fn v params as body E Kf' Kb' Kr' s) := by
  unfold yloopN
  exact Rl.new (Rl.new (cg_yiter hC v _ (fun s' => cg_yend _ (hf _) (hb _) (hr _) s') _))
theorem cg_yloopR (fn : FuncId) (l : Nat) (v : Value) (params : Array Tmp) (as body : Code) (E : List Value) {Kf Kf' : Nat → AM} {Kb Kb' : Nat → Nat → AM} {Kr Kr' : Nat → AM} (hf : ∀ s, R (Kf s) (Kf' s)) (hb : ∀ i s, R (Kb i s) (Kb' i s)) (hr : ∀ s, R (Kr s) (Kr' s)) (s : Nat) :
    R (yloopR P C fn l v params as body E Kf Kb Kr s) (yloopR P C fn l v params as body E Kf' Kb' Kr' s) := by
  unfold yloopR
  refine Rl.get fun o => ?_
  cases o <;> try exact Rl.fail
  exact Rl.new (cg_yiter hC v _ (fun s' => cg_yend _ hf hb hr s') _)
theorem cg_ycode (N : Nat) (fn : FuncId) (rnd : Option Nat) (c : Code) : ∀ (lv : Nat) (E : List Value) (D : List Nat) {K K' : KY}, CgY R K K' → ∀ s, R (ycode P C N fn rnd c lv E D K s) (ycode P C N fn rnd c lv E D K' s) := by
  have plain : ∀ (c : Code) (lv : Nat) (E : List Value) (D : List Nat) {K K' : KY}, CgY R K K' → ∀ s, R (xcode P C N c lv E (fun ex E s => K ex E D s) s) (xcode P C N c lv E (fun ex E s => K' ex E D s) s) := fun c lv E D K K' h s => cg_xcode hC N c lv E (fun ex E s => h ex E D s) s
  induction c with
  | skip => exact fun lv E D K K' h s => h _ _ _ _
  | region id ops draw => exact fun lv E D K K' h s => plain (.region id ops draw) lv E D h s
  | seq a b iha ihb =>
    intro lv E D K K' h s
    show R (Bool.rec (motive := fun _ => AM) (yseq b (wr a) (multi a) (ycode P C N fn rnd a) (ycode P C N fn rnd b) lv E D K s) (xcode P C N (.seq a b) lv E (fun ex E s => K ex E D s) s) (noRange a && noRange b)) (Bool.rec (motive := fun _ => AM) (yseq b (wr a) (multi a) (ycode P C N fn rnd a) (ycode P C N fn rnd b) lv E D K' s) (xcode P C N (.seq a b) lv E (fun ex E s => K' ex E D s) s) (noRange a && noRange b))
    refine cg_rec ?_ (plain (.seq a b) lv E D h s) _
    unfold yseq
    refine cg_rec (iha _ _ _ (cg_seqY (fun E D s => ihb _ _ _ h s) h) s) ?_ _
    unfold bindJ
    refine iha _ _ _ (cg_seqY (fun E' D' s => cg_app _ (fun l s => ?_) _ _) h) s
    rw [forceL_eq, forceL_eq]
    exact ihb _ _ _ h s
  | cond c a b iha ihb =>
    intro lv E D K K' h s
    show R (Bool.rec (motive := fun _ => AM) .fail (condX (aev E c) (ycode P C N fn rnd a lv E D K s) (ycode P C N fn rnd b lv E D K s)) (okOperand c)) (Bool.rec (motive := fun _ => AM) .fail (condX (aev E c) (ycode P C N fn rnd a lv E D K' s) (ycode P C N fn rnd b lv E D K' s)) (okOperand c))
    exact cg_rec Rl.fail (cg_cond _ (iha _ _ _ h s) (ihb _ _ _ h s)) _
  | block id x ih => exact fun lv E D K K' h s => ih lv E D (cg_blockY id h) s
  | loop x ih =>
    intro lv E D K K' h s
    show R (Bool.rec (motive := fun _ => AM) (yloop N (wr x &&& live x lv) (ycode P C N fn rnd x (live x lv ||| lv)) E D K s) (xcode P C N (.loop x) lv E (fun ex E s => K ex E D s) s) (noRange x)) (Bool.rec (motive := fun _ => AM) (yloop N (wr x &&& live x lv) (ycode P C N fn rnd x (live x lv ||| lv)) E D K' s) (xcode P C N (.loop x) lv E (fun ex E s => K' ex E D s) s) (noRange x))
    refine cg_rec ?_ (plain (.loop x) lv E D h s) _
    unfold yloop
    have key : ∀ (L : List Nat) (m : Nat) (D : List Nat) (l : List Value) (s : Nat), R
        (app L.length (loopJ m L.length (fun _ => cur L.length fun _ _ => .fail) (fun ih D => cur L.length fun vals => forceL (setMany E L vals) fun E0 => ycode P C N fn rnd x (live x lv ||| lv) E0 D (seqY (fun E' D' => app L.length (ih D') (getMany E' L)) K)) D) l s)
        (app L.length (loopJ m L.length (fun _ => cur L.length fun _ _ => .fail) (fun ih D => cur L.length fun vals => forceL (setMany E L vals) fun E0 => ycode P C N fn rnd x (live x lv ||| lv) E0 D (seqY (fun E' D' => app L.length (ih D') (getMany E' L)) K')) D) l s) := by
      intro L m
      induction m with
      | zero => intro D l s; exact cg_app (J := fun _ _ => .fail) (J' := fun _ _ => .fail) _ (fun _ _ => Rl.fail) l s
      | succ m ihm =>
        intro D l s
        rw [loopJ_succ, loopJ_succ]
        refine cg_app _ (fun l s => ?_) l s
        rw [forceL_eq, forceL_eq]
        exact ih _ _ _ (cg_seqY (fun E' D' s => ihm _ _ _) h) s
    exact key _ _ _ _ _
  | rangeFunc f params as body _ _ =>
    intro lv E D K K' h s
    show R (yrange P C fn rnd f params as body E D K s) (yrange P C fn rnd f params as body E D K' s)
    unfold yrange
    refine cg_rec Rl.fail ?_ _
    cases rnd with
    | none => exact cg_yloopN hC _ _ _ _ _ _ (fun n s => h _ _ _ _) (fun n i s => h _ _ _ _) (fun n s => h _ _ _ _) s
    | some l => exact cg_yloopR hC _ _ _ _ _ _ _ (fun s => h _ _ _ _) (fun i s => h _ _ _ _) (fun s => h _ _ _ _) s
  | exit id => exact fun lv E D K K' h s => h _ _ _ _
  | scope x ih => exact fun lv E D K K' h s => ih lv E D h s
  | label l => exact fun lv E D K K' h s => h _ _ _ _
  | ret => exact fun lv E D K K' h s => h _ _ _ _
  | _ => exact fun lv E D K K' h s => Rl.fail
omit hC in
theorem cg_yunw {k k' : Nat → AM} (h : ∀ s, R (k s) (k' s)) : ∀ (D : List Nat) (s : Nat), R (yunw D k s) (yunw D k' s)
  | [], s => h s
  | b :: D, s => by
    show R (.get b fun | .deferred (some []) => .put b (.deferred none) (yunw D k s) | _ => .fail) (.get b fun | .deferred (some []) => .put b (.deferred none) (yunw D k' s) | _ => .fail)
    refine Rl.get fun o => ?_
    split
    · exact Rl.put (cg_yunw h D s)
    · exact Rl.fail
omit hC in
theorem cg_yret {k k' : Nat → AM} (h : ∀ s, R (k s) (k' s)) (D : List Nat) (s : Nat) : R (yret D k s) (yret D k' s) := by
  unfold yret
  exact cg_rec Rl.fail (cg_yunw h D s) _
theorem cg_yfun (N : Nat) : CgC R (yfun P N C) := by
  intro f args k k' s h
  unfold yfun
  cases P.funcs[f]? with
  | none => exact Rl.fail
  | some fn =>
    dsimp only
    cases fn.body with
    | none => exact Rl.fail
    | some c =>
      dsimp only
      unfold ybody
      refine cg_app _ (fun l s => ?_) _ _
      rw [forceL_eq, forceL_eq]
      refine cg_ycode hC N f none c _ _ _ (fun ex E D s => ?_) s
      cases ex
      · exact cg_yret (fun s => cg_results E _ _ _ _ fun vs s => h _ _) D s
      · exact Rl.fail
      · exact cg_yret (fun s => cg_results E _ _ _ _ fun vs s => h _ _) D s
omit hC in
theorem cg_yleave (l : Nat) {K K' : Value → Nat → AM} (h : ∀ v s, R (K v s) (K' v s)) : CgY R (yleave l K) (yleave l K') := by
  intro ex E D s
  unfold yleave
  refine Rl.get fun o => ?_
  cases o <;> try exact Rl.fail
  cases ex <;> exact Rl.put (h _ _)
theorem cg_yY (N : Nat) (args : List Value) : Cg R (yY P N C args) := by
  intro k k' s h
  unfold yY
  split
  · refine Rl.get fun o => ?_
    cases o <;> try exact Rl.fail
    dsimp only
    refine cg_rec Rl.fail ?_ _
    unfold yround
    refine cg_rec Rl.fail ?_ _
    refine cg_ycode hC N _ _ _ _ _ _ (fun ex E D s => ?_) s
    cases ex
    · show R (yready _ _ s) (yready _ _ s)
      unfold yready
      refine Rl.get fun o => ?_
      cases o <;> try exact Rl.fail
      rename_i q
      dsimp only
      cases q.state <;> first | exact Rl.fail | skip
      exact Rl.put (cg_ycode hC N _ _ _ _ _ _ (cg_yleave _ h) s)
    · exact Rl.fail
    · exact Rl.fail
  · exact Rl.fail
end
end Go.Ev.Nt
namespace Go.Ev.Nt
open Go Go.RowKit Go.Ev
set_option linter.unusedVariables false
set_option linter.unusedSectionVars false
set_option linter.unusedSimpArgs false
section
variable {P : Program} {R : AM → AM → Prop} [Rl R]
def KR (R : AM → AM → Prop) (k k' : AF → List AF → Nat → AM) : Prop := ∀ a cs s, R (k a cs s) (k' a cs s)
def FR (R : AM → AM → Prop) (f f' : Value → Nat → AM) : Prop := ∀ v s, R (f v s) (f' v s)
variable {k k' : AF → List AF → Nat → AM} {fin fin' : Value → Nat → AM}
theorem le_leave (hk : KR R k k') (hf : FR R fin fin') (a : AF) (cs : List AF) (j : Option Code) (s : Nat) : R (aleave k fin a cs j s) (aleave k' fin' a cs j s) := by
  unfold aleave
  split
  · split <;> first | exact Rl.fail | exact hk _ _ _
  · refine Rl.get fun o => ?_
    cases o <;> try exact Rl.fail
    refine Rl.put ?_
    split
    · exact hk _ _ _
    · exact hf _ _
    · exact Rl.fail
theorem le_unwind (hk : KR R k k') (hf : FR R fin fin') (a : AF) (cs : List AF) (s : Nat) : R (aunwind P k fin a cs s) (aunwind P k' fin' a cs s) := by
  unfold aunwind
  split
  · split
    · refine Rl.get fun o => ?_
      split
      · exact Rl.put (hk _ _ _)
      · exact Rl.fail
    · refine cg_invoke _ _ _ _ fun nx s => ?_
      split
      · split
        · exact hk _ _ _
        · exact Rl.fail
      · exact Rl.fail
    · exact Rl.fail
  · split
    · split
      · exact hk _ _ _
      · exact Rl.fail
    · split
      · refine cg_results _ _ _ _ _ fun vs s => ?_
        split
        · exact hf _ _
        · exact hk _ _ _
        · exact hk _ _ _
        · exact Rl.fail
      · exact Rl.fail
    · exact Rl.fail
theorem le_read : ∀ {l : List Nat} {q q' : List Obj → AM}, (∀ os, R (q os) (q' os)) → R (readA l q) (readA l q')
  | [], q, q', h => h _
  | n :: l, q, q', h => Rl.get fun o => le_read fun os => h _
theorem le_ask [Known P] {f : FuncId} {args : List Value} {y y' n n' : AM} (hy : R y y') (hn : R n n') : R (askK P f args y n) (askK P f args y' n') := by
  unfold askK
  exact Rl.bif hy (Rl.bif (Rl.bif (le_read fun os => Rl.bif hy (Rl.fail)) (Rl.fail)) hn)
theorem le_apply [Known P] (hk : KR R k k') (a : AF) (cs : List AF) (nx : Next) (s : Nat) : R (aapply P k a cs nx s) (aapply P k' a cs nx s) := by
  unfold aapply
  split
  · exact hk _ _ _
  · exact hk _ _ _
  · refine le_ask (hk _ _ _) ?_
    split
    · exact hk _ _ _
    · exact Rl.fail
  · exact hk _ _ _
  · split
    · exact hk _ _ _
    · exact Rl.fail
  · split
    · split <;> exact hk _ _ _
    · exact hk _ _ _
    · exact Rl.fail
  · exact Rl.fail
theorem le_oper [Known P] (hk : KR R k k') (a : AF) (cs : List AF) (o : Oper) (s : Nat) : R (aoper P k a cs o s) (aoper P k' a cs o s) := by
  unfold aoper
  refine Rl.bif ?_ (Rl.fail)
  split
  · split
    · exact hk _ _ _
    · exact Rl.fail
  · exact cg_op _ _ _ _ _ fun nx s => le_apply hk _ _ _ _
theorem le_callIter (hk : KR R k k') (a : AF) (cs : List AF) (f : Operand) (l : Nat) (s : Nat) : R (acallIter P k a cs f l s) (acallIter P k' a cs f l s) := by
  unfold acallIter
  split
  · refine cg_invoke _ _ _ _ fun nx s => ?_
    split
    · split
      · exact hk _ _ _
      · exact Rl.fail
    · exact Rl.fail
  · exact Rl.fail
theorem le_range (hk : KR R k k') (a : AF) (cs : List AF) (f : Operand) (params : Array Tmp) (as body : Code) (r : List Item) (s : Nat) : R (arange P k a cs f params as body r s) (arange P k' a cs f params as body r s) := by
  unfold arange
  refine Rl.bif ?_ (Rl.fail)
  split
  · exact Rl.new (Rl.new (le_callIter hk _ _ _ _ _))
  · refine Rl.get fun o => ?_
    split
    · exact Rl.new (le_callIter hk _ _ _ _ _)
    · exact Rl.fail
theorem le_begin (hk : KR R k k') (a : AF) (cs : List AF) (s : Nat) : R (abegin k a cs s) (abegin k' a cs s) := by
  unfold abegin
  split
  · refine Rl.get fun o => ?_
    split
    · split
      · exact Rl.put (hk _ _ _)
      · exact Rl.fail
    · exact Rl.fail
  · exact Rl.fail
theorem le_end (hk : KR R k k') (a : AF) (cs : List AF) (l : Nat) (r : List Item) (s : Nat) : R (aend k a cs l r s) (aend k' a cs l r s) := by
  unfold aend
  refine Rl.get fun o => ?_
  split
  · split
    · exact Rl.fail
    · refine Rl.put ?_
      split <;> exact hk _ _ _
  · exact Rl.fail
theorem le_step [Known P] (hk : KR R k k') (hf : FR R fin fin') (a : AF) (cs : List AF) (s : Nat) (hd : ∀ fn tmps id ops r ds kind rnd, a ≠ ⟨fn, tmps, .code (.region id ops true) :: r, ds, .run, kind, rnd⟩) : R (astep P (fun _ _ _ => .fail) k fin a cs s) (astep P (fun _ _ _ => .fail) k' fin' a cs s) := by
  obtain ⟨fn, tmps, todo, ds, mode, kind, rnd⟩ := a
  unfold astep
  cases mode with
  | returning => exact le_unwind hk hf _ _ _
  | panicking c => exact le_unwind hk hf _ _ _
  | run =>
    cases todo with
    | nil => exact le_leave hk hf _ _ _ _
    | cons i r =>
      cases i with
      | code c =>
        cases c with
        | ret => exact le_leave hk hf _ _ _ _
        | skip => exact hk _ _ _
        | label l => exact hk _ _ _
        | seq x y => exact hk _ _ _
        | cond c x y => dsimp only; refine Rl.bif ?_ Rl.fail; split; exact hk _ _ _; exact Rl.fail
        | block id x => exact hk _ _ _
        | loop x => exact hk _ _ _
        | scope x => exact hk _ _ _
        | exit id => dsimp only; split; exact hk _ _ _; exact le_leave hk hf _ _ _ _
        | goto id => dsimp only; split; exact hk _ _ _; exact le_leave hk hf _ _ _ _
        | region id ops draw =>
          cases draw with
          | true => exact absurd rfl (hd _ _ _ _ _ _ _ _)
          | false => exact hk _ _ _
        | rangeFunc f params as body => exact le_range hk _ _ _ _ _ _ _ _
        | refuse w => exact Rl.fail
      | inBlock b => exact hk _ _ _
      | inScope c => exact hk _ _ _
      | inLoop c => exact hk _ _ _
      | inRegion ops l =>
        cases l with
        | nil => exact hk _ _ _
        | cons i l =>
          dsimp only
          split
          · exact hk _ _ _
          · exact Rl.bif (le_oper hk _ _ _ _) (hk _ _ _)
      | beginRound => exact le_begin hk _ _ _
      | endRangeFunc l => exact le_end hk _ _ _ _ _
      | inRangeFunc l => exact Rl.fail
      | call d w r s => exact Rl.fail
      | extern r a => exact Rl.fail
variable {C : CallT} (hC : CgC R C)
include hC
theorem cg_happly [Known P] (hk : KR R k k') (a : AF) (cs : List AF) (nx : Next) (s : Nat) : R (happly P C k a cs nx s) (happly P C k' a cs nx s) := by
  unfold happly
  split
  · exact Rl.bif (le_apply hk _ _ _ _) (hC _ _ _ _ _ fun v s => hk _ _ _)
  · exact le_apply hk _ _ _ _
theorem cg_hoper [Known P] (hk : KR R k k') (a : AF) (cs : List AF) (o : Oper) (s : Nat) : R (hoper P C k a cs o s) (hoper P C k' a cs o s) := by
  unfold hoper
  refine Rl.bif ?_ Rl.fail
  split
  · split
    · exact hk _ _ _
    · exact Rl.fail
  · refine Rl.bif (cg_op _ _ _ _ _ fun nx s => cg_happly hC hk _ _ _ _) ?_
    exact cg_xopV hC _ _ _ _ _ fun v s => hk _ _ _
omit hC in
theorem cg_hdraw [Known P] (nest : Nest) (ops : Array Oper) {q q' : List Value → Nat → AM} (hq : ∀ t s, R (q t s) (q' t s)) : ∀ (l : List Oper) (tmps : List Value) (rs : List (List Nat × List Nat)) (s : Nat), R (hdraw P C nest ops q l tmps rs s) (hdraw P C nest ops q' l tmps rs s)
  | [], tmps, rs, s => by unfold hdraw; exact Rl.bif (hq _ _) Rl.fail
  | o :: l, tmps, rs, s => by
    unfold hdraw
    refine Rl.bif (Rl.bif (Rl.log fun u ts ws => ?_) Rl.fail) (cg_hdraw nest ops hq _ _ _ _)
    split
    · exact cg_hdraw nest ops hq _ _ _ _
    · exact Rl.fail
omit hC in
theorem cg_peek {e : Exc} {tmps : List Value} {q q' : Rec3 → AM} (h : ∀ x, R (q x) (q' x)) : R (peekA P e tmps q) (peekA P e tmps q') := by
  unfold peekA
  split
  · refine Rl.get fun o => ?_
    split
    · split
      · exact h _
      · exact Rl.fail
    · exact Rl.fail
  · exact Rl.fail
omit hC in
theorem cg_hdrawS [Known P] (nest : Nest) (ops : Array Oper) (e : Exc) {q q' : List Value → Nat → AM} (hq : ∀ t s, R (q t s) (q' t s)) : ∀ (l : List Oper) (i : Nat) (c : Rec3) (tmps : List Value) (rs : List (List Nat × List Nat)) (s : Nat), R (hdrawS P C nest ops e q l i c tmps rs s) (hdrawS P C nest ops e q' l i c tmps rs s)
  | [], i, c, tmps, rs, s => by unfold hdrawS; exact Rl.bif (hq _ _) Rl.fail
  | o :: l, i, c, tmps, rs, s => by
    unfold hdrawS
    have go : ∀ c : Rec3, R (bif awanted ops tmps o then
        (bif okOperD o then .log (hopV P C nest tmps o s) (fun u ts ws => match up u with
          | some (v, s') => bif (bif Nat.beq i e.j then sameA e c tmps v else true) then hdrawS P C nest ops e q l (i + 1) c (aput' tmps o.dst v) ((ts, ws) :: rs) s' else .fail
          | none => .fail) else .fail)
      else bif Nat.beq i e.j then .fail else hdrawS P C nest ops e q l (i + 1) c (aput' tmps o.dst undef) (([], []) :: rs) s)
      (bif awanted ops tmps o then
        (bif okOperD o then .log (hopV P C nest tmps o s) (fun u ts ws => match up u with
          | some (v, s') => bif (bif Nat.beq i e.j then sameA e c tmps v else true) then hdrawS P C nest ops e q' l (i + 1) c (aput' tmps o.dst v) ((ts, ws) :: rs) s' else .fail
          | none => .fail) else .fail)
      else bif Nat.beq i e.j then .fail else hdrawS P C nest ops e q' l (i + 1) c (aput' tmps o.dst undef) (([], []) :: rs) s) := fun c => by
      refine Rl.bif (Rl.bif (Rl.log fun u ts ws => ?_) Rl.fail) (Rl.bif Rl.fail (cg_hdrawS nest ops e hq _ _ _ _ _ _))
      split
      · exact Rl.bif (cg_hdrawS nest ops e hq _ _ _ _ _ _) Rl.fail
      · exact Rl.fail
    exact Rl.bif (cg_peek go) (go c)
omit hC in
theorem cg_hdrawE [Known P] (nest : Nest) (ops : Array Oper) {q q' : List Value → Nat → AM} (hq : ∀ t s, R (q t s) (q' t s)) (tmps : List Value) (s : Nat) : R (hdrawE P C nest ops q tmps s) (hdrawE P C nest ops q' tmps s) := by
  unfold hdrawE
  split
  · exact cg_hdraw nest ops hq _ _ _ _
  · exact cg_hdrawS nest ops _ hq _ _ _ _ _ _
theorem cg_hstep [Known P] (nest : Nest) (hk : KR R k k') (hf : FR R fin fin') (a : AF) (cs : List AF) (s : Nat) : R (hstep P C nest k fin a cs s) (hstep P C nest k' fin' a cs s) := by
  unfold hstep
  split
  · split
    · exact hk _ _ _
    · exact Rl.bif (cg_hoper hC hk _ _ _ _) (hk _ _ _)
  · exact cg_hdrawE nest _ (fun t s => hk _ _ _) _ _
  · rename_i h1 h2
    refine le_step hk hf _ _ _ fun fn tmps id ops r ds kind rnd e => ?_
    exact h2 fn tmps id ops r ds kind rnd e
theorem cg_hrun [Known P] : ∀ (n : Nat) (a : AF) (cs : List AF) (K K' : Value → Nat → AM) (s : Nat), FR R K K' → R (hrun P C n a cs K s) (hrun P C n a cs K' s)
  | 0, _, _, _, _, _, _ => Rl.fail
  | n + 1, a, cs, K, K', s, h => by
    show R (hstep P C (fun b q => hrun P C n b [] q) (fun a' cs' s' => hrun P C n a' cs' K s') K a cs s) (hstep P C (fun b q => hrun P C n b [] q) (fun a' cs' s' => hrun P C n a' cs' K' s') K' a cs s)
    exact cg_hstep hC _ (fun a cs s => cg_hrun n a cs K K' s h) h a cs s
theorem cg_hF [Known P] (M f : Nat) (args : List Value) : Cg R (hF P M f C args) := by
  intro k k' s h
  unfold hF
  cases AF.enter P f args .normal with
  | some b => exact cg_hrun hC M b [] k k' s h
  | none => exact Rl.fail
omit hC in
theorem cg_readA : ∀ {l : List Nat} {q q' : List Obj → AM}, (∀ os, R (q os) (q' os)) → R (readA l q) (readA l q')
  | [], q, q', h => h _
  | n :: l, q, q', h => Rl.get fun o => cg_readA fun os => h _
theorem cg_tab [Known P] {N : Nat} {t : FT} (ht : FT.OK P N t) (f : Nat) (args : List Value) : Cg R (t.get f C args) := by
  induction ht with
  | known g h =>
    intro k k' s hk
    show R (Bool.rec (motive := fun _ => AM) .fail (knF C args k s) (Nat.beq g f)) (Bool.rec (motive := fun _ => AM) .fail (knF C args k' s) (Nat.beq g f))
    refine cg_rec Rl.fail ?_ _
    cases args with
    | nil => exact hk _ _
    | cons _ _ => exact Rl.fail
  | known2 g h nd cd =>
    intro k k' s hk
    show R (Bool.rec (motive := fun _ => AM) .fail (knH nd cd C args k s) (Nat.beq g f)) (Bool.rec (motive := fun _ => AM) .fail (knH nd cd C args k' s) (Nat.beq g f))
    refine cg_rec Rl.fail ?_ _
    unfold knH
    exact Rl.bif (cg_readA fun os => Rl.bif (hk _ _) Rl.fail) Rl.fail
  | nil => exact fun k k' s hk => Rl.fail
  | leaf g F h =>
    intro k k' s hk
    show R (Bool.rec (motive := fun _ => AM) .fail (F C args k s) (Nat.beq g f)) (Bool.rec (motive := fun _ => AM) .fail (F C args k' s) (Nat.beq g f))
    rw [h C args k s, h C args k' s]
    exact cg_rec Rl.fail (cg_xfun hC N g args k k' s hk) _
  | leafY g F h =>
    intro k k' s hk
    show R (Bool.rec (motive := fun _ => AM) .fail (F C args k s) (Nat.beq g f)) (Bool.rec (motive := fun _ => AM) .fail (F C args k' s) (Nat.beq g f))
    rw [h C args k s, h C args k' s]
    exact cg_rec Rl.fail (cg_yfun hC N g args k k' s hk) _
  | slow g M =>
    intro k k' s hk
    show R (Bool.rec (motive := fun _ => AM) .fail (hF P M g C args k s) (Nat.beq g f)) (Bool.rec (motive := fun _ => AM) .fail (hF P M g C args k' s) (Nat.beq g f))
    exact cg_rec Rl.fail (cg_hF hC M g args k k' s hk) _
  | yield =>
    intro k k' s hk
    show R (Bool.rec (motive := fun _ => AM) .fail (yY P N C args k s) (Nat.beq 1000000 f)) (Bool.rec (motive := fun _ => AM) .fail (yY P N C args k' s) (Nat.beq 1000000 f))
    exact cg_rec Rl.fail (cg_yY hC N args k k' s hk) _
  | node m l r _ _ ihl ihr =>
    intro k k' s hk
    show R (Bool.rec (motive := fun _ => AM) (r.get f C args k s) (l.get f C args k s) (Nat.ble f m)) (Bool.rec (motive := fun _ => AM) (r.get f C args k' s) (l.get f C args k' s) (Nat.ble f m))
    exact cg_rec (ihr _ _ _ hk) (ihl _ _ _ hk) _
omit hC in
theorem cg_deep [Known P] {N : Nat} {t : FT} (ht : FT.OK P N t) : ∀ d : Nat, CgC R (deepF (tabF t) d)
  | 0 => fun f args k k' s hk => Rl.fail
  | d + 1 => fun f args k k' s hk => cg_tab (cg_deep ht d) ht f args k k' s hk
end
end Go.Ev.Nt
namespace Go.Ev
open Go Go.RowKit
set_option linter.unusedVariables false
set_option linter.unusedSectionVars false
set_option linter.unusedSimpArgs false
/-- What a term comes to, gone on with. -/
noncomputable def AM.bind (κ : Value → AM) (m : AM) : AM :=
  AM.rec (motive := fun _ => AM) κ (fun n _ ih => .get n ih) (fun n o _ ih => .put n o ih) (fun n o _ ih => .new n o ih) (fun m _ _ ih => .log m ih) .fail m
noncomputable def onK (K : Value → Nat → AM) (u : Value) : AM := match up u with
  | some (v, s) => K v s
  | none => .fail
instance bindRl (κ : Value → AM) : Nt.Rl (fun m m' => m' = m.bind κ) where
  fail := rfl
  get := fun h => by rw [show _ = _ from funext h]; rfl
  put := fun h => by rw [h]; rfl
  new := fun h => by rw [h]; rfl
  log := fun h => by rw [show _ = _ from funext fun v => funext fun ts => funext fun ws => h v ts ws]; rfl
/-- A call is what it comes to alone, gone on with. -/
theorem call_bind {C : CallT} (hC : ∀ κ : Value → AM, Nt.CgC (fun m m' => m' = m.bind κ) C) (f : FuncId) (args : List Value) (K : Value → Nat → AM) (s : Nat) : C f args K s = (C f args (fun v s => .ret (pk v s)) s).bind (onK K) :=
  hC (onK K) f args (fun v s => .ret (pk v s)) K s fun v s => rfl
theorem bind_wp {pw : Nat → Prop} {Z : Value → T → Prop} (κ : Value → AM) (m : AM) : ∀ (h : T) (ts ws : List Nat) (o : Out), m.runL h ts ws = some o → (∀ n ∈ o.ws, pw n) → (κ o.v).wp pw Z o.h → (m.bind κ).wp pw Z h := by
  induction m with
  | ret v => intro h ts ws o e hp hz; rw [AM.runL_ret] at e; obtain rfl := Option.some.inj e; exact hz
  | get n k ih =>
    intro h ts ws o e hp hz
    rw [AM.runL_get] at e
    show (AM.get n fun o => (k o).bind κ).wp pw Z h
    rw [wp_get]
    cases hg : h.get n with
    | none => rw [hg] at e; cases e
    | some x => rw [hg] at e; exact ih _ _ _ _ _ e hp hz
  | put n x k ih =>
    intro h ts ws o e hp hz
    rw [AM.runL_put] at e
    show (AM.put n x (k.bind κ)).wp pw Z h
    rw [wp_put]
    cases hg : h.get n with
    | none => rw [hg] at e; cases e
    | some y => rw [hg] at e; exact ⟨hp n ((AM.mem_ts _ _ _ _ _ e).2.1 n (by simp)), ih _ _ _ _ e hp hz⟩
  | new n x k ih =>
    intro h ts ws o e hp hz
    rw [AM.runL_new] at e
    show (AM.new n x (k.bind κ)).wp pw Z h
    rw [wp_new]
    cases hg : h.get n with
    | some y => rw [hg] at e; cases e
    | none => rw [hg] at e; exact ⟨hp n ((AM.mem_ts _ _ _ _ _ e).2.1 n (by simp)), ih _ _ _ _ e hp hz⟩
  | log m k _ ihk =>
    intro h ts ws o e hp hz
    rw [AM.runL_log] at e
    show (AM.log m fun v ts ws => (k v ts ws).bind κ).wp pw Z h
    rw [wp_log0]
    split at e
    · rename_i v h' ts' ws' hm
      exact ⟨v, h', ts', ws', hm, fun n hn => hp n ((AM.mem_ts _ _ _ _ _ e).2.1 n (by simp [hn])), ihk _ _ _ _ _ _ _ e hp hz⟩
    · cases e
  | fail => intro h ts ws o e; rw [AM.runL_fail] at e; cases e
/-- What was not there, and is or was touched, was written. -/
theorem runL_new (m : AM) : ∀ (h : T) (ts ws : List Nat) (o : Out), m.runL h ts ws = some o → (∀ n x, o.h.get n = some x → (∃ y, h.get n = some y) ∨ n ∈ o.ws) ∧ (∀ n ∈ o.ts, n ∈ ts ∨ (∃ y, h.get n = some y) ∨ n ∈ o.ws) := by
  induction m with
  | ret v => intro h ts ws o e; rw [AM.runL_ret] at e; obtain rfl := Option.some.inj e; exact ⟨fun n x hx => .inl ⟨x, hx⟩, fun n hn => .inl hn⟩
  | get n k ih =>
    intro h ts ws o e; rw [AM.runL_get] at e
    split at e
    · rename_i x hx
      obtain ⟨a, b⟩ := ih _ _ _ _ _ e
      refine ⟨a, fun i hi => ?_⟩
      rcases b i hi with h1 | h1
      · rcases List.mem_cons.1 h1 with rfl | h1
        · exact .inr (.inl ⟨x, hx⟩)
        · exact .inl h1
      · exact .inr h1
    · cases e
  | put n x k ih =>
    intro h ts ws o e; rw [AM.runL_put] at e
    split at e
    · obtain ⟨a, b⟩ := ih _ _ _ _ e
      have hn : n ∈ o.ws := (AM.mem_ts _ _ _ _ _ e).2.1 n (by simp)
      have key : ∀ i, (∃ y, (h.set n x).get i = some y) → (∃ y, h.get i = some y) ∨ i ∈ o.ws := fun i ⟨y, hy⟩ => by
        by_cases hi : n = i
        · subst hi; exact .inr hn
        · rw [get_ne hi] at hy; exact .inl ⟨y, hy⟩
      refine ⟨fun i y hy => (a i y hy).elim (key i) .inr, fun i hi => ?_⟩
      rcases b i hi with h1 | h1 | h1
      · rcases List.mem_cons.1 h1 with rfl | h1
        · exact .inr (.inr hn)
        · exact .inl h1
      · exact .inr (key i h1)
      · exact .inr (.inr h1)
    · cases e
  | new n x k ih =>
    intro h ts ws o e; rw [AM.runL_new] at e
    split at e
    · cases e
    · obtain ⟨a, b⟩ := ih _ _ _ _ e
      have hn : n ∈ o.ws := (AM.mem_ts _ _ _ _ _ e).2.1 n (by simp)
      have key : ∀ i, (∃ y, (h.set n x).get i = some y) → (∃ y, h.get i = some y) ∨ i ∈ o.ws := fun i ⟨y, hy⟩ => by
        by_cases hi : n = i
        · subst hi; exact .inr hn
        · rw [get_ne hi] at hy; exact .inl ⟨y, hy⟩
      refine ⟨fun i y hy => (a i y hy).elim (key i) .inr, fun i hi => ?_⟩
      rcases b i hi with h1 | h1 | h1
      · rcases List.mem_cons.1 h1 with rfl | h1
        · exact .inr (.inr hn)
        · exact .inl h1
      · exact .inr (key i h1)
      · exact .inr (.inr h1)
  | log m k ihm ihk =>
    intro h ts ws o e; rw [AM.runL_log] at e
    split at e
    · rename_i v h' ts' ws' hm
      obtain ⟨a, b⟩ := ihk _ _ _ _ _ _ _ e
      obtain ⟨c, d⟩ := ihm _ _ _ _ hm
      have sub : ∀ i ∈ ws', i ∈ o.ws := fun i hi => (AM.mem_ts _ _ _ _ _ e).2.1 i (by simp [hi])
      have key : ∀ i, (∃ y, h'.get i = some y) → (∃ y, h.get i = some y) ∨ i ∈ o.ws := fun i ⟨y, hy⟩ => (c i y hy).imp id (sub i)
      refine ⟨fun i y hy => (a i y hy).elim (key i) .inr, fun i hi => ?_⟩
      rcases b i hi with h1 | h1 | h1
      · rcases List.mem_append.1 h1 with h1 | h1
        · rcases d i h1 with h2 | h2 | h2
          · cases h2
          · exact .inr (.inl h2)
          · exact .inr (.inr (sub i h2))
        · exact .inl h1
      · exact .inr (key i h1)
      · exact .inr (.inr h1)
    · cases e
  | fail => intro h ts ws o e; rw [AM.runL_fail] at e; cases e
noncomputable def retPk : Value → Nat → AM := fun v s => .ret (pk v s)
/-! ### heaps told in part -/
abbrev Part := List (Nat × Obj)
def Has (h : T) (l : Part) : Prop := ∀ p ∈ l, h.get p.1 = some p.2
noncomputable def mkT (l : Part) : T := List.rec (motive := fun _ => T) .nil (fun p _ t => T.set t p.1 p.2) l
theorem mkT_mem : ∀ {l : Part} {n : Nat} {o : Obj}, (mkT l).get n = some o → (n, o) ∈ l
  | [], n, o, e => by cases e
  | p :: l, n, o, e => by
    have e : ((mkT l).set p.1 p.2).get n = some o := e
    by_cases h : p.1 = n
    · rw [← h, get_eq] at e
      cases e
      exact List.mem_cons.2 (.inl (by rw [← h]))
    · rw [get_ne h] at e
      exact List.mem_cons_of_mem _ (mkT_mem e)
noncomputable def has? (o : Option Obj) : Bool := Option.rec (motive := fun _ => Bool) false (fun _ => true) o
noncomputable def okW (h0 : T) (lo hi : Nat) (ws : List Nat) : Bool := List.rec (motive := fun _ => Bool) true (fun n _ ih => Bool.rec (motive := fun _ => Bool) false ih (Bool.rec (motive := fun _ => Bool) (has? (h0.get n)) (Nat.blt n hi) (Nat.ble lo n))) ws
theorem okW_mem {h0 : T} {lo hi : Nat} : ∀ {ws : List Nat}, okW h0 lo hi ws = true → ∀ n ∈ ws, (lo ≤ n ∧ n < hi) ∨ n < lo ∧ ∃ y, h0.get n = some y
  | [], _, n, hn => by cases hn
  | m :: ws, e, n, hn => by
    have e : Bool.rec (motive := fun _ => Bool) false (okW h0 lo hi ws) (Bool.rec (motive := fun _ => Bool) (has? (h0.get m)) (Nat.blt m hi) (Nat.ble lo m)) = true := e
    have key : okW h0 lo hi ws = true ∧ ((lo ≤ m ∧ m < hi) ∨ m < lo ∧ ∃ y, h0.get m = some y) := by
      cases hb : Nat.ble lo m with
      | true =>
        rw [hb] at e
        cases hc : Nat.blt m hi with
        | true => rw [hc] at e; rw [Nat.ble_eq] at hb; rw [Nat.blt_eq] at hc; exact ⟨e, .inl ⟨hb, hc⟩⟩
        | false => rw [hc] at e; cases e
      | false =>
        rw [hb] at e
        have hlt : m < lo := by rw [← Bool.not_eq_true, Nat.ble_eq] at hb; omega
        cases hg : h0.get m with
        | none => rw [hg] at e; cases e
        | some y => rw [hg] at e; exact ⟨e, .inr ⟨hlt, y, rfl⟩⟩
    rcases List.mem_cons.1 hn with rfl | hn
    · exact key.2
    · exact okW_mem key.1 n hn
noncomputable def gets (h : T) (l : Part) : List (Option Obj) := List.rec (motive := fun _ => List (Option Obj)) [] (fun p _ ih => h.get p.1 :: ih) l
noncomputable def wants (l : Part) : List (Option Obj) := List.rec (motive := fun _ => List (Option Obj)) [] (fun p _ ih => some p.2 :: ih) l
theorem gets_has {h : T} : ∀ {l : Part}, gets h l = wants l → Has h l
  | [], _, p, hp => by cases hp
  | q :: l, e, p, hp => by
    have e : h.get q.1 :: gets h l = some q.2 :: wants l := e
    injection e with e1 e2
    rcases List.mem_cons.1 hp with rfl | hp
    · exact e1
    · exact gets_has e2 p hp
noncomputable def look (h0 : T) (lo hi : Nat) (l1 : Part) (r : Option Out) : Option (Value × List (Option Obj)) :=
  Option.rec (motive := fun _ => Option (Value × List (Option Obj))) none (fun o => Out.rec (motive := fun _ => Option (Value × List (Option Obj))) (fun v h _ ws => Bool.rec (motive := fun _ => Option (Value × List (Option Obj))) none (some (v, gets h l1)) (okW h0 lo hi ws)) o) r
def Fresh (h : T) (s : Nat) : Prop := ∀ n, s ≤ n → h.get n = none
def under (l : Part) (s : Nat) : Bool := l.all fun p => Nat.blt p.1 s
/-- A piece of a closed run. -/
theorem piece {m : AM} {s0 s1 : Nat} {l0 l1 : Part} {v : Value} (e : look (mkT l0) s0 s1 l1 (m.runL (mkT l0) [] []) = some (pk v s1, wants l1)) (hs : s0 ≤ s1) (hu : under l0 s0 = true) {h : T} (hh : Has h l0) (hf : Fresh h s0) :
    ∃ h' ts ws, m.runL h [] [] = some ⟨pk v s1, h', ts, ws⟩ ∧ Has h' l1 ∧ Fresh h' s1 ∧ (∀ n, n < s0 → (∀ p ∈ l0, p.1 ≠ n) → h'.get n = h.get n) ∧ (∀ n ∈ ws, (s0 ≤ n ∧ n < s1) ∨ ∃ p ∈ l0, p.1 = n) := by
  have hlt : ∀ p ∈ l0, p.1 < s0 := fun p hp => by
    have := List.all_eq_true.1 hu p hp
    rwa [Nat.blt_eq] at this
  cases hr : m.runL (mkT l0) [] [] with
  | none => rw [hr] at e; cases e
  | some o =>
    rw [hr] at e
    obtain ⟨u, h1, ts, ws⟩ := o
    have e : Bool.rec (motive := fun _ => Option (Value × List (Option Obj))) none (some (u, gets h1 l1)) (okW (mkT l0) s0 s1 ws) = some (pk v s1, wants l1) := e
    cases hw : okW (mkT l0) s0 s1 ws with
    | false => rw [hw] at e; cases e
    | true =>
      rw [hw] at e
      have e : some (u, gets h1 l1) = some (pk v s1, wants l1) := e
      injection e with e
      injection e with e1 e2
      subst e1
      have hok := okW_mem hw
      obtain ⟨n1, n2⟩ := runL_new m _ _ _ _ hr
      obtain ⟨m1, m2, m3⟩ := AM.mem_ts m _ _ _ _ hr
      have agree : ∀ n ∈ ts, h.get n = (mkT l0).get n := fun n hn => by
        cases hg : (mkT l0).get n with
        | some o => exact hh _ (mkT_mem hg)
        | none =>
          rcases n2 n hn with h2 | ⟨y, h2⟩ | h2
          · cases h2
          · rw [hg] at h2; cases h2
          · rcases hok n h2 with ⟨h3, _⟩ | ⟨_, y, h3⟩
            · exact hf n h3
            · rw [hg] at h3; cases h3
      obtain ⟨o', r', v', t', w', k1, k2⟩ := AM.runL_local m _ h _ _ _ hr agree
      obtain ⟨u', h', ts', ws'⟩ := o'
      simp only at v' t' w' k1 k2
      subst v' t' w'
      refine ⟨h', _, _, r', fun p hp => ?_, fun n hn => ?_, fun n hn hne => ?_, fun n hn => ?_⟩
      · have hg := gets_has e2 p hp
        by_cases hm : p.1 ∈ ts'
        · rw [k1 _ hm]; exact hg
        · obtain ⟨q1, q2⟩ := k2 p.1 (fun hw => absurd ((m3 _ hw).elim (fun h => by cases h) id) hm) hm
          rw [q2]
          rw [hg] at q1
          exact hh _ (mkT_mem q1.symm)
      · by_cases hm : n ∈ ts'
        · exfalso
          rcases n2 n hm with h2 | ⟨y, h2⟩ | h2
          · cases h2
          · have := hlt _ (mkT_mem h2); simp only at this; omega
          · rcases hok n h2 with ⟨_, h3⟩ | ⟨h3, _⟩
            · omega
            · omega
        · obtain ⟨-, q2⟩ := k2 n (fun hw => absurd ((m3 _ hw).elim (fun h => by cases h) id) hm) hm
          rw [q2]; exact hf n (by omega)
      · by_cases hm : n ∈ ts'
        · exfalso
          rcases n2 n hm with h2 | ⟨y, h2⟩ | h2
          · cases h2
          · exact hne _ (mkT_mem h2) rfl
          · rcases hok n h2 with ⟨h3, _⟩ | ⟨_, y, h3⟩
            · omega
            · exact hne _ (mkT_mem h3) rfl
        · exact (k2 n (fun hw => absurd ((m3 _ hw).elim (fun h => by cases h) id) hm) hm).2
      · rcases hok n hn with h2 | ⟨_, y, h2⟩
        · exact .inl h2
        · exact .inr ⟨_, mkT_mem h2, rfl⟩
section
variable {C : CallT} (hC : ∀ κ : Value → AM, Nt.CgC (fun m m' => m' = m.bind κ) C) {f : FuncId} {args : List Value} {s0 s1 : Nat} {l0 l1 : Part} {v : Value}
  (e : look (mkT l0) s0 s1 l1 ((C f args (fun v s => .ret (pk v s)) s0).runL (mkT l0) [] []) = some (pk v s1, wants l1)) (hs : s0 ≤ s1) (hu : under l0 s0 = true)
  {h : T} (hh : Has h l0) (hf : Fresh h s0)
include e hs hu hh hf
/-- A call in a closed run. -/
theorem call_go (hC : ∀ κ : Value → AM, Nt.CgC (fun m m' => m' = m.bind κ) C) {K : Value → Nat → AM} {Z : Value → T → Prop} (hk : ∀ h', Has h' l1 → Fresh h' s1 → (∀ n, n < s0 → (∀ p ∈ l0, p.1 ≠ n) → h'.get n = h.get n) → (K v s1).wp (fun _ => True) Z h') : (C f args K s0).wp (fun _ => True) Z h := by
  obtain ⟨h', ts, ws, r, a, b, c, d⟩ := piece e hs hu hh hf
  rw [call_bind hC]
  refine bind_wp _ _ _ _ _ _ r (fun _ _ => trivial) ?_
  show (onK K (pk v s1)).wp _ _ _
  unfold onK
  rw [up_pk]
  exact hk h' a b c
/-- A call, logged. -/
theorem call_goL {j : LogT} {Z : Value → T → Prop} (hk : ∀ h' ts ws, Has h' l1 → Fresh h' s1 → (∀ n, n < s0 → (∀ p ∈ l0, p.1 ≠ n) → h'.get n = h.get n) → (∀ n ∈ ws, (s0 ≤ n ∧ n < s1) ∨ ∃ p ∈ l0, p.1 = n) → (j v ts ws s1).wp (fun _ => True) Z h') : (AM.log (C f args (fun v s => .ret (pk v s)) s0) (logU j)).wp (fun _ => True) Z h := by
  obtain ⟨h', ts, ws, r, a, b, c, d⟩ := piece e hs hu hh hf
  rw [log_run r fun _ _ => trivial]
  exact hk h' ts ws a b c d
end
end Go.Ev
namespace Go.Ev
open Go Go.RowKit
set_option linter.unusedVariables false
set_option linter.unusedSectionVars false
set_option linter.unusedSimpArgs false
noncomputable def nthM (l : Part) (n : Nat) : Option (Nat × Obj) := List.rec (motive := fun _ => Nat → Option (Nat × Obj)) (fun _ => none) (fun p _ ih n => Nat.rec (motive := fun _ => Option (Nat × Obj)) (some p) (fun m _ => ih m) n) l n
theorem nthM_mem : ∀ {l : Part} {n : Nat} {p : Nat × Obj}, nthM l n = some p → p ∈ l
  | [], n, p, e => by cases e
  | q :: l, 0, p, e => by
    have e : some q = some p := e
    cases e; exact List.mem_cons_self ..
  | q :: l, n + 1, p, e => List.mem_cons_of_mem _ (nthM_mem (l := l) e)
noncomputable def pickM (l : Part) (ix : List Nat) : List (Option (Nat × Obj)) := List.rec (motive := fun _ => List (Option (Nat × Obj))) [] (fun i _ ih => nthM l i :: ih) ix
noncomputable def somes (l : Part) : List (Option (Nat × Obj)) := List.rec (motive := fun _ => List (Option (Nat × Obj))) [] (fun p _ ih => some p :: ih) l
theorem pickM_mem {l : Part} : ∀ {ix : List Nat} {m : Part}, pickM l ix = somes m → ∀ p ∈ m, p ∈ l
  | _, [], _, p, hp => by cases hp
  | [], q :: m, e, p, hp => by cases e
  | i :: ix, q :: m, e, p, hp => by
    have e : nthM l i :: pickM l ix = some q :: somes m := e
    injection e with e1 e2
    rcases List.mem_cons.1 hp with rfl | hp
    · exact nthM_mem e1
    · exact pickM_mem e2 p hp
/-- Part of what is known. -/
theorem has_pick {h : T} {l m : Part} (H : Has h l) (ix : List Nat) (e : pickM l ix = somes m) : Has h m := fun p hp => H p (pickM_mem e p hp)
noncomputable def inM (l : Part) (n : Nat) : Bool := List.rec (motive := fun _ => Bool) false (fun p _ ih => Bool.rec (motive := fun _ => Bool) ih true (Nat.beq p.1 n)) l
theorem inM_no : ∀ {l : Part} {n : Nat}, inM l n = false → ∀ p ∈ l, p.1 ≠ n
  | [], _, _, p, hp => by cases hp
  | q :: l, n, e, p, hp => by
    have e : Bool.rec (motive := fun _ => Bool) (inM l n) true (Nat.beq q.1 n) = false := e
    cases hb : Nat.beq q.1 n with
    | true => rw [hb] at e; cases e
    | false =>
      rw [hb] at e
      rcases List.mem_cons.1 hp with rfl | hp
      · exact Nat.ne_of_beq_eq_false hb
      · exact inM_no e p hp
noncomputable def restM (l0 : Part) (l : Part) : Part := List.rec (motive := fun _ => Part) [] (fun p _ ih => Bool.rec (motive := fun _ => Part) (p :: ih) ih (inM l0 p.1)) l
theorem restM_mem {l0 : Part} : ∀ {l : Part} {p : Nat × Obj}, p ∈ restM l0 l → p ∈ l ∧ inM l0 p.1 = false
  | [], p, hp => by cases hp
  | q :: l, p, hp => by
    have hp : p ∈ Bool.rec (motive := fun _ => Part) (q :: restM l0 l) (restM l0 l) (inM l0 q.1) := hp
    cases hb : inM l0 q.1 with
    | true => rw [hb] at hp; exact ⟨List.mem_cons_of_mem _ (restM_mem hp).1, (restM_mem hp).2⟩
    | false =>
      rw [hb] at hp
      rcases List.mem_cons.1 hp with rfl | hp
      · exact ⟨List.mem_cons_self .., hb⟩
      · exact ⟨List.mem_cons_of_mem _ (restM_mem hp).1, (restM_mem hp).2⟩
noncomputable def catM (a b : Part) : Part := List.rec (motive := fun _ => Part) b (fun p _ ih => p :: ih) a
theorem catM_mem : ∀ {a b : Part} {p : Nat × Obj}, p ∈ catM a b → p ∈ a ∨ p ∈ b
  | [], _, _, hp => .inr hp
  | q :: a, b, p, hp => by
    rcases List.mem_cons.1 (show p ∈ q :: catM a b from hp) with rfl | hp
    · exact .inl (List.mem_cons_self ..)
    · exact (catM_mem hp).imp (List.mem_cons_of_mem _) id
/-- What is known behind a call. -/
theorem has_next {h h' : T} {M l0 l1 : Part} {s0 : Nat} (H : Has h M) (F : Fresh h s0) (H' : Has h' l1) (K' : ∀ n, n < s0 → (∀ p ∈ l0, p.1 ≠ n) → h'.get n = h.get n) : Has h' (catM l1 (restM l0 M)) := fun p hp => by
  rcases catM_mem hp with hp | hp
  · exact H' p hp
  · obtain ⟨h1, h2⟩ := restM_mem hp
    have h3 := H p h1
    have hlt : p.1 < s0 := by
      rcases Nat.lt_or_ge p.1 s0 with h4 | h4
      · exact h4
      · rw [F _ h4] at h3; cases h3
    rw [K' p.1 hlt (inM_no h2)]; exact h3
noncomputable def lookM (n : Nat) (l : Part) : Option Obj := List.rec (motive := fun _ => Option Obj) none (fun p _ ih => Bool.rec (motive := fun _ => Option Obj) ih (some p.2) (Nat.beq p.1 n)) l
theorem has_at {h : T} {n : Nat} {o : Obj} : ∀ {M : Part}, Has h M → lookM n M = some o → h.get n = some o
  | [], _, e => by cases e
  | q :: l, H, e => by
    have e : Bool.rec (motive := fun _ => Option Obj) (lookM n l) (some q.2) (Nat.beq q.1 n) = some o := e
    cases hb : Nat.beq q.1 n with
    | true =>
      rw [hb] at e
      have := H q (List.mem_cons_self ..)
      rw [← Nat.eq_of_beq_eq_true hb, this]; exact e
    | false => rw [hb] at e; exact has_at (fun p hp => H p (List.mem_cons_of_mem _ hp)) e
section
variable {h : T} {M : Part} {s : Nat} (H : Has h M) (F : Fresh h s) {Z : Value → T → Prop}
include H F
theorem m_new {o : Obj} {k : Nat → Nat → AM} (hk : ∀ h', Has h' ((s, o) :: M) → Fresh h' (s + 1) → (k s (s + 1)).wp (fun _ => True) Z h') : (anew o k s).wp (fun _ => True) Z h := by
  rw [wp_anew, F s (Nat.le_refl _)]
  refine ⟨trivial, hk _ (fun p hp => ?_) fun n hn => by rw [get_ne (by omega)]; exact F n (by omega)⟩
  rcases List.mem_cons.1 hp with rfl | hp
  · exact get_eq
  · have := H p hp
    rw [get_ne (fun e => by rw [← e, F s (Nat.le_refl _)] at this; cases this)]; exact this
theorem m_box {t : TypeId} {v : Value} {c : Array Value} (hv : v.cells = c) {k : Value → Nat → AM} (hk : ∀ h', Has h' ((s, .cells c t (0, 0)) :: M) → Fresh h' (s + 1) → (k (.pointer (some ⟨s, 0, none⟩)) (s + 1)).wp (fun _ => True) Z h') : (abox t v k s).wp (fun _ => True) Z h := by
  subst hv
  exact m_new (k := fun b => k (.pointer (some ⟨b, 0, none⟩))) H F hk
theorem m_put {n off : Nat} {vs cs : List Value} {t : TypeId} {f : Nat} {k : Unit → Nat → AM} (hl : lookM n M = some (.cells ⟨cs⟩ t (f, 0))) (hc : off + vs.length ≤ cs.length) (hv : vs.all Value.oneCell' = true)
    (hk : ∀ h', Has h' ((n, .cells ⟨overL cs off vs⟩ t (f, 0)) :: restM [(n, .cells ⟨[]⟩ 0 (0, 0))] M) → Fresh h' s → (k () s).wp (fun _ => True) Z h') : (aput n off vs k s).wp (fun _ => True) Z h := by
  have hb := has_at H hl
  have hns : n < s := by
    rcases Nat.lt_or_ge n s with h4 | h4
    · exact h4
    · rw [F _ h4] at hb; cases hb
  refine wp_putB (g := 0) hb hns trivial F hc hv fun h' h1 h2 h3 => hk h' (fun p hp => ?_) h3
  rcases List.mem_cons.1 hp with rfl | hp
  · exact h1
  · obtain ⟨h5, h6⟩ := restM_mem hp
    have h7 : n ≠ p.1 := inM_no h6 _ (List.mem_cons_self ..)
    rw [h2 _ (Ne.symm h7)]; exact H p h5
end
section
variable {C : CallT} {f : FuncId} {args : List Value} {s0 s1 : Nat} {l0 l1 M : Part} {v : Value}
  (e : look (mkT l0) s0 s1 l1 ((C f args (fun v s => .ret (pk v s)) s0).runL (mkT l0) [] []) = some (pk v s1, wants l1)) (hs : Nat.ble s0 s1 = true) (hu : under l0 s0 = true)
  {h : T} (H : Has h M) (F : Fresh h s0) (ix : List Nat) (hi : pickM M ix = somes l0) (hC : ∀ κ : Value → AM, Nt.CgC (fun m m' => m' = m.bind κ) C)
include e hs hu H F hi hC
/-- A piece, gone through. -/
theorem m_call {K : Value → Nat → AM} {Z : Value → T → Prop} (hk : ∀ h', Has h' (catM l1 (restM l0 M)) → Fresh h' s1 → (K v s1).wp (fun _ => True) Z h') : (C f args K s0).wp (fun _ => True) Z h :=
  call_go e (Nat.le_of_ble_eq_true hs) hu (has_pick H ix hi) F hC fun h' a b c => hk h' (has_next H F a c) b
end
/-! ### all that is left, at once -/
theorem bind_ret (m : AM) : m.bind .ret = m := by
  induction m with
  | ret v => rfl
  | get n k ih => show AM.get n (fun o => (k o).bind .ret) = _; rw [show (fun o => (k o).bind .ret) = k from funext ih]
  | put n x k ih => show AM.put n x (k.bind .ret) = _; rw [ih]
  | new n x k ih => show AM.new n x (k.bind .ret) = _; rw [ih]
  | log m k _ ihk => show AM.log m (fun v ts ws => (k v ts ws).bind .ret) = _; rw [show (fun v ts ws => (k v ts ws).bind .ret) = k from funext fun v => funext fun ts => funext fun ws => ihk v ts ws]
  | fail => rfl
noncomputable def isTrue : Value → Bool
  | .bool b => b
  | _ => false
noncomputable def restOk (h0 : T) (lo : Nat) (r : Option Out) : Bool :=
  Option.rec (motive := fun _ => Bool) false (fun o => Out.rec (motive := fun _ => Bool) (fun v _ _ ws => Bool.rec (motive := fun _ => Bool) false (okW h0 lo 1000000000000 ws) (isTrue v)) o) r
theorem m_rest {m : AM} {h : T} {M : Part} {s : Nat} (H : Has h M) (F : Fresh h s) (e : restOk (mkT M) s (m.runL (mkT M) [] []) = true) : m.wp (fun _ => True) (fun v _ => v = .bool true) h := by
  cases hr : m.runL (mkT M) [] [] with
  | none => rw [hr] at e; cases e
  | some o =>
    rw [hr] at e
    obtain ⟨u, h1, ts, ws⟩ := o
    have e : Bool.rec (motive := fun _ => Bool) false (okW (mkT M) s 1000000000000 ws) (isTrue u) = true := e
    cases hv : isTrue u with
    | false => rw [hv] at e; cases e
    | true =>
      rw [hv] at e
      have hu : u = .bool true := by
        cases u <;> first | cases hv; done | skip
        rename_i b
        cases b
        · cases hv
        · rfl
      subst hu
      have hok := okW_mem (show okW (mkT M) s 1000000000000 ws = true from e)
      obtain ⟨n1, n2⟩ := runL_new m _ _ _ _ hr
      have agree : ∀ n ∈ ts, h.get n = (mkT M).get n := fun n hn => by
        cases hg : (mkT M).get n with
        | some o => exact H _ (mkT_mem hg)
        | none =>
          rcases n2 n hn with h2 | ⟨y, h2⟩ | h2
          · cases h2
          · rw [hg] at h2; cases h2
          · rcases hok n h2 with ⟨h3, _⟩ | ⟨_, y, h3⟩
            · exact F n h3
            · rw [hg] at h3; cases h3
      obtain ⟨o', r', v', t', w', k1, k2⟩ := AM.runL_local m _ h _ _ _ hr agree
      rw [← bind_ret m]
      exact bind_wp _ _ _ _ _ _ r' (fun _ _ => trivial) (by rw [v']; rfl)
end Go.Ev

/- Functions with loops over functions as terms over a heap of names: the terms. No condition. -/
import Derived.Test.YtpfnoffadfahmaaGreatXG
namespace Go.Ev
open Go Go.RowKit
set_option linter.unusedVariables false
set_option linter.unusedSimpArgs false

abbrev KY := Ex → List Value → List Nat → Nat → AM
noncomputable def noRange : Code → Bool
  | .seq a b | .cond _ a b => noRange a && noRange b
  | .block _ a | .loop a | .scope a => noRange a
  | .rangeFunc .. => false
  | _ => true
def coll (b : Nat) : Deferred := { target := .collected b, args := #[] }
noncomputable abbrev seqY (f : List Value → List Nat → Nat → AM) (K : KY) : KY := fun ex E D s =>
  Ex.rec (motive := fun _ => AM) (f E D s) (fun i => K (.brk i) E D s) (K .ret E D s) ex
noncomputable abbrev blockY (id : Nat) (K : KY) : KY := fun ex E D s =>
  Ex.rec (motive := fun _ => AM) (K .fall E D s) (fun i => Bool.rec (motive := fun _ => AM) (K (.brk i) E D s) (K .fall E D s) (Nat.beq i id)) (K .ret E D s) ex

/-- Behind the iterator: what its rounds have left. -/
noncomputable def yend (l : Nat) (Kf : Nat → AM) (Kb : Nat → Nat → AM) (Kr : Nat → AM) (s : Nat) : AM := .get l fun
  | .loop q => match q.state with
    | .busy => .fail
    | _ => .put l (.loop { q with state := .exhausted }) (match q.pending with
      | none => Kf s
      | some .ret => Kr s
      | some (.exit id) => Kb id s
      | _ => .fail)
  | _ => .fail
noncomputable def yiter (P : Program) (C : CallT) (v : Value) (l : Nat) (k : Nat → AM) (s : Nat) : AM := match v with
  | .func g first cap => ainvoke P { target := .fn g cap, args := ⟨first.toList ++ [.func (.yield l) #[] #[]]⟩ } (fun nx s => match nx with
    | .enter f args => Bool.rec (motive := fun _ => AM) (List.rec (motive := fun _ => AM) .fail (fun _ _ _ => C f args.toList (fun _ s => k s) s) args.toList) .fail (Nat.beq f 1000000)
    | _ => .fail) s
  | _ => .fail
/-- A loop over a function: what is made, the calls, what is behind. -/
noncomputable def yloopN (P : Program) (C : CallT) (fn : FuncId) (v : Value) (params : Array Tmp) (as body : Code) (E : List Value) (Kf : Nat → Nat → AM) (Kb : Nat → Nat → Nat → AM) (Kr : Nat → Nat → AM) (s : Nat) : AM :=
  .new s (.deferred (some [])) (.new (s + 1) (.loop { state := .ready, pending := none, fn := fn, tmps := ⟨E⟩, params, assign := as, body, defers := s })
    (yiter P C v (s + 1) (yend (s + 1) (Kf s) (Kb s) (Kr s)) (s + 2)))
noncomputable def yloopR (P : Program) (C : CallT) (fn : FuncId) (l : Nat) (v : Value) (params : Array Tmp) (as body : Code) (E : List Value) (Kf : Nat → AM) (Kb : Nat → Nat → AM) (Kr : Nat → AM) (s : Nat) : AM :=
  .get l fun
    | .loop q => .new s (.loop { state := .ready, pending := none, fn := fn, tmps := ⟨E⟩, params, assign := as, body, defers := q.defers }) (yiter P C v s (yend s Kf Kb Kr) (s + 1))
    | _ => .fail
noncomputable abbrev yrange (P : Program) (C : CallT) (fn : FuncId) (rnd : Option Nat) (f : Operand) (params : Array Tmp) (as body : Code) (E : List Value) (D : List Nat) (K : KY) (s : Nat) : AM :=
  Bool.rec (motive := fun _ => AM) .fail (Option.rec (motive := fun _ => AM)
    (yloopN P C fn (aev E f) params as body E (fun n s => K .fall E (n :: D) s) (fun n i s => K (.brk i) E (n :: D) s) (fun n s => K .ret E (n :: D) s) s)
    (fun l => yloopR P C fn l (aev E f) params as body E (fun s => K .fall E D s) (fun i s => K (.brk i) E D s) (fun s => K .ret E D s) s) rnd) (okOperand f && Nat.ble E.length 4096)
noncomputable abbrev yseq (b : Code) (wa : Nat) (j : Bool) (fa fb : Nat → List Value → List Nat → KY → Nat → AM) (lv : Nat) (E : List Value) (D : List Nat) (K : KY) (s : Nat) : AM :=
  Bool.rec (motive := fun _ => AM) (fa (live b lv ||| lv) E D (seqY (fun E' D' => fb lv E' D' K) K) s)
    (bindJ (slots E.length (wa &&& live b lv)).length (fun D => cur (slots E.length (wa &&& live b lv)).length fun vals => forceL (setMany E (slots E.length (wa &&& live b lv)) vals) (fun E' => fb lv E' D K))
      (fun j => fa (live b lv ||| lv) E D (seqY (fun E' D' => app (slots E.length (wa &&& live b lv)).length (j D') (getMany E' (slots E.length (wa &&& live b lv)))) K)) s) j
noncomputable abbrev yloop (N : Nat) (m : Nat) (f : List Value → List Nat → KY → Nat → AM) (E : List Value) (D : List Nat) (K : KY) (s : Nat) : AM :=
  app (slots E.length m).length (loopJ N (slots E.length m).length (fun _ => cur (slots E.length m).length fun _ _ => .fail) (fun ih D => cur (slots E.length m).length fun vals => forceL (setMany E (slots E.length m) vals) fun E0 => f E0 D (seqY (fun E' D' => app (slots E.length m).length (ih D') (getMany E' (slots E.length m))) K)) D) (getMany E (slots E.length m)) s
noncomputable abbrev ycode (P : Program) (C : CallT) (N : Nat) (fn : FuncId) (rnd : Option Nat) (c : Code) : Nat → List Value → List Nat → KY → Nat → AM :=
  Code.rec (motive := fun _ => Nat → List Value → List Nat → KY → Nat → AM)
    (fun _ E D K s => K .fall E D s)
    (fun id ops draw lv E D K s => xcode P C N (.region id ops draw) lv E (fun ex E s => K ex E D s) s)
    (fun a b fa fb lv E D K s => Bool.rec (motive := fun _ => AM) (yseq b (wr a) (multi a) fa fb lv E D K s) (xcode P C N (.seq a b) lv E (fun ex E s => K ex E D s) s) (noRange a && noRange b))
    (fun c a b fa fb lv E D K s => Bool.rec (motive := fun _ => AM) .fail (condX (aev E c) (fa lv E D K s) (fb lv E D K s)) (okOperand c))
    (fun id _ fa lv E D K s => fa lv E D (blockY id K) s)
    (fun a fa lv E D K s => Bool.rec (motive := fun _ => AM) (yloop N (wr a &&& live a lv) (fa (live a lv ||| lv)) E D K s) (xcode P C N (.loop a) lv E (fun ex E s => K ex E D s) s) (noRange a))
    (fun f params as body _ _ lv E D K s => yrange P C fn rnd f params as body E D K s)
    (fun id _ E D K s => K (.brk id) E D s)
    (fun _ fa lv E D K s => fa lv E D K s)
    (fun _ _ E D K s => K .fall E D s)
    (fun _ _ _ _ _ _ => .fail)
    (fun _ E D K s => K .ret E D s)
    (fun _ _ _ _ _ _ => .fail) c
noncomputable def yunw (D : List Nat) (k : Nat → AM) : Nat → AM :=
  List.rec (motive := fun _ => Nat → AM) k (fun b _ ih s => .get b fun
    | .deferred (some []) => .put b (.deferred none) (ih s)
    | _ => .fail) D
noncomputable def MANY : Nat := 1000000
noncomputable def yret (D : List Nat) (k : Nat → AM) (s : Nat) : AM := Bool.rec (motive := fun _ => AM) .fail (yunw D k s) (Nat.ble D.length MANY)
noncomputable abbrev retY (P : Program) (rs : List ResultVar) (K : Value → Nat → AM) : KY := fun ex E D s =>
  Ex.rec (motive := fun _ => AM) (yret D (fun s => aresults P E (fun vs s => K (resultOf vs) s) rs s) s) (fun _ => .fail) (yret D (fun s => aresults P E (fun vs s => K (resultOf vs) s) rs s) s) ex
noncomputable abbrev ybody (P : Program) (C : CallT) (N : Nat) (fn : FuncId) (c : Code) (np nt : Nat) (rs : List ResultVar) (args : List Value) (K : Value → Nat → AM) (s : Nat) : AM :=
  app np (cur np fun vals => forceL (vals ++ List.replicate (nt - np) undef) fun E => ycode P C N fn none c (rdRes rs) E [] (retY P rs K)) args s
noncomputable abbrev yfun (P : Program) (N : Nat) (C : CallT) : CallT := fun f args K s =>
  Option.rec (motive := fun _ => AM) .fail (fun fn => Option.rec (motive := fun _ => AM) .fail (fun c => ybody P C N f c (fn.params.size + fn.nfree) fn.ntmps fn.results.toList args K s) fn.body) P.funcs[f]?

/-! ### rounds -/
noncomputable def BIG : Nat := 10 ^ 100
noncomputable def yleave (l : Nat) (K : Value → Nat → AM) : KY := fun ex _ _ s => .get l fun
  | .loop r => Ex.rec (motive := fun _ => AM) (.put l (.loop { r with state := .ready, pending := none }) (K (.bool true) s))
      (fun id => .put l (.loop { r with state := .done, pending := some (.exit id) }) (K (.bool false) s)) (.put l (.loop { r with state := .done, pending := some .ret }) (K (.bool false) s)) ex
  | _ => .fail
noncomputable def yready (l : Nat) (k : Nat → AM) (s : Nat) : AM := .get l fun
  | .loop q => match q.state with
    | .ready => .put l (.loop { q with state := .busy }) (k s)
    | _ => .fail
  | _ => .fail
noncomputable abbrev yround (P : Program) (N : Nat) (C : CallT) (l : Nat) (f : FuncId) (E : List Value) (as body : Code) (K : Value → Nat → AM) (s : Nat) : AM :=
  Bool.rec (motive := fun _ => AM) .fail
    (ycode P C N f (some l) as (live body 0) E [] (fun ex E D s => Ex.rec (motive := fun _ => AM) (yready l (fun s => ycode P C N f (some l) body 0 E D (yleave l K) s) s) (fun _ => .fail) .fail ex) s)
    (Nat.ble (cost N as + cost N body + 4) BIG)
noncomputable def yY (P : Program) (N : Nat) (C : CallT) (args : List Value) (K : Value → Nat → AM) (s : Nat) : AM := match args with
  | .int .i64 (.ofNat l) :: args => .get l fun
    | .loop r => Bool.rec (motive := fun _ => AM) .fail (yround P N C l r.fn (aparams r.params.toList args r.tmps.toList) r.assign r.body K s) (Nat.beq args.length r.params.size)
    | _ => .fail
  | _ => .fail
end Go.Ev

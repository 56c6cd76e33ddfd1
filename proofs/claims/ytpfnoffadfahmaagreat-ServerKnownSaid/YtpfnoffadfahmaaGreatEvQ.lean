/- The machine over a heap of names: its step, and that the model's machine goes along. No condition. -/
import Derived.Test.YtpfnoffadfahmaaGreatEvP
namespace Go.Ev
set_option linter.unusedVariables false
set_option linter.unusedSimpArgs false
open Go Go.RowKit

/-! ### the step -/
noncomputable def aleave (k : AF → List AF → Nat → AM) (fin : Value → Nat → AM) (a : AF) (cs : List AF) (jump : Option Code) (s : Nat) : AM :=
  match a.rnd with
  | none => match jump with
    | none | some .ret => k { a with mode := .returning } cs s
    | _ => .fail
  | some l => .get l fun
    | .loop r => .put l (.loop { r with state := if jump.isNone then .ready else .done, pending := jump }) (match cs, a.kind with
      | c :: rest, .normal => k (c.finish (.bool jump.isNone)) rest s
      | [], .normal => fin (.bool jump.isNone) s
      | _, _ => .fail)
    | _ => .fail

noncomputable def aresults (P : Program) (tmps : List Value) (k : List Value → Nat → AM) : List ResultVar → Nat → AM
  | [], s => k [] s
  | .tmp t :: l, s => aresults P tmps (fun vs => k ((nth tmps t).getD undef :: vs)) l s
  | .cell a t :: l, s => match aaddr ((nth tmps a).getD undef) with
    | some (n, o) => aloadVar P t n o (fun v => aresults P tmps (fun vs => k (v :: vs)) l) s
    | none => .fail
noncomputable def resultOf : List Value → Value
  | [v] => v
  | vs => .tuple ⟨vs⟩

noncomputable def AF.settle (c : AF) : AF :=
  match c.mode with
  | .panicking ({ recovered := true, .. } :: older) => match older.dropWhile (!·.goexit) with
    | [] => { c with mode := .returning }
    | rest => { c with mode := .panicking rest }
  | _ => c

noncomputable def aunwind (P : Program) (k : AF → List AF → Nat → AM) (fin : Value → Nat → AM) (a : AF) (cs : List AF) (s : Nat) : AM :=
  match a.defers with
  | d :: ds => match d.target with
    | .collected b => .get b fun
      | .deferred (some l) => .put b (.deferred none) (k { a with defers := l ++ ds } cs s)
      | _ => .fail
    | .fn _ _ => ainvoke P d (fun nx s => match nx with
      | .enter f args => match AF.enter P f args.toList .deferred with
        | some b => k b ({ a with defers := ds } :: cs) s
        | none => .fail
      | _ => .fail) s
    | _ => .fail
  | [] => match a.mode with
    | .panicking chain => match cs, P.funcs[a.fn]? with
      | c :: rest, some _ => k (c.raise chain) rest s
      | _, _ => .fail
    | .returning => match P.funcs[a.fn]? with
      | some fn => aresults P a.tmps (fun vs s => match cs, a.kind with
        | [], .normal => fin (resultOf vs) s
        | c :: rest, .normal => k (c.finish (resultOf vs)) rest s
        | c :: rest, .deferred => k c.settle rest s
        | _, _ => .fail) fn.results.toList s
      | none => .fail
    | .run => .fail

noncomputable def aapply (P : Program) [Known P] (k : AF → List AF → Nat → AM) (a : AF) (cs : List AF) (nx : Next) (s : Nat) : AM :=
  match nx with
  | .value v => k (a.finish v) cs s
  | .skip => k (a.finish undef) cs s
  | .enter f args => askK P f args.toList (k (a.finish (.bool true)) cs s) (match AF.enter P f args.toList .normal with
    | some b => k b (a :: cs) s
    | none => .fail)
  | .round l f t as body => k { fn := f, tmps := t.toList, todo := [.code as, .beginRound, .code body], defers := [], mode := .run, kind := .normal, rnd := some l } (a :: cs) s
  | .defer d => match a.rnd with
    | none => k ({ a with defers := d :: a.defers }.finish undef) cs s
    | some _ => .fail
  | .recover => match a.rnd, a.kind, cs with
    | none, .deferred, c :: rest => match c.mode with
      | .panicking ({ v, recovered := false, goexit := false } :: older) => k (a.finish v) ({ c with mode := .panicking ({ v, recovered := true } :: older) } :: rest) s
      | _ => k (a.finish .nilIface) cs s
    | none, .normal, _ => k (a.finish .nilIface) cs s
    | _, _, _ => .fail
  | _ => .fail

noncomputable def aoper (P : Program) [Known P] (k : AF → List AF → Nat → AM) (a : AF) (cs : List AF) (o : Oper) (s : Nat) : AM :=
  bif okOper o && !(isDefer o.op && a.rnd.isSome) then
    match o.op with
    | .panic x => match aev a.tmps x with
      | .iface t v => k (a.raise [{ v := .iface t v, recovered := false }]) cs s
      | _ => .fail
    | _ => aop P (aev a.tmps) o (fun nx s => aapply P k a cs nx s) s
  else .fail

/-- The iterator is called with its round. -/
noncomputable def acallIter (P : Program) (k : AF → List AF → Nat → AM) (a : AF) (cs : List AF) (f : Operand) (l : Nat) (s : Nat) : AM :=
  match aev a.tmps f with
  | .func g first cap => ainvoke P { target := .fn g cap, args := ⟨first.toList ++ [.func (.yield l) #[] #[]]⟩ } (fun nx s => match nx with
    | .enter f args => match AF.enter P f args.toList .normal with
      | some b => k b (a :: cs) s
      | none => .fail
    | _ => .fail) s
  | _ => .fail

noncomputable def arange (P : Program) (k : AF → List AF → Nat → AM) (a : AF) (cs : List AF) (f : Operand) (params : Array Tmp) (assign body : Code) (r : List Item) (s : Nat) : AM :=
  bif okOperand f then
    match a.rnd with
    | none => .new s (.deferred (some [])) (.new (s + 1) (.loop { state := .ready, pending := none, fn := a.fn, tmps := ⟨a.tmps⟩, params, assign, body, defers := s })
        (acallIter P k { a with todo := .inRangeFunc (s + 1) :: r, defers := { target := .collected s, args := #[] } :: a.defers } cs f (s + 1) (s + 2)))
    | some l => .get l fun
      | .loop q => .new s (.loop { state := .ready, pending := none, fn := a.fn, tmps := ⟨a.tmps⟩, params, assign, body, defers := q.defers })
          (acallIter P k { a with todo := .inRangeFunc s :: r } cs f s (s + 1))
      | _ => .fail
  else .fail

noncomputable def abegin (k : AF → List AF → Nat → AM) (a : AF) (cs : List AF) (s : Nat) : AM :=
  match a.rnd with
  | some l => .get l fun
    | .loop q => match q.state with
      | .ready => .put l (.loop { q with state := .busy }) (k (a.finish undef) cs s)
      | _ => .fail
    | _ => .fail
  | none => .fail

noncomputable def aend (k : AF → List AF → Nat → AM) (a : AF) (cs : List AF) (l : Nat) (r : List Item) (s : Nat) : AM :=
  .get l fun
    | .loop q => match q.state with
      | .busy => .fail
      | _ => .put l (.loop { q with state := .exhausted }) (match q.pending with
        | some c => k { a with todo := .code c :: r } cs s
        | none => k { a with todo := r } cs s)
    | _ => .fail

noncomputable def astep (P : Program) [Known P] (nest : Nest) (k : AF → List AF → Nat → AM) (fin : Value → Nat → AM) (a : AF) (cs : List AF) (s : Nat) : AM :=
  match a with
  | ⟨fn, tmps, todo, ds, mode, kind, rnd⟩ =>
  match mode with
  | .run => match todo with
    | [] => aleave k fin ⟨fn, tmps, [], ds, .run, kind, rnd⟩ cs none s
    | .code c :: r => match c with
      | .ret => aleave k fin ⟨fn, tmps, .code .ret :: r, ds, .run, kind, rnd⟩ cs (some .ret) s
      | .skip | .label _ => k ⟨fn, tmps, r, ds, .run, kind, rnd⟩ cs s
      | .seq x y => k ⟨fn, tmps, .code x :: .code y :: r, ds, .run, kind, rnd⟩ cs s
      | .cond c x y => bif okOperand c then
          match aev tmps c with
          | .bool b => k ⟨fn, tmps, .code (bif b then x else y) :: r, ds, .run, kind, rnd⟩ cs s
          | _ => .fail
        else .fail
      | .block id x => k ⟨fn, tmps, .code x :: .inBlock id :: r, ds, .run, kind, rnd⟩ cs s
      | .loop x => k ⟨fn, tmps, .code x :: .inLoop x :: r, ds, .run, kind, rnd⟩ cs s
      | .scope x => k ⟨fn, tmps, .code x :: .inScope x :: r, ds, .run, kind, rnd⟩ cs s
      | .exit id => match exitTo id r with
        | some r' => k ⟨fn, tmps, r', ds, .run, kind, rnd⟩ cs s
        | none => aleave k fin ⟨fn, tmps, .code (.exit id) :: r, ds, .run, kind, rnd⟩ cs (some (.exit id)) s
      | .goto l => match gotoIn l r with
        | some r' => k ⟨fn, tmps, r', ds, .run, kind, rnd⟩ cs s
        | none => aleave k fin ⟨fn, tmps, .code (.goto l) :: r, ds, .run, kind, rnd⟩ cs (some (.goto l)) s
      | .region _ ops draw => bif draw then adrawE P nest ops (fun tmps' s => k ⟨fn, tmps', r, ds, .run, kind, rnd⟩ cs s) tmps s
        else k ⟨fn, tmps, .inRegion ops (List.range ops.size) :: r, ds, .run, kind, rnd⟩ cs s
      | .rangeFunc f params as body => arange P k ⟨fn, tmps, .code (.rangeFunc f params as body) :: r, ds, .run, kind, rnd⟩ cs f params as body r s
      | .refuse _ => .fail
    | .inBlock _ :: r | .inScope _ :: r => k ⟨fn, tmps, r, ds, .run, kind, rnd⟩ cs s
    | .inLoop x :: r => k ⟨fn, tmps, .code x :: .inLoop x :: r, ds, .run, kind, rnd⟩ cs s
    | .inRegion _ [] :: r => k ⟨fn, tmps, r, ds, .run, kind, rnd⟩ cs s
    | .inRegion ops (i :: l) :: r => match ops[i]? with
      | none => k ⟨fn, tmps, .inRegion ops l :: r, ds, .run, kind, rnd⟩ cs s
      | some o => bif awanted ops tmps o then aoper P k ⟨fn, tmps, .inRegion ops (i :: l) :: r, ds, .run, kind, rnd⟩ cs o s
        else k ⟨fn, aput' tmps o.dst undef, .inRegion ops l :: r, ds, .run, kind, rnd⟩ cs s
    | .beginRound :: r => abegin k ⟨fn, tmps, .beginRound :: r, ds, .run, kind, rnd⟩ cs s
    | .endRangeFunc l :: r => aend k ⟨fn, tmps, .endRangeFunc l :: r, ds, .run, kind, rnd⟩ cs l r s
    | _ => .fail
  | .returning => aunwind P k fin ⟨fn, tmps, todo, ds, .returning, kind, rnd⟩ cs s
  | .panicking chain => aunwind P k fin ⟨fn, tmps, todo, ds, .panicking chain, kind, rnd⟩ cs s

/-- Runs until the last frame answers. -/
noncomputable def arun (P : Program) [Known P] (n : Nat) : AF → List AF → (Value → Nat → AM) → Nat → AM :=
  Nat.rec (fun _ _ _ _ => .fail) (fun _ ih a cs fin s => astep P (fun b q => ih b [] q) (fun a' cs' s' => ih a' cs' fin s') fin a cs s) n

end Go.Ev

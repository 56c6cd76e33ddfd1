/- The machine over a heap of names, told so that Lean's kernel runs it at less cost; and that it is the same machine. No condition. -/
import Derived.Test.YtgiemmoomdndaaaGreatEvQ
namespace Go.Ev
set_option linter.unusedVariables false
set_option linter.unusedSimpArgs false
open Go Go.RowKit

abbrev KA := AF → List AF → Nat → AM
abbrev FA := Value → Nat → AM
abbrev KN := Next → Nat → AM
abbrev KV := Value → Nat → AM
abbrev Rho := Operand → Value

/-! ### operands -/
noncomputable def evF (x : Operand) : List Value → Value :=
  match x with
  | .tmp t => fun tm => (nth tm t).getD undef
  | .const v => fun _ => v
  | .global _ => fun _ => undef
  | .func f => fun _ => .func (.func f) #[] #[]
theorem evF_eq (x : Operand) (tm : List Value) : evF x tm = aev tm x := by cases x <;> rfl

/-! ### whole numbers -/
noncomputable def intF (op : BinOp) : IntKind → Int → Int → Option Value :=
  match op with
  | .add => fun k a b => some (.int k (k.wrap (a + b)))
  | .sub => fun k a b => some (.int k (k.wrap (a - b)))
  | .mul => fun k a b => some (.int k (k.wrap (a * b)))
  | .eql => fun _ a b => some (.bool (a == b))
  | .neq => fun _ a b => some (.bool (a != b))
  | .lss => fun _ a b => some (.bool (decide (a < b)))
  | .leq => fun _ a b => some (.bool (decide (a ≤ b)))
  | .gtr => fun _ a b => some (.bool (decide (a > b)))
  | .geq => fun _ a b => some (.bool (decide (a ≥ b)))
  | _ => fun _ _ _ => none

noncomputable def binIntF (y : Value) : BinOp → IntKind → Int → (P : Program) → Rho → Oper → KN → Nat → AM :=
  match y with
  | .int k' b => fun op k a P ρ o kk s => match intF op k a b with
    | some v => bif decide (k = k') then kk (.value v) s else aop P ρ o kk s
    | none => aop P ρ o kk s
  | _ => fun _ _ _ P ρ o kk s => aop P ρ o kk s
noncomputable def binF (x : Value) : Value → BinOp → (P : Program) → Rho → Oper → KN → Nat → AM :=
  match x with
  | .int k a => fun y op P ρ o kk s => binIntF y op k a P ρ o kk s
  | _ => fun _ _ P ρ o kk s => aop P ρ o kk s

/-! ### operations: the common ones apart -/
noncomputable def pickF (c : Value) : (Operand) → Operand → Rho → KN → Nat → AM :=
  match c with
  | .bool t => fun a b ρ k s => k (.value (bif t then ρ a else ρ b)) s
  | _ => fun _ _ _ _ _ => .fail
noncomputable def extractF (x : Value) : Nat → KN → Nat → AM :=
  match x with
  | .tuple vs => fun i k s => M.opt (nth vs.toList i) (fun v => k (.value v)) s
  | _ => fun _ _ _ => .fail

noncomputable def opF (op : Op) : (P : Program) → Rho → Oper → KN → Nat → AM :=
  match op with
  | .move x => fun _ ρ _ k s => k (.value (ρ x)) s
  | .assign x => fun _ ρ _ k s => k (.value (ρ x)) s
  | .pick c a b => fun _ ρ _ k s => pickF (ρ c) a b ρ k s
  | .extract x i => fun _ ρ _ k s => extractF (ρ x) i k s
  | .binOp op _ x y _ => fun P ρ o k s => binF (ρ x) (ρ y) op P ρ o k s
  | .load t a => fun P ρ _ k s => aloadAt P t (ρ a) (fun v => k (.value v)) s
  | .store t a x => fun P ρ _ k s => astoreAt P t (ρ a) (ρ x) (fun _ => k .skip) s
  | .fieldAddr t x f => fun P ρ _ k s => M.opt (afieldAt P t (ρ x) f) (fun v => k (.value v)) s
  | .indexAddr t x i => fun P ρ _ k s => M.opt (aindexAt P t (ρ x) (ρ i)) (fun v => k (.value v)) s
  | .field t x f => fun P ρ _ k s => M.opt (afield P t (ρ x) f) (fun v => k (.value v)) s
  | .alloc t => fun P _ _ k s => aalloc P t (fun v => k (.value v)) s
  | .box t x => fun _ ρ _ k s => abox t (ρ x) (fun v => k (.value v)) s
  | .call c => fun P ρ o k s => match aresolve ρ c o.type with
    | some d => ainvoke P d k s
    | none => .fail
  | _ => fun P ρ o k s => aop P ρ o k s

theorem intF_spec {P : Program} {ρ : Rho} {o : Oper} {op : BinOp} {t yt : TypeId} {x y : Operand} {k : IntKind} {a b : Int} {v : Value} (ho : o.op = .binOp op t x y yt) (hx : ρ x = .int k a) (hy : ρ y = .int k b) (hv : intF op k a b = some v) (kk : KN) (s : Nat) :
    aop P ρ o kk s = kk (.value v) s := by
  have hnil : aeqNil P t (ρ x) (ρ y) = none := by
    rw [hx, hy]; unfold aeqNil; split <;> simp_all
  have hpl : o.op.operands.toList.all (fun z => plainV (ρ z)) = true := by
    rw [ho]; simp [Op.operands, hx, hy, plainV, plain1]
  have hrun : pureRun P (execOp ρ o) = some (.value v) := by
    unfold execOp
    rw [ho]
    dsimp only
    rw [hx, hy]
    unfold intF at hv
    cases op <;> simp at hv <;> subst hv <;> (unfold eqGuard binOp; simp; rfl)
  have hpv : plainV v = true := by
    unfold intF at hv
    cases op <;> simp at hv <;> subst hv <;> rfl
  unfold aop
  rw [ho]
  dsimp only
  rw [hnil]
  dsimp only
  unfold aplain
  rw [hpl, hrun]
  dsimp only [cond_true]
  rw [hpv]; rfl

theorem opF_eq (P : Program) (ρ : Rho) (o : Oper) (k : KN) (s : Nat) : opF o.op P ρ o k s = aop P ρ o k s := by
  cases hop : o.op with
  | binOp op t x y yt =>
    simp only [opF]
    unfold binF
    cases hx : ρ x with
    | int kx a =>
      dsimp only
      unfold binIntF
      cases hy : ρ y with
      | int ky b =>
        dsimp only
        cases hv : intF op kx a b with
        | none => rfl
        | some v =>
          dsimp only
          cases hk : decide (kx = ky) with
          | false => rfl
          | true =>
            have := of_decide_eq_true hk
            subst this
            exact (intF_spec hop hx hy hv k s).symm
      | _ => rfl
    | _ => rfl
  | pick c a b => unfold aop; rw [hop]; simp only [opF]; unfold pickF; cases ρ c <;> rfl
  | extract x i => unfold aop; rw [hop]; simp only [opF]; unfold extractF; cases ρ x <;> rfl
  | move x => unfold aop; rw [hop]; rfl
  | assign x => unfold aop; rw [hop]; rfl
  | load t a => unfold aop; rw [hop]; rfl
  | store t a x => unfold aop; rw [hop]; rfl
  | fieldAddr t x f => unfold aop; rw [hop]; rfl
  | indexAddr t x i => unfold aop; rw [hop]; rfl
  | field t x f => unfold aop; rw [hop]; rfl
  | alloc t => unfold aop; rw [hop]; rfl
  | box t x => unfold aop; rw [hop]; rfl
  | call c => unfold aop; rw [hop]; rfl
  | _ => rfl

/-! ### what comes of an operation -/
noncomputable def applyF (nx : Next) : Program → KA → FuncId → List Value → List Item → List Deferred → CallKind → Option Nat → List AF → Array Oper → Nat → List Nat → List Item → Option Tmp → Nat → AM :=
  match nx with
  | .value v => fun _ k fn tm _ ds kd rn cs ops _ l r dst s => k ⟨fn, aput' tm dst v, .inRegion ops l :: r, ds, .run, kd, rn⟩ cs s
  | .skip => fun _ k fn tm _ ds kd rn cs ops _ l r dst s => k ⟨fn, aput' tm dst undef, .inRegion ops l :: r, ds, .run, kd, rn⟩ cs s
  | nx => fun P k fn tm todo ds kd rn cs _ _ _ _ _ s => aapply P k ⟨fn, tm, todo, ds, .run, kd, rn⟩ cs nx s

noncomputable def operF (o : Oper) : Program → KA → FuncId → List Value → List Item → List Deferred → CallKind → Option Nat → List AF → Array Oper → Nat → List Nat → List Item → Nat → AM :=
  match o.op with
  | .panic x => fun P k fn tm todo ds kd rn cs _ _ _ _ s => aoper P k ⟨fn, tm, todo, ds, .run, kd, rn⟩ cs o s
  | .defer x => fun P k fn tm todo ds kd rn cs _ _ _ _ s => aoper P k ⟨fn, tm, todo, ds, .run, kd, rn⟩ cs o s
  | op => fun P k fn tm todo ds kd rn cs ops i l r s => bif okOper o then opF op P (fun x => evF x tm) o (fun nx s => applyF nx P k fn tm todo ds kd rn cs ops i l r o.dst s) s else .fail

theorem applyF_eq (nx : Next) (P : Program) (k : KA) (fn : FuncId) (tm : List Value) (ds : List Deferred) (kd : CallKind) (rn : Option Nat) (cs : List AF) (ops : Array Oper) (i : Nat) (l : List Nat) (r : List Item) (o : Oper) (ho : ops[i]? = some o) (s : Nat) :
    applyF nx P k fn tm (.inRegion ops (i :: l) :: r) ds kd rn cs ops i l r o.dst s = aapply P k ⟨fn, tm, .inRegion ops (i :: l) :: r, ds, .run, kd, rn⟩ cs nx s := by
  cases nx with
  | value v => simp [applyF, aapply, AF.finish, ho]
  | skip => simp [applyF, aapply, AF.finish, ho]
  | _ => rfl

theorem operF_eq (o : Oper) (P : Program) (k : KA) (fn : FuncId) (tm : List Value) (ds : List Deferred) (kd : CallKind) (rn : Option Nat) (cs : List AF) (ops : Array Oper) (i : Nat) (l : List Nat) (r : List Item) (ho : ops[i]? = some o) (s : Nat) :
    operF o P k fn tm (.inRegion ops (i :: l) :: r) ds kd rn cs ops i l r s = aoper P k ⟨fn, tm, .inRegion ops (i :: l) :: r, ds, .run, kd, rn⟩ cs o s := by
  have hρ : (fun x => evF x tm) = aev tm := funext fun x => evF_eq x tm
  have main : (∀ x, o.op ≠ .panic x) → (∀ c, o.op ≠ .defer c) → (bif okOper o then opF o.op P (fun x => evF x tm) o (fun nx s => applyF nx P k fn tm (.inRegion ops (i :: l) :: r) ds kd rn cs ops i l r o.dst s) s else .fail) = aoper P k ⟨fn, tm, .inRegion ops (i :: l) :: r, ds, .run, kd, rn⟩ cs o s := by
    intro h1 h2
    unfold aoper
    have hd : isDefer o.op = false := by cases h : o.op <;> first | rfl | exact absurd h (h2 _)
    rw [hd, hρ]
    simp only [Bool.false_and, Bool.not_false, Bool.and_true]
    cases okOper o with
    | false => rfl
    | true =>
      simp only [cond_true, opF_eq, applyF_eq _ _ _ _ _ _ _ _ _ _ _ _ _ _ ho]
      try (cases h : o.op <;> first | rfl | exact absurd h (h1 _))
  unfold operF
  cases h : o.op with
  | panic x => rfl
  | defer c => rfl
  | _ => have := main (by simp [h]) (by simp [h]); rw [h] at this; exact this

/-! ### the step -/
noncomputable def nthO (l : List Oper) : Nat → Option Oper :=
  List.rec (motive := fun _ => Nat → Option Oper) (fun _ => none) (fun x _ ih n => Nat.rec (motive := fun _ => Option Oper) (some x) (fun m _ => ih m) n) l
theorem nthO_eq : ∀ (l : List Oper) (n : Nat), nthO l n = l[n]?
  | [], _ => rfl
  | _ :: _, 0 => rfl
  | _ :: l, n + 1 => by rw [List.getElem?_cons_succ]; exact nthO_eq l n

noncomputable def wantF (g : Option (Nat × Bool)) : Array Oper → List Value → Oper → Bool :=
  match g with
  | none => fun _ _ _ => true
  | some _ => fun ops tm o => awanted ops tm o
theorem wantF_eq (o : Oper) (ops : Array Oper) (tm : List Value) : wantF o.guard ops tm o = awanted ops tm o := by
  unfold wantF
  cases h : o.guard with
  | none => unfold awanted; rw [h]
  | some p => rfl

noncomputable def opAtF (o : Option Oper) : Program → KA → FuncId → List Value → List Deferred → CallKind → Option Nat → List AF → Array Oper → Nat → List Nat → List Item → Nat → AM :=
  match o with
  | none => fun _ k fn tm ds kd rn cs ops _ l r s => k ⟨fn, tm, .inRegion ops l :: r, ds, .run, kd, rn⟩ cs s
  | some o => fun P k fn tm ds kd rn cs ops i l r s => bif wantF o.guard ops tm o then operF o P k fn tm (.inRegion ops (i :: l) :: r) ds kd rn cs ops i l r s
      else k ⟨fn, aput' tm o.dst undef, .inRegion ops l :: r, ds, .run, kd, rn⟩ cs s

noncomputable def inRegF (l : List Nat) : Array Oper → Program → KA → FuncId → List Value → List Deferred → CallKind → Option Nat → List AF → List Item → Nat → AM :=
  match l with
  | [] => fun _ _ k fn tm ds kd rn cs r s => k ⟨fn, tm, r, ds, .run, kd, rn⟩ cs s
  | i :: l => fun ops P k fn tm ds kd rn cs r s => opAtF (nthO ops.toList i) P k fn tm ds kd rn cs ops i l r s

noncomputable def condF (v : Value) : Code → Code → KA → FuncId → List Value → List Deferred → CallKind → Option Nat → List AF → List Item → Nat → AM :=
  match v with
  | .bool b => fun x y k fn tm ds kd rn cs r s => k ⟨fn, tm, .code (bif b then x else y) :: r, ds, .run, kd, rn⟩ cs s
  | _ => fun _ _ _ _ _ _ _ _ _ _ _ => .fail

noncomputable def codeF (c : Code) : Program → Nest → KA → FA → FuncId → List Value → List Deferred → CallKind → Option Nat → List AF → List Item → Nat → AM :=
  match c with
  | .skip => fun _ _ k _ fn tm ds kd rn cs r s => k ⟨fn, tm, r, ds, .run, kd, rn⟩ cs s
  | .label _ => fun _ _ k _ fn tm ds kd rn cs r s => k ⟨fn, tm, r, ds, .run, kd, rn⟩ cs s
  | .seq x y => fun _ _ k _ fn tm ds kd rn cs r s => k ⟨fn, tm, .code x :: .code y :: r, ds, .run, kd, rn⟩ cs s
  | .cond c x y => fun _ _ k _ fn tm ds kd rn cs r s => bif okOperand c then condF (evF c tm) x y k fn tm ds kd rn cs r s else .fail
  | .block id x => fun _ _ k _ fn tm ds kd rn cs r s => k ⟨fn, tm, .code x :: .inBlock id :: r, ds, .run, kd, rn⟩ cs s
  | .loop x => fun _ _ k _ fn tm ds kd rn cs r s => k ⟨fn, tm, .code x :: .inLoop x :: r, ds, .run, kd, rn⟩ cs s
  | .region id ops draw => fun P nest k fin fn tm ds kd rn cs r s => bif draw then astep P nest k fin ⟨fn, tm, .code (.region id ops true) :: r, ds, .run, kd, rn⟩ cs s
      else k ⟨fn, tm, .inRegion ops (List.range ops.size) :: r, ds, .run, kd, rn⟩ cs s
  | c => fun P nest k fin fn tm ds kd rn cs r s => astep P nest k fin ⟨fn, tm, .code c :: r, ds, .run, kd, rn⟩ cs s

noncomputable def itemF (i : Item) : Program → Nest → KA → FA → FuncId → List Value → List Deferred → CallKind → Option Nat → List AF → List Item → Nat → AM :=
  match i with
  | .code c => fun P nest k fin fn tm ds kd rn cs r s => codeF c P nest k fin fn tm ds kd rn cs r s
  | .inRegion ops l => fun P _ k _ fn tm ds kd rn cs r s => inRegF l ops P k fn tm ds kd rn cs r s
  | .inBlock _ => fun _ _ k _ fn tm ds kd rn cs r s => k ⟨fn, tm, r, ds, .run, kd, rn⟩ cs s
  | .inScope _ => fun _ _ k _ fn tm ds kd rn cs r s => k ⟨fn, tm, r, ds, .run, kd, rn⟩ cs s
  | .inLoop x => fun _ _ k _ fn tm ds kd rn cs r s => k ⟨fn, tm, .code x :: .inLoop x :: r, ds, .run, kd, rn⟩ cs s
  | i => fun P nest k fin fn tm ds kd rn cs r s => astep P nest k fin ⟨fn, tm, i :: r, ds, .run, kd, rn⟩ cs s

noncomputable def todoF (l : List Item) : Program → Nest → KA → FA → FuncId → List Value → List Deferred → CallKind → Option Nat → List AF → Nat → AM :=
  match l with
  | [] => fun P nest k fin fn tm ds kd rn cs s => astep P nest k fin ⟨fn, tm, [], ds, .run, kd, rn⟩ cs s
  | i :: r => fun P nest k fin fn tm ds kd rn cs s => itemF i P nest k fin fn tm ds kd rn cs r s

noncomputable def modeF (m : FrameMode) : Program → Nest → KA → FA → FuncId → List Value → List Item → List Deferred → CallKind → Option Nat → List AF → Nat → AM :=
  match m with
  | .run => fun P nest k fin fn tm todo ds kd rn cs s => todoF todo P nest k fin fn tm ds kd rn cs s
  | m => fun P nest k fin fn tm todo ds kd rn cs s => astep P nest k fin ⟨fn, tm, todo, ds, m, kd, rn⟩ cs s

noncomputable def stepF (a : AF) : Program → Nest → KA → FA → List AF → Nat → AM :=
  match a with
  | ⟨fn, tm, todo, ds, m, kd, rn⟩ => fun P nest k fin cs s => modeF m P nest k fin fn tm todo ds kd rn cs s

theorem stepF_eq (P : Program) (nest : Nest) (k : KA) (fin : FA) (a : AF) (cs : List AF) (s : Nat) : stepF a P nest k fin cs s = astep P nest k fin a cs s := by
  obtain ⟨fn, tm, todo, ds, m, kd, rn⟩ := a
  cases m with
  | run =>
    cases todo with
    | nil => rfl
    | cons i r =>
      cases i with
      | code c =>
        cases c with
        | cond c x y =>
          simp only [stepF, modeF, todoF, itemF, codeF, astep]
          cases okOperand c with
          | false => rfl
          | true => simp only [cond_true, evF_eq]; unfold condF; cases aev tm c <;> rfl
        | region id ops draw => cases draw <;> rfl
        | _ => rfl
      | inRegion ops l =>
        cases l with
        | nil => rfl
        | cons i l =>
          simp only [stepF, modeF, todoF, itemF, inRegF, astep]
          have : nthO ops.toList i = ops[i]? := by rw [nthO_eq]; simp
          rw [this]
          cases ho : ops[i]? with
          | none => rfl
          | some o =>
            simp only [opAtF, wantF_eq]
            cases awanted ops tm o with
            | false => rfl
            | true => simp only [cond_true]; exact operF_eq o P k fn tm ds kd rn cs ops i l r ho s
      | _ => rfl
  | _ => rfl

noncomputable def runF (n : Nat) : Program → AF → List AF → FA → Nat → AM :=
  Nat.rec (fun _ _ _ _ _ => .fail) (fun _ ih P a cs fin s => stepF a P (fun b q => ih P b [] q) (fun a' cs' s' => ih P a' cs' fin s') fin cs s) n

theorem runF_eq (P : Program) : ∀ (n : Nat) (a : AF) (cs : List AF) (fin : FA) (s : Nat), runF n P a cs fin s = arun P n a cs fin s
  | 0, _, _, _, _ => rfl
  | n + 1, a, cs, fin, s => by
    show stepF a P (fun b q => runF n P b [] q) (fun a' cs' s' => runF n P a' cs' fin s') fin cs s = astep P (fun b q => arun P n b [] q) (fun a' cs' s' => arun P n a' cs' fin s') fin a cs s
    rw [stepF_eq]
    have h1 : (fun (b : AF) (q : FA) => runF n P b [] q) = fun b q => arun P n b [] q := by funext b q s; exact runF_eq P n b [] q s
    have h2 : (fun (a' : AF) (cs' : List AF) (s' : Nat) => runF n P a' cs' fin s') = fun a' cs' s' => arun P n a' cs' fin s' := by funext a' cs' s'; exact runF_eq P n a' cs' fin s'
    rw [h1, h2]

end Go.Ev

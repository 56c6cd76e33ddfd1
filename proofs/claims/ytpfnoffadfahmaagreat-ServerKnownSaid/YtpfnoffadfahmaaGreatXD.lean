/- A function's body as one term over a heap of names: the term. No condition. -/
import Derived.Test.YtpfnoffadfahmaaGreatXC
namespace Go.Ev
open Go Go.RowKit
set_option linter.unusedVariables false
set_option linter.unusedSimpArgs false

noncomputable def addX (P : Program) (t yt : TypeId) (cx cy : Bool) (x y : Value) : M Value := arI (fun k a b => .int k (wrapZ k (addZ a b))) (binG P .add t yt cx cy x y) x y
noncomputable def subX (P : Program) (t yt : TypeId) (cx cy : Bool) (x y : Value) : M Value := arI (fun k a b => .int k (wrapZ k (subZ a b))) (binG P .sub t yt cx cy x y) x y
noncomputable def mulX (P : Program) (t yt : TypeId) (cx cy : Bool) (x y : Value) : M Value := arI (fun k a b => .int k (wrapZ k (mulZ a b))) (binG P .mul t yt cx cy x y) x y
noncomputable def eqX (P : Program) (t yt : TypeId) (cx cy : Bool) (x y : Value) : M Value := arI (fun _ a b => .bool (eqZ a b)) (binG P .eql t yt cx cy x y) x y
noncomputable def neX (P : Program) (t yt : TypeId) (cx cy : Bool) (x y : Value) : M Value := arI (fun _ a b => .bool (Bool.rec (motive := fun _ => Bool) true false (eqZ a b))) (binG P .neq t yt cx cy x y) x y
noncomputable def ltX (P : Program) (t yt : TypeId) (cx cy : Bool) (x y : Value) : M Value := arI (fun _ a b => .bool (ltZ a b)) (binG P .lss t yt cx cy x y) x y
noncomputable def leX (P : Program) (t yt : TypeId) (cx cy : Bool) (x y : Value) : M Value := arI (fun _ a b => .bool (leZ a b)) (binG P .leq t yt cx cy x y) x y
noncomputable def gtX (P : Program) (t yt : TypeId) (cx cy : Bool) (x y : Value) : M Value := arI (fun _ a b => .bool (ltZ b a)) (binG P .gtr t yt cx cy x y) x y
noncomputable def geX (P : Program) (t yt : TypeId) (cx cy : Bool) (x y : Value) : M Value := arI (fun _ a b => .bool (leZ b a)) (binG P .geq t yt cx cy x y) x y
noncomputable def andX (P : Program) (t yt : TypeId) (cx cy : Bool) (x y : Value) : M Value := arI (fun k a b => .int k (andZ k a b)) (binG P .and t yt cx cy x y) x y
noncomputable def orX (P : Program) (t yt : TypeId) (cx cy : Bool) (x y : Value) : M Value := arI (fun k a b => .int k (orZ k a b)) (binG P .or t yt cx cy x y) x y
noncomputable def xorX (P : Program) (t yt : TypeId) (cx cy : Bool) (x y : Value) : M Value := arI (fun k a b => .int k (xorZ k a b)) (binG P .xor t yt cx cy x y) x y
noncomputable def arD (f : IntKind → Int → Int → Value) (g : M Value) (x y : Value) : M Value := fun k s =>
  vInt (fun k1 a => vInt (fun k2 b => Bool.rec (motive := fun _ => AM) (g k s) (Bool.rec (motive := fun _ => AM) (k (f k1 a b) s) (g k s) (eqZ b (.ofNat 0))) (kEq k1 k2)) (g k s) y) (g k s) x
noncomputable def quoX (P : Program) (t yt : TypeId) (cx cy : Bool) (x y : Value) : M Value := arD (fun k a b => .int k (wrapZ k (Int.tdiv a b))) (binG P .quo t yt cx cy x y) x y
noncomputable def remX (P : Program) (t yt : TypeId) (cx cy : Bool) (x y : Value) : M Value := arD (fun k a b => .int k (Int.tmod a b)) (binG P .rem t yt cx cy x y) x y
noncomputable def arS (f : IntKind → Int → Nat → Int) (g : M Value) (x y : Value) : M Value := fun k s =>
  vInt (fun k1 a => vInt (fun _ b => Int.rec (motive := fun _ => AM) (fun n => k (.int k1 (f k1 a n)) s) (fun _ => g k s) b) (g k s) y) (g k s) x
noncomputable def shlX (P : Program) (t yt : TypeId) (cx cy : Bool) (x y : Value) : M Value := arS shlZ (binG P .shl t yt cx cy x y) x y
noncomputable def shrX (P : Program) (t yt : TypeId) (cx cy : Bool) (x y : Value) : M Value := arS shrZ (binG P .shr t yt cx cy x y) x y
noncomputable abbrev binX (P : Program) (op : BinOp) (t yt : TypeId) (cx cy : Bool) (x y : Value) : M Value :=
  BinOp.rec (motive := fun _ => M Value) (addX P t yt cx cy x y) (subX P t yt cx cy x y) (mulX P t yt cx cy x y) (quoX P t yt cx cy x y) (remX P t yt cx cy x y) (andX P t yt cx cy x y) (orX P t yt cx cy x y) (xorX P t yt cx cy x y) (shlX P t yt cx cy x y) (shrX P t yt cx cy x y) (binG P .andNot t yt cx cy x y)
    (eqX P t yt cx cy x y) (neX P t yt cx cy x y) (ltX P t yt cx cy x y) (leX P t yt cx cy x y) (gtX P t yt cx cy x y) (geX P t yt cx cy x y) op
noncomputable def opG (P : Program) (op : Op) (vs : List Value) : M Value := fun k s =>
  aop P (aev vs) ⟨none, op, 0, "", #[], none⟩ (fun nx s => match nx with | .value v => k v s | _ => .fail) s
noncomputable def vBool {α : Type} (f : Bool → α) (g : α) (v : Value) : α :=
  Value.rec (motive_1 := fun _ => α) (motive_2 := fun _ => α) (motive_3 := fun _ => α) f (fun _ _ => g) (fun _ _ => g) (fun _ _ _ => g) (fun _ => g) (fun _ => g) (fun _ _ _ => g) (fun _ => g) (fun _ => g) (fun _ _ _ _ _ => g) g (fun _ _ _ => g) g (fun _ _ => g) (fun _ _ => g) (fun _ _ => g) g (fun _ _ _ _ => g) v
noncomputable def vSlice {α : Type} (f : Option Addr → Nat → Nat → α) (g : α) (v : Value) : α :=
  Value.rec (motive_1 := fun _ => α) (motive_2 := fun _ => α) (motive_3 := fun _ => α) (fun _ => g) (fun _ _ => g) (fun _ _ => g) (fun _ _ _ => g) (fun _ => g) (fun _ => g) f (fun _ => g) (fun _ => g) (fun _ _ _ _ _ => g) g (fun _ _ _ => g) g (fun _ _ => g) (fun _ _ => g) (fun _ _ => g) g (fun _ _ _ _ => g) v
noncomputable def pickX (c a b : Value) : M Value := fun k s => vBool (fun t => k (Bool.rec (motive := fun _ => Value) b a t) s) .fail c
noncomputable def nilX (v : Value) : M Value := fun k s => match v with
  | .pointer (some a) => k (.pointer (some a)) s
  | .iface t v => k (.iface t v) s
  | .func (.func f) xs ys => k (.func (.func f) xs ys) s
  | .func (.yield l) xs ys => k (.func (.yield l) xs ys) s
  | .func (.via a b c d) xs ys => k (.func (.via a b c d) xs ys) s
  | .func (.methodOf a b) xs ys => k (.func (.methodOf a b) xs ys) s
  | _ => .fail
noncomputable def extX (v : Value) (i : Nat) : M Value := fun k s => match v with
  | .tuple vs => M.opt (nth vs.toList i) k s
  | _ => .fail
noncomputable def ifcX (P : Program) (t : TypeId) (v : Value) : M Value := fun k s => match P.underlying t with
  | some (.interface _) => .fail
  | some _ => k (.iface t v) s
  | none => .fail
noncomputable def sliceX (P : Program) (t : TypeId) (x : Value) (lo hi mx : Option Value) : M Value := fun k s => match P.underlying t with
  | some .string => opG P (.slice t (.tmp 0) (lo.map fun _ => .tmp 1) (hi.map fun _ => .tmp 2) (mx.map fun _ => .tmp 3)) [x, lo.getD undef, hi.getD undef, mx.getD undef] k s
  | _ => aslice P t x lo hi mx k s
noncomputable def indexX (P : Program) (t : TypeId) (x i : Value) : M Value := fun k s => match P.underlying t with
  | some .string => opG P (.index t (.tmp 0) (.tmp 1)) [x, i] k s
  | _ => M.opt (aindex P t x i) k s
noncomputable def notX (P : Program) (t : TypeId) (v : Value) : M Value := fun k s => vBool (fun b => k (.bool (Bool.rec (motive := fun _ => Bool) true false b)) s) (opG P (.unOp .not t (.tmp 0)) [v] k s) v
noncomputable abbrev unX (P : Program) (op : UnOp) (t : TypeId) (v : Value) : M Value :=
  UnOp.rec (motive := fun _ => M Value) (opG P (.unOp .neg t (.tmp 0)) [v]) (opG P (.unOp .xor t (.tmp 0)) [v]) (notX P t v) (opG P (.unOp .plus t (.tmp 0)) [v]) op
noncomputable def intOf (P : Program) (t : TypeId) : Option IntKind := match P.underlying t with
  | some (.int k) => some k
  | _ => none
noncomputable def convX (P : Program) (src dst : TypeId) (v : Value) : M Value := fun k s =>
  vInt (fun _ a => Option.rec (motive := fun _ => AM) (opG P (.convert src dst (.tmp 0)) [v] k s) (fun kd => Option.rec (motive := fun _ => AM) (opG P (.convert src dst (.tmp 0)) [v] k s) (fun _ => k (.int kd (wrapZ kd a)) s) (intOf P src)) (intOf P dst)) (opG P (.convert src dst (.tmp 0)) [v] k s) v
noncomputable def funX (f : Fn) (xs ys : List Value) : M Value := fun k s => match f with
  | .yield _ => .fail
  | _ => k (.func f ⟨xs⟩ ⟨ys⟩) s
noncomputable def isSl (P : Program) (ts : Array TypeId) : Bool := match ts[0]? with
  | some t => match P.underlying t with | some (.slice _) => true | _ => false
  | none => false
noncomputable def lenX (P : Program) (ts : Array TypeId) (v : Value) : M Value := fun k s =>
  vSlice (fun _ n _ => Bool.rec (motive := fun _ => AM) .fail (k (.int .i64 (Int.ofNat n)) s) (isSl P ts))
    (match v with | .map (some r) => alenMap P ts (.map (some r)) k s | v => M.opt (alen P ts v) k s) v
noncomputable def invV (P : Program) (C : CallT) (v : Value) (args : List Value) (k : Value → Nat → AM) (s : Nat) : AM := match v with
  | .func (.yield l) first _ => C 1000000 (.int .i64 (.ofNat l) :: (first.toList ++ args)) k s
  | .func fn first cap => ainvoke P { target := .fn fn cap, args := ⟨first.toList ++ args⟩ } (xnext C k) s
  | _ => .fail
noncomputable def invM (P : Program) (C : CallT) (name : String) (args : List Value) (k : Value → Nat → AM) (s : Nat) : AM :=
  ainvoke P { target := .fn (.method name) #[], args := ⟨args⟩ } (xnext C k) s
noncomputable def blt0 (P : Program) (C : CallT) (b : Builtin) (ts : Array TypeId) (t : TypeId) (cs : Array Bool) (args : List Value) (k : Value → Nat → AM) (s : Nat) : AM := abuiltin P b ts t cs args (xnext C k) s
noncomputable abbrev bltX (P : Program) (C : CallT) (b : Builtin) (ts : Array TypeId) (t : TypeId) (cs : Array Bool) (args : List Value) (k : Value → Nat → AM) (s : Nat) : AM :=
  Builtin.rec (motive := fun _ => AM)
    (List.rec (motive := fun _ => AM) (blt0 P C b ts t cs args k s) (fun x l _ => List.rec (motive := fun _ => AM) (blt0 P C b ts t cs args k s) (fun y m _ => List.rec (motive := fun _ => AM) (aappend P ts x y k s) (fun _ _ _ => blt0 P C b ts t cs args k s) m) l) args)
    (List.rec (motive := fun _ => AM) (blt0 P C b ts t cs args k s) (fun x l _ => List.rec (motive := fun _ => AM) (acap P ts x k s) (fun _ _ _ => blt0 P C b ts t cs args k s) l) args)
    (List.rec (motive := fun _ => AM) (blt0 P C b ts t cs args k s) (fun x l _ => List.rec (motive := fun _ => AM) (aclear P ts x k s) (fun _ _ _ => blt0 P C b ts t cs args k s) l) args)
    (blt0 P C b ts t cs args k s) (blt0 P C b ts t cs args k s)
    (List.rec (motive := fun _ => AM) (blt0 P C b ts t cs args k s) (fun x l _ => List.rec (motive := fun _ => AM) (blt0 P C b ts t cs args k s) (fun y m _ => List.rec (motive := fun _ => AM) (acopy P ts x y k s) (fun _ _ _ => blt0 P C b ts t cs args k s) m) l) args)
    (blt0 P C b ts t cs args k s) (blt0 P C b ts t cs args k s)
    (List.rec (motive := fun _ => AM) (blt0 P C b ts t cs args k s) (fun x l _ => List.rec (motive := fun _ => AM) (lenX P ts x k s) (fun _ _ _ => blt0 P C b ts t cs args k s) l) args)
    (blt0 P C b ts t cs args k s) (blt0 P C b ts t cs args k s) (blt0 P C b ts t cs args k s) (blt0 P C b ts t cs args k s) (blt0 P C b ts t cs args k s) (blt0 P C b ts t cs args k s) (blt0 P C b ts t cs args k s) (blt0 P C b ts t cs args k s) (blt0 P C b ts t cs args k s)
    (blt0 P C b ts t cs args k s) (blt0 P C b ts t cs args k s) (blt0 P C b ts t cs args k s) (blt0 P C b ts t cs args k s) (blt0 P C b ts t cs args k s) (blt0 P C b ts t cs args k s) (blt0 P C b ts t cs args k s) (blt0 P C b ts t cs args k s) b
noncomputable abbrev callX (P : Program) (C : CallT) (ρ : Operand → Value) (o : Oper) (c : Call) (k : Value → Nat → AM) (s : Nat) : AM :=
  Callee.rec (motive := fun _ => AM)
    (fun x => Operand.rec (motive := fun _ => AM) (fun t => invV P C (ρ (.tmp t)) (c.args.toList.map ρ) k s) (fun v => invV P C (ρ (.const v)) (c.args.toList.map ρ) k s) (fun g => invV P C (ρ (.global g)) (c.args.toList.map ρ) k s)
      (fun f => Bool.rec (motive := fun _ => AM) (invV P C (ρ (.func f)) (c.args.toList.map ρ) k s) (C f (c.args.toList.map ρ) k s) (okFn P f)) x)
    (fun r name => invM P C name (ρ r :: c.args.toList.map ρ) k s)
    (fun b => bltX P C b c.argTypes o.type ⟨c.args.toList.map fun | .const _ => true | _ => false⟩ (c.args.toList.map ρ) k s) c.callee
noncomputable abbrev xopV (P : Program) (C : CallT) (E : List Value) (o : Oper) (k : Value → Nat → AM) (s : Nat) : AM :=
  Op.rec (motive := fun _ => AM)
    (fun x => aevC E x (fun v => k v s)) -- move
    (fun x => aevC E x (fun v => k v s)) -- assign
    (fun c a b => pickX (aev E c) (aev E a) (aev E b) k s)
    (fun t => aalloc P t k s)
    (fun t x => abox t (aev E x) k s)
    (fun t ps => M.opt (abuild P t (ps.toList.map fun p => (p.1, (aev E) p.2))) k s)
    (fun t n ps => abuildSlice P t n (ps.toList.map fun p => (p.1, (aev E) p.2)) k s)
    (fun t m ky x => amapUpdate P t (aev E m) (aev E ky) (aev E x) (fun _ s => k undef s) s) -- insert
    (fun t a => aloadAt P t (aev E a) k s)
    (fun t a x => astoreAt P t (aev E a) (aev E x) (fun _ s => k undef s) s)
    (fun _ => .fail) (fun _ => .fail) -- ready, waits
    (fun x => nilX (aev E x) k s)
    (fun op t x y yt => binX P op t yt (isC x) (isC y) (aev E x) (aev E y) k s)
    (fun op t x => unX P op t (aev E x) k s)
    (fun src dst x => convX P src dst (aev E x) k s)
    (fun _ _ => .fail) -- sliceToArrayPointer
    (fun t x => ifcX P t (aev E x) k s)
    (fun f xs ys => funX f (xs.toList.map (aev E)) (ys.toList.map (aev E)) k s)
    (fun _ r => Option.rec (motive := fun _ => AM) (amakeMap k s) (fun _ => .fail) r)
    (fun _ _ => .fail) -- makeChan
    (fun t l c => amakeSlice P t (aev E l) (aev E c) k s)
    (fun t x lo hi mx => sliceX P t (aev E x) (oval (aev E) lo) (oval (aev E) hi) (oval (aev E) mx) k s)
    (fun t x f => M.opt (afieldAt P t (aev E x) f) k s)
    (fun t x f => M.opt (afield P t (aev E x) f) k s)
    (fun t x i => M.opt (aindexAt P t (aev E x) (aev E i)) k s)
    (fun t x i => indexX P t (aev E x) (aev E i) k s)
    (fun t x i ok => alookup P t (aev E x) (aev E i) ok k s)
    (fun t m ky x => amapUpdate P t (aev E m) (aev E ky) (aev E x) (fun _ s => k undef s) s)
    (fun _ _ _ => .fail) (fun _ _ _ _ => .fail) -- mapEntry, entryStore
    (fun t x => arangeOf P t (aev E x) k s)
    (fun it str => Bool.rec (motive := fun _ => AM) .fail (anextOf (aev E it) k s) str)
    (fun _ => .fail) -- entry
    (fun x _ a ok => M.opt (atypeAssert P (aev E x) a ok) k s)
    (fun x i => extX (aev E x) i k s)
    (fun c => callX P C (aev E) o c k s)
    (fun _ => .fail) (fun _ => .fail) (fun _ => .fail) (fun _ _ => .fail) (fun _ _ _ => .fail) (fun _ _ => .fail) o.op

/-! ### regions -/
noncomputable def gd (v : Value) (want : Bool) : Bool := vBool (fun b => Bool.rec (motive := fun _ => Bool) (Bool.rec (motive := fun _ => Bool) true false b) b want) false v
noncomputable def guardX (c : Bool) (a b : AM) : AM := Bool.rec (motive := fun _ => AM) b a c
noncomputable def isG (o : Oper) : Option (Nat × Bool) := o.guard
/-- Whether an operation may stand with those behind it under one guard. -/
noncomputable def joins (ops : Array Oper) (o p : Oper) : Bool := match o.guard, p.guard with
  | none, none => true
  | some (i, a), some (j, b) => Nat.beq i j && (a == b) && (match gdSlot ops o, o.dst with | some (d, _), some e => !Nat.beq d e | _, _ => true)
  | _, _ => false
noncomputable def groups (ops : Array Oper) : List Oper → List (List Oper)
  | [] => []
  | o :: l => match groups ops l with
    | (p :: g) :: gs => bif joins ops o p then (o :: p :: g) :: gs else [o] :: (p :: g) :: gs
    | gs => [o] :: gs
noncomputable abbrev xplain (P : Program) (C : CallT) (l : List Oper) : List Value → (List Value → Nat → AM) → Nat → AM :=
  List.rec (motive := fun _ => List Value → (List Value → Nat → AM) → Nat → AM) (fun E k => k E)
    (fun o _ ih E k s => Bool.rec (motive := fun _ => AM) .fail (xopV P C E o (fun v s => putC E o.dst v (fun E' => ih E' k s)) s) (okOper o)) l
noncomputable def skipE (E : List Value) (l : List Oper) : List Value := l.foldl (fun E o => aput' E o.dst undef) E
noncomputable abbrev xgroups (P : Program) (C : CallT) (ops : Array Oper) (lv : Nat) (gs : List (List Oper)) : List Value → (List Value → Nat → AM) → Nat → AM :=
  List.rec (motive := fun _ => List Value → (List Value → Nat → AM) → Nat → AM) (fun E k => k E)
    (fun g gs ih E k s => List.rec (motive := fun _ => AM) .fail
      (fun o _ _ => Option.rec (motive := fun _ => AM) (xplain P C g E (fun E s => ih E k s) s)
        (fun _ => Option.rec (motive := fun _ => AM) .fail
          (fun dw => bindJ (slots E.length (wrOps g &&& lvOps ops gs.flatten lv)).length (cur (slots E.length (wrOps g &&& lvOps ops gs.flatten lv)).length fun vals => forceL (setMany E (slots E.length (wrOps g &&& lvOps ops gs.flatten lv)) vals) (fun E' => ih E' k))
              (fun j s => guardX (gd (nthD E dw.1) dw.2) (xplain P C g E (fun E' => app (slots E.length (wrOps g &&& lvOps ops gs.flatten lv)).length j (getMany E' (slots E.length (wrOps g &&& lvOps ops gs.flatten lv)))) s)
                (app (slots E.length (wrOps g &&& lvOps ops gs.flatten lv)).length j (getMany (skipE E g) (slots E.length (wrOps g &&& lvOps ops gs.flatten lv))) s)) s) (gdSlot ops o)) o.guard) g) gs
noncomputable def quiet (o : Oper) : Bool := match o.op with
  | .move _ | .assign _ | .pick .. | .binOp .. | .unOp .. | .field .. | .fieldAddr .. | .indexAddr .. | .index .. | .extract .. | .nilCheck _ | .makeInterface .. | .build .. | .typeAssert .. => true
  | _ => false
/-- What looks alone. -/
noncomputable def looks (o : Oper) : Bool := match o.op with
  | .load .. => true
  | .call c => match c.callee with
    | .builtin .len | .builtin .cap => true
    | _ => false
  | _ => false
noncomputable def quietAt (ops : Array Oper) (i : Nat) : Bool := match ops[i]? with | some o => quiet o | none => false
noncomputable def looksAt (ops : Array Oper) (i : Nat) : Bool := match ops[i]? with | some o => looks o | none => false
/-- Pairs that need no look. -/
noncomputable def still (ops : Array Oper) (i j : Nat) : Bool := quietAt ops i || quietAt ops j || (looksAt ops i && looksAt ops j)
noncomputable def freeX (ops : Array Oper) : List (List Nat) := (List.range ops.size).map fun j => (freeOf (masks ops.toList []) ops.size j).filter fun i => !still ops i j
abbrev LogT := Value → List Nat → List Nat → Nat → AM
noncomputable def logJ {α β : Type} (J : α) (B : α → β) : β := B J
noncomputable def logU (j : LogT) (u : Value) (ts ws : List Nat) : AM := match up u with
  | some (v, s) => j v ts ws s
  | none => .fail
noncomputable abbrev xlog (P : Program) (C : CallT) (E : List Value) (o : Oper) (j : LogT) (s : Nat) : AM :=
  Bool.rec (motive := fun _ => AM) (.log (xopV P C E o (fun v s => .ret (pk v s)) s) (logU j)) (xopV P C E o (fun v s => j v [] [] s) s) (quiet o)
noncomputable abbrev okDrawX (ops : Array Oper) (rs : List (List Nat × List Nat)) : Bool :=
  Bool.rec (motive := fun _ => Bool) false (Bool.rec (motive := fun _ => Bool) false (dynOk rs rs (freeX ops)) (Nat.beq rs.length ops.size)) (statOk ops)
/-- Whose touched names are asked for. -/
noncomputable def keepsX (ops : Array Oper) : List Bool := (freeX ops).map fun f => List.rec (motive := fun _ => Bool) false (fun _ _ _ => true) f
noncomputable abbrev forceB {R : Type} (l : List Bool) : (List Bool → R) → R :=
  List.rec (motive := fun _ => (List Bool → R) → R) (fun k => k []) (fun b _ ih k => Bool.rec (motive := fun _ => R) (ih (fun l' => k (false :: l'))) (ih (fun l' => k (true :: l'))) b) l
theorem forceB_eq {R : Type} : ∀ (l : List Bool) (k : List Bool → R), forceB l k = k l
  | [], k => rfl
  | false :: l, k => forceB_eq l (fun l' => k (false :: l'))
  | true :: l, k => forceB_eq l (fun l' => k (true :: l'))
noncomputable abbrev hdB (F : List Bool) : Bool := List.rec (motive := fun _ => Bool) false (fun x _ _ => x) F
noncomputable abbrev tlB (F : List Bool) : List Bool := List.rec (motive := fun _ => List Bool) [] (fun _ l _ => l) F
/-- What nobody asks for is not kept. -/
noncomputable abbrev keepL (f : Bool) (l : List Nat) : List Nat := Bool.rec (motive := fun _ => List Nat) [] l f
noncomputable abbrev xdraw (P : Program) (C : CallT) (ops : Array Oper) (l : List Oper) : List Bool → List Value → List (List Nat × List Nat) → (List Value → Nat → AM) → Nat → AM :=
  List.rec (motive := fun _ => List Bool → List Value → List (List Nat × List Nat) → (List Value → Nat → AM) → Nat → AM) (fun _ E rs k s => Bool.rec (motive := fun _ => AM) .fail (k E s) (okDrawX ops rs.reverse))
    (fun o _ ih F E rs k s => Bool.rec (motive := fun _ => AM) .fail
      (Option.rec (motive := fun _ => AM) (xlog P C E o (fun v ts ws s => putC E o.dst v (fun E' => ih (tlB F) E' ((keepL (hdB F) ts, keepL (hdB F) ws) :: rs) k s)) s)
        (fun _ => Option.rec (motive := fun _ => AM) .fail
          (fun dw => logJ (fun v ts ws s => putC E o.dst v (fun E' => ih (tlB F) E' ((keepL (hdB F) ts, keepL (hdB F) ws) :: rs) k s)) (fun j s => guardX (gd (nthD E dw.1) dw.2) (xlog P C E o j s) (j undef [] [] s)) s) (gdSlot ops o)) o.guard) (okOperD o)) l

/-! ### code -/
abbrev KX := Ex → List Value → Nat → AM
noncomputable abbrev seqK (f : List Value → Nat → AM) (K : KX) : KX := fun ex E s =>
  Ex.rec (motive := fun _ => AM) (f E s) (fun i => K (.brk i) E s) (K .ret E s) ex
noncomputable abbrev blockK (id : Nat) (K : KX) : KX := fun ex E s =>
  Ex.rec (motive := fun _ => AM) (K .fall E s) (fun i => Bool.rec (motive := fun _ => AM) (K (.brk i) E s) (K .fall E s) (Nat.beq i id)) (K .ret E s) ex
noncomputable def condX (v : Value) (a b : AM) : AM := match v with
  | .bool t => Bool.rec (motive := fun _ => AM) b a t
  | _ => .fail
noncomputable abbrev xseq (b : Code) (wa : Nat) (j : Bool) (fa fb : Nat → List Value → KX → Nat → AM) (lv : Nat) (E : List Value) (K : KX) (s : Nat) : AM :=
  Bool.rec (motive := fun _ => AM) (fa (live b lv ||| lv) E (seqK (fun E' => fb lv E' K) K) s)
    (bindJ (slots E.length (wa &&& live b lv)).length (cur (slots E.length (wa &&& live b lv)).length fun vals => forceL (setMany E (slots E.length (wa &&& live b lv)) vals) (fun E' => fb lv E' K))
      (fun j => fa (live b lv ||| lv) E (seqK (fun E' => app (slots E.length (wa &&& live b lv)).length j (getMany E' (slots E.length (wa &&& live b lv)))) K)) s) j
noncomputable abbrev xloop (N : Nat) (m : Nat) (f : List Value → KX → Nat → AM) (E : List Value) (K : KX) (s : Nat) : AM :=
  app (slots E.length m).length (loopJ N (slots E.length m).length (cur (slots E.length m).length fun _ _ => .fail) fun ih => cur (slots E.length m).length fun vals => forceL (setMany E (slots E.length m) vals) fun E0 => f E0 (seqK (fun E' => app (slots E.length m).length ih (getMany E' (slots E.length m))) K)) (getMany E (slots E.length m)) s
noncomputable abbrev xcode (P : Program) (C : CallT) (N : Nat) (c : Code) : Nat → List Value → KX → Nat → AM :=
  Code.rec (motive := fun _ => Nat → List Value → KX → Nat → AM)
    (fun _ E K s => K .fall E s)
    (fun _ ops draw lv E K s => Bool.rec (motive := fun _ => AM) (xgroups P C ops lv (groups ops ops.toList) E (fun E s => K .fall E s) s) (Option.rec (motive := fun _ => AM) (forceB (keepsX ops) (fun F => xdraw P C ops ops.toList F E [] (fun E s => K .fall E s) s)) (fun _ => .fail) (exOf ops)) draw)
    (fun a b fa fb => xseq b (wr a) (multi a) fa fb)
    (fun c _ _ fa fb lv E K s => Bool.rec (motive := fun _ => AM) .fail (condX (aev E c) (fa lv E K s) (fb lv E K s)) (okOperand c))
    (fun id _ fa lv E K s => fa lv E (blockK id K) s)
    (fun a fa lv E K s => xloop N (wr a &&& live a lv) (fa (live a lv ||| lv)) E K s)
    (fun _ _ _ _ _ _ _ _ _ _ => .fail)
    (fun id _ E K s => K (.brk id) E s)
    (fun _ fa lv E K s => fa lv E K s)
    (fun _ _ E K s => K .fall E s)
    (fun _ _ _ _ _ => .fail)
    (fun _ E K s => K .ret E s)
    (fun _ _ _ _ _ => .fail) c
noncomputable def rdRes (l : List ResultVar) : Nat := l.foldr (fun r m => (match r with | .tmp t => 2 ^ t | .cell a _ => 2 ^ a) ||| m) 0
noncomputable abbrev retK (P : Program) (rs : List ResultVar) (K : Value → Nat → AM) : KX := fun ex E s =>
  Ex.rec (motive := fun _ => AM) (aresults P E (fun vs s => K (resultOf vs) s) rs s) (fun _ => .fail) (aresults P E (fun vs s => K (resultOf vs) s) rs s) ex
noncomputable abbrev xbody (P : Program) (C : CallT) (N : Nat) (c : Code) (np nt : Nat) (rs : List ResultVar) (args : List Value) (K : Value → Nat → AM) (s : Nat) : AM :=
  app np (cur np fun vals => forceL (vals ++ List.replicate (nt - np) undef) fun E => xcode P C N c (rdRes rs) E (retK P rs K)) args s
noncomputable abbrev xfun (P : Program) (N : Nat) (C : CallT) : CallT := fun f args K s =>
  Option.rec (motive := fun _ => AM) .fail (fun fn => Option.rec (motive := fun _ => AM) .fail (fun c => xbody P C N c (fn.params.size + fn.nfree) fn.ntmps fn.results.toList args K s) fn.body) P.funcs[f]?
end Go.Ev

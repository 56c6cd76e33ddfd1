/- A function's body as one term over a heap of names: what it goes on with is handed in. No condition. -/
import Derived.Test.YtgiemmoomdndaaaGreatXB
namespace Go.Ev
open Go Go.RowKit
set_option linter.unusedVariables false
set_option linter.unusedSimpArgs false

abbrev CallT := FuncId → List Value → (Value → Nat → AM) → Nat → AM
inductive Ex where
  | fall
  | brk (id : Nat)
  | ret

/-! ### as many values as are told -/
def CurT (n : Nat) : Type := Nat.rec (motive := fun _ => Type) (Nat → AM) (fun _ t => Value → t) n
noncomputable abbrev cur (n : Nat) : (List Value → Nat → AM) → CurT n :=
  Nat.rec (motive := fun n => (List Value → Nat → AM) → CurT n) (fun f => f []) (fun _ ih f v => ih fun l => f (v :: l)) n
noncomputable abbrev app (n : Nat) : CurT n → List Value → Nat → AM :=
  Nat.rec (motive := fun n => CurT n → List Value → Nat → AM) (fun f l s => List.rec (motive := fun _ => AM) (f s) (fun _ _ _ => .fail) l)
    (fun _ ih f l s => List.rec (motive := fun _ => AM) .fail (fun v l _ => ih (f v) l s) l) n
noncomputable def bindJ {α β : Type} (n : Nat) (J : α) (B : α → β) : β := B J
noncomputable def loopJ {α : Type} (N n : Nat) (z : α) (B : α → α) : α := Nat.rec (motive := fun _ => α) z (fun _ ih => B ih) N
theorem app_cur : ∀ (n : Nat) (f : List Value → Nat → AM) (l : List Value) (s : Nat), l.length = n → app n (cur n f) l s = f l s
  | 0, f, [], s, _ => rfl
  | n + 1, f, v :: l, s, h => app_cur n (fun l => f (v :: l)) l s (by simpa using h)
theorem app_bad : ∀ (n : Nat) (f : CurT n) (l : List Value) (s : Nat), l.length ≠ n → app n f l s = .fail
  | 0, f, [], s, h => absurd rfl h
  | 0, f, _ :: _, s, _ => rfl
  | n + 1, f, [], s, _ => rfl
  | n + 1, f, v :: l, s, h => app_bad n (f v) l s (by simpa using h)

/-! ### which temporaries are read, which written -/
noncomputable def rdOpd (x : Operand) : Nat := match x with | .tmp t => 2 ^ t | _ => 0
noncomputable def rdList (l : List Operand) : Nat := l.foldr (fun x m => rdOpd x ||| m) 0
noncomputable def gdSlot (ops : Array Oper) (o : Oper) : Option (Nat × Bool) := match o.guard with
  | none => none
  | some (j, want) => match ops[j]? with
    | some p => match p.dst with
      | some d => some (d, want)
      | none => none
    | none => none
noncomputable def rdOper (ops : Array Oper) (o : Oper) : Nat := rdList o.op.operands.toList ||| (match gdSlot ops o with | some (d, _) => 2 ^ d | none => 0)
noncomputable def wrOper (o : Oper) : Nat := match o.dst with | some d => 2 ^ d | none => 0
noncomputable def rdOps (ops : Array Oper) (l : List Oper) : Nat := l.foldr (fun o m => rdOper ops o ||| m) 0
noncomputable def wrOps (l : List Oper) : Nat := l.foldr (fun o m => wrOper o ||| m) 0
noncomputable def rd : Code → Nat
  | .region _ ops _ => rdOps ops ops.toList
  | .seq a b => rd a ||| rd b
  | .cond c a b => rdOpd c ||| (rd a ||| rd b)
  | .block _ a | .loop a | .scope a => rd a
  | _ => 0
noncomputable def wr : Code → Nat
  | .region _ ops _ => wrOps ops.toList
  | .seq a b => wr a ||| wr b
  | .cond _ a b => wr a ||| wr b
  | .block _ a | .loop a | .scope a => wr a
  | _ => 0
noncomputable def falls : Code → Nat
  | .skip | .region .. | .label _ => 1
  | .seq a b => match falls a with | 0 => 0 | _ => falls b
  | .cond _ a b => falls a + falls b
  | .block id a => falls a + brks id a
  | .scope a => falls a
  | _ => 0
where brks (id : Nat) : Code → Nat
  | .seq a b => brks id a + brks id b
  | .cond _ a b => brks id a + brks id b
  | .block _ a | .loop a | .scope a => brks id a
  | .exit i => bif Nat.beq i id then 1 else 0
  | _ => 0
noncomputable def hasLoop : Code → Bool
  | .seq a b | .cond _ a b => hasLoop a || hasLoop b
  | .block _ a | .scope a => hasLoop a
  | .loop _ => true
  | _ => false
noncomputable def multi (a : Code) : Bool := Nat.ble 2 (falls a) || hasLoop a

/-! ### environments -/
noncomputable def slots (n m : Nat) : List Nat := (List.range n).filter fun t => m.testBit t
noncomputable def nthD (E : List Value) (t : Nat) : Value := (nth E t).getD undef
noncomputable def getMany (E : List Value) (l : List Nat) : List Value := l.map (nthD E)
noncomputable def setMany (E : List Value) : List Nat → List Value → List Value
  | t :: l, v :: vs => setL (setMany E l vs) v t
  | _, _ => E

/-! ### the same, worked out on the spot -/
noncomputable abbrev nthC {R : Type} (l : List Value) (n : Nat) (k : Value → R) : R :=
  List.rec (motive := fun _ => Nat → R) (fun _ => k undef) (fun x _ ih n => Nat.rec (motive := fun _ => R) (k x) (fun m _ => ih m) n) l n
theorem nthC_eq {R : Type} (k : Value → R) : ∀ (l : List Value) (n : Nat), nthC l n k = k (nthD l n)
  | [], _ => rfl
  | _ :: _, 0 => rfl
  | _ :: l, n + 1 => nthC_eq k l n
noncomputable abbrev aevC {R : Type} (E : List Value) (x : Operand) (k : Value → R) : R :=
  Operand.rec (motive := fun _ => R) (fun t => nthC E t k) (fun v => k v) (fun _ => k undef) (fun f => k (.func (.func f) #[] #[])) x
theorem aevC_eq {R : Type} (E : List Value) (x : Operand) (k : Value → R) : aevC E x k = k (aev E x) := by
  cases x with
  | tmp t => exact nthC_eq k E t
  | _ => rfl
noncomputable abbrev setC {R : Type} (v : Value) (l : List Value) : Nat → (List Value → R) → R :=
  List.rec (motive := fun _ => Nat → (List Value → R) → R) (fun _ k => k []) (fun x l ih n k => Nat.rec (motive := fun _ => R) (k (v :: l)) (fun m _ => ih m (fun l' => k (x :: l'))) n) l
theorem setC_eq {R : Type} (v : Value) : ∀ (l : List Value) (n : Nat) (k : List Value → R), setC v l n k = k (setL l v n)
  | [], _, _ => rfl
  | _ :: _, 0, _ => rfl
  | x :: l, n + 1, k => setC_eq v l n (fun l' => k (x :: l'))
noncomputable abbrev putC {R : Type} (E : List Value) (d : Option Tmp) (v : Value) (k : List Value → R) : R :=
  Option.rec (motive := fun _ => R) (k E) (fun d => setC v E d k) d
theorem putC_eq {R : Type} (E : List Value) (d : Option Tmp) (v : Value) (k : List Value → R) : putC E d v k = k (aput' E d v) := by
  cases d with
  | none => rfl
  | some d => exact setC_eq v E d k
noncomputable abbrev forceL {R : Type} (l : List Value) : (List Value → R) → R :=
  List.rec (motive := fun _ => (List Value → R) → R) (fun k => k []) (fun x _ ih k => ih (fun l' => k (x :: l'))) l
theorem forceL_eq {R : Type} : ∀ (l : List Value) (k : List Value → R), forceL l k = k l
  | [], _ => rfl
  | x :: l, k => forceL_eq l (fun l' => k (x :: l'))

/-! ### operations -/
noncomputable def xnext (C : CallT) (k : Value → Nat → AM) (nx : Next) (s : Nat) : AM :=
  match nx with
  | .value v => k v s
  | .skip => k undef s
  | .enter f args => C f args.toList k s
  | _ => .fail
noncomputable def isC : Operand → Bool | .const _ => true | _ => false
noncomputable def opdX (c : Bool) (i : Nat) (v : Value) : Operand := match c with | true => .const v | false => .tmp i
noncomputable def binG (P : Program) (op : BinOp) (t yt : TypeId) (cx cy : Bool) (x y : Value) : M Value := fun k s =>
  aop P (aev [x, y]) ⟨none, .binOp op t (opdX cx 0 x) (opdX cy 1 y) yt, 0, "", #[], none⟩ (fun nx s => match nx with | .value v => k v s | _ => .fail) s

noncomputable def kEq (a b : IntKind) : Bool :=
  IntKind.rec (motive := fun _ => Bool) (IntKind.rec (motive := fun _ => Bool) true false false false false false false false b) (IntKind.rec (motive := fun _ => Bool) false true false false false false false false b)
    (IntKind.rec (motive := fun _ => Bool) false false true false false false false false b) (IntKind.rec (motive := fun _ => Bool) false false false true false false false false b)
    (IntKind.rec (motive := fun _ => Bool) false false false false true false false false b) (IntKind.rec (motive := fun _ => Bool) false false false false false true false false b)
    (IntKind.rec (motive := fun _ => Bool) false false false false false false true false b) (IntKind.rec (motive := fun _ => Bool) false false false false false false false true b) a
theorem kEq_eq {a b : IntKind} (h : kEq a b = true) : a = b := by cases a <;> cases b <;> first | rfl | cases h
noncomputable def vInt {α : Type} (f : IntKind → Int → α) (g : α) (v : Value) : α :=
  Value.rec (motive_1 := fun _ => α) (motive_2 := fun _ => α) (motive_3 := fun _ => α) (fun _ => g) f (fun _ _ => g) (fun _ _ _ => g) (fun _ => g) (fun _ => g) (fun _ _ _ => g) (fun _ => g) (fun _ => g) (fun _ _ _ _ _ => g) g (fun _ _ _ => g) g (fun _ _ => g) (fun _ _ => g) (fun _ _ => g) g (fun _ _ _ _ => g) v
noncomputable def arI (f : IntKind → Int → Int → Value) (g : M Value) (x y : Value) : M Value := fun k s =>
  vInt (fun k1 a => vInt (fun k2 b => Bool.rec (motive := fun _ => AM) (g k s) (k (f k1 a b) s) (kEq k1 k2)) (g k s) y) (g k s) x

noncomputable def addZ (a b : Int) : Int :=
  Int.rec (motive := fun _ => Int) (fun m => Int.rec (motive := fun _ => Int) (fun n => .ofNat (Nat.add m n)) (fun n => Int.subNatNat m (Nat.succ n)) b)
    (fun m => Int.rec (motive := fun _ => Int) (fun n => Int.subNatNat n (Nat.succ m)) (fun n => .negSucc (Nat.succ (Nat.add m n))) b) a
theorem addZ_eq (a b : Int) : addZ a b = a + b := by cases a <;> cases b <;> rfl
noncomputable def negZ (a : Int) : Int := Int.rec (motive := fun _ => Int) (fun m => Nat.rec (motive := fun _ => Int) (.ofNat 0) (fun p _ => .negSucc p) m) (fun m => .ofNat (Nat.succ m)) a
theorem negZ_eq (a : Int) : negZ a = -a := by cases a with | ofNat m => cases m <;> rfl | negSucc m => rfl
noncomputable def subZ (a b : Int) : Int := addZ a (negZ b)
theorem subZ_eq (a b : Int) : subZ a b = a - b := by unfold subZ; rw [addZ_eq, negZ_eq]; omega
noncomputable def mulZ (a b : Int) : Int :=
  Int.rec (motive := fun _ => Int) (fun m => Int.rec (motive := fun _ => Int) (fun n => .ofNat (Nat.mul m n)) (fun n => negZ (.ofNat (Nat.mul m (Nat.succ n)))) b)
    (fun m => Int.rec (motive := fun _ => Int) (fun n => negZ (.ofNat (Nat.mul (Nat.succ m) n))) (fun n => .ofNat (Nat.mul (Nat.succ m) (Nat.succ n))) b) a
theorem mulZ_eq (a b : Int) : mulZ a b = a * b := by
  cases a <;> cases b <;> simp only [mulZ, negZ_eq] <;> rfl
noncomputable def leZ (a b : Int) : Bool :=
  Int.rec (motive := fun _ => Bool) (fun m => Int.rec (motive := fun _ => Bool) (fun n => Nat.ble m n) (fun _ => false) b)
    (fun m => Int.rec (motive := fun _ => Bool) (fun _ => true) (fun n => Nat.ble n m) b) a
theorem leZ_eq (a b : Int) : leZ a b = decide (a ≤ b) := by
  rw [Bool.eq_iff_iff, decide_eq_true_iff]
  cases a <;> cases b <;> simp only [leZ, Nat.ble_eq, Int.ofNat_eq_natCast, Bool.false_eq_true, true_iff, false_iff] <;> omega
noncomputable def ltZ (a b : Int) : Bool := Bool.rec (motive := fun _ => Bool) true false (leZ b a)
theorem ltZ_eq (a b : Int) : ltZ a b = decide (a < b) := by
  unfold ltZ; rw [leZ_eq]; rw [Bool.eq_iff_iff, decide_eq_true_iff]
  by_cases h : b ≤ a
  · simp [h]; 
  · simp [h]; omega
noncomputable def eqZ (a b : Int) : Bool :=
  Int.rec (motive := fun _ => Bool) (fun m => Int.rec (motive := fun _ => Bool) (fun n => Nat.beq m n) (fun _ => false) b)
    (fun m => Int.rec (motive := fun _ => Bool) (fun _ => false) (fun n => Nat.beq n m) b) a
theorem eqZ_eq (a b : Int) : eqZ a b = (a == b) := by
  rw [Bool.eq_iff_iff, beq_iff_eq]
  cases a <;> cases b <;> simp only [eqZ, Nat.beq_eq, Int.ofNat_eq_natCast, Bool.false_eq_true, false_iff] <;> omega
noncomputable def wrapZ (k : IntKind) (a : Int) : Int :=
  IntKind.rec (motive := fun _ => Int) (k.wrap a) (k.wrap a) (k.wrap a)
    (Int.rec (motive := fun _ => Int) (fun m => Bool.rec (motive := fun _ => Int) (k.wrap a) a (Nat.ble m 9223372036854775807)) (fun m => Bool.rec (motive := fun _ => Int) (k.wrap a) a (Nat.ble m 9223372036854775807)) a)
    (k.wrap a) (k.wrap a) (k.wrap a)
    (Int.rec (motive := fun _ => Int) (fun m => Bool.rec (motive := fun _ => Int) (k.wrap a) a (Nat.ble m 18446744073709551615)) (fun _ => k.wrap a) a) k
theorem wrap_in (k : IntKind) (a : Int) (h : k = .i64 ∧ -9223372036854775808 ≤ a ∧ a ≤ 9223372036854775807 ∨ k = .u64 ∧ 0 ≤ a ∧ a ≤ 18446744073709551615) : k.wrap a = a := by
  rcases h with ⟨rfl, h1, h2⟩ | ⟨rfl, h1, h2⟩ <;> simp [IntKind.wrap, IntKind.bits, IntKind.signed] <;> omega
theorem wrapZ_eq (k : IntKind) (a : Int) : wrapZ k a = k.wrap a := by
  cases k <;> try rfl
  · cases a with
    | ofNat m =>
      cases hb : Nat.ble m 9223372036854775807 with
      | false => simp only [wrapZ, hb]
      | true =>
        simp only [wrapZ, hb]
        rw [Nat.ble_eq] at hb
        exact (wrap_in _ _ (.inl ⟨rfl, by simp only [Int.ofNat_eq_natCast]; omega, by simp only [Int.ofNat_eq_natCast]; omega⟩)).symm
    | negSucc m =>
      cases hb : Nat.ble m 9223372036854775807 with
      | false => simp only [wrapZ, hb]
      | true =>
        simp only [wrapZ, hb]
        rw [Nat.ble_eq] at hb
        exact (wrap_in _ _ (.inl ⟨rfl, by omega, by omega⟩)).symm
  · cases a with
    | ofNat m =>
      cases hb : Nat.ble m 18446744073709551615 with
      | false => simp only [wrapZ, hb]
      | true =>
        simp only [wrapZ, hb]
        rw [Nat.ble_eq] at hb
        exact (wrap_in _ _ (.inr ⟨rfl, by simp only [Int.ofNat_eq_natCast]; omega, by simp only [Int.ofNat_eq_natCast]; omega⟩)).symm
    | negSucc m => rfl
end Go.Ev

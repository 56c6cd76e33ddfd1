/- A function's body as one term over a heap of names: what it goes on with is handed in. No condition. -/
import Derived.Test.YtpfnoffadfahmaaGreatXB
namespace Go.Ev
open Go Go.RowKit
set_option linter.unusedVariables false
set_option linter.unusedSimpArgs false

abbrev CallT := FuncId → List Value → (Value → Nat → AM) → Nat → AM
inductive Ex where
  | fall
  | brk (id : Nat)
  | ret

/-! ### as many values as are told -/
def CurT (n : Nat) : Type := Nat.rec (motive := fun _ => Type) (Nat → AM) (fun _ t => Value → t) n
noncomputable abbrev cur (n : Nat) : (List Value → Nat → AM) → CurT n :=
  Nat.rec (motive := fun n => (List Value → Nat → AM) → CurT n) (fun f => f []) (fun _ ih f v => ih fun l => f (v :: l)) n
noncomputable abbrev app (n : Nat) : CurT n → List Value → Nat → AM :=
  Nat.rec (motive := fun n => CurT n → List Value → Nat → AM) (fun f l s => List.rec (motive := fun _ => AM) (f s) (fun _ _ _ => .fail) l)
    (fun _ ih f l s => List.rec (motive := fun _ => AM) .fail (fun v l _ => ih (f v) l s) l) n
noncomputable def bindJ {α β : Type} (n : Nat) (J : α) (B : α → β) : β := B J
noncomputable def loopJ {α : Type} (N n : Nat) (z : α) (B : α → α) : α := Nat.rec (motive := fun _ => α) z (fun _ ih => B ih) N
theorem app_cur : ∀ (n : Nat) (f : List Value → Nat → AM) (l : List Value) (s : Nat), l.length = n → app n (cur n f) l s = f l s
  | 0, f, [], s, _ => rfl
  | n + 1, f, v :: l, s, h => app_cur n (fun l => f (v :: l)) l s (by simpa using h)
theorem app_bad : ∀ (n : Nat) (f : CurT n) (l : List Value) (s : Nat), l.length ≠ n → app n f l s = .fail
  | 0, f, [], s, h => absurd rfl h
  | 0, f, _ :: _, s, _ => rfl
  | n + 1, f, [], s, _ => rfl
  | n + 1, f, v :: l, s, h => app_bad n (f v) l s (by simpa using h)

/-! ### which temporaries are read, which written -/
noncomputable def rdOpd (x : Operand) : Nat := match x with | .tmp t => 2 ^ t | _ => 0
noncomputable def rdList (l : List Operand) : Nat := l.foldr (fun x m => rdOpd x ||| m) 0
noncomputable def gdSlot (ops : Array Oper) (o : Oper) : Option (Nat × Bool) := match o.guard with
  | none => none
  | some (j, want) => match ops[j]? with
    | some p => match p.dst with
      | some d => some (d, want)
      | none => none
    | none => none
noncomputable def rdOper (ops : Array Oper) (o : Oper) : Nat := rdList o.op.operands.toList ||| (match gdSlot ops o with | some (d, _) => 2 ^ d | none => 0)
noncomputable def wrOper (o : Oper) : Nat := match o.dst with | some d => 2 ^ d | none => 0
noncomputable def rdOps (ops : Array Oper) (l : List Oper) : Nat := l.foldr (fun o m => rdOper ops o ||| m) 0
noncomputable def wrOps (l : List Oper) : Nat := l.foldr (fun o m => wrOper o ||| m) 0
noncomputable def clr (m : Nat) : Option Tmp → Nat
  | none => m
  | some d => m ^^^ (m &&& 2 ^ d)
/-- What must be known ahead of operations, where lv must be behind them. -/
noncomputable def lvOps (ops : Array Oper) (l : List Oper) (lv : Nat) : Nat := l.foldr (fun o m => rdOper ops o ||| clr m o.dst) lv
/-- What must be known ahead of code, where lv must be behind it. -/
noncomputable def live : Code → Nat → Nat
  | .region _ ops _, lv => lvOps ops ops.toList lv
  | .seq a b, lv => live a (live b lv ||| lv)
  | .cond c a b, lv => rdOpd c ||| (live a lv ||| live b lv)
  | .block _ a, lv | .loop a, lv | .scope a, lv => live a lv
  | .rangeFunc .., _ => 2 ^ 4096 - 1
  | _, lv => lv
noncomputable def wr : Code → Nat
  | .region _ ops _ => wrOps ops.toList
  | .seq a b => wr a ||| wr b
  | .cond _ a b => wr a ||| wr b
  | .block _ a | .loop a | .scope a => wr a
  | _ => 0
noncomputable def falls : Code → Nat
  | .skip | .region .. | .label _ => 1
  | .seq a b => match falls a with | 0 => 0 | _ => falls b
  | .cond _ a b => falls a + falls b
  | .block id a => falls a + brks id a
  | .scope a => falls a
  | .rangeFunc .. => 1
  | _ => 0
where brks (id : Nat) : Code → Nat
  | .seq a b => brks id a + brks id b
  | .cond _ a b => brks id a + brks id b
  | .block _ a | .loop a | .scope a => brks id a
  | .exit i => bif Nat.beq i id then 1 else 0
  | .rangeFunc .. => 1
  | _ => 0
noncomputable def hasLoop : Code → Bool
  | .seq a b | .cond _ a b => hasLoop a || hasLoop b
  | .block _ a | .scope a => hasLoop a
  | .loop _ => true
  | _ => false
noncomputable def multi (a : Code) : Bool := Nat.ble 2 (falls a) || hasLoop a

/-! ### environments -/
noncomputable def slots (n m : Nat) : List Nat := (List.range n).filter fun t => m.testBit t
noncomputable def nthD (E : List Value) (t : Nat) : Value := (nth E t).getD undef
noncomputable def getMany (E : List Value) (l : List Nat) : List Value := l.map (nthD E)
noncomputable def setMany (E : List Value) : List Nat → List Value → List Value
  | t :: l, v :: vs => setL (setMany E l vs) v t
  | _, _ => E

/-! ### the same, worked out on the spot -/
noncomputable abbrev nthC {R : Type} (l : List Value) (n : Nat) (k : Value → R) : R :=
  List.rec (motive := fun _ => Nat → R) (fun _ => k undef) (fun x _ ih n => Nat.rec (motive := fun _ => R) (k x) (fun m _ => ih m) n) l n
theorem nthC_eq {R : Type} (k : Value → R) : ∀ (l : List Value) (n : Nat), nthC l n k = k (nthD l n)
  | [], _ => rfl
  | _ :: _, 0 => rfl
  | _ :: l, n + 1 => nthC_eq k l n
noncomputable abbrev aevC {R : Type} (E : List Value) (x : Operand) (k : Value → R) : R :=
  Operand.rec (motive := fun _ => R) (fun t => nthC E t k) (fun v => k v) (fun _ => k undef) (fun f => k (.func (.func f) #[] #[])) x
theorem aevC_eq {R : Type} (E : List Value) (x : Operand) (k : Value → R) : aevC E x k = k (aev E x) := by
  cases x with
  | tmp t => exact nthC_eq k E t
  | _ => rfl
noncomputable abbrev setC {R : Type} (v : Value) (l : List Value) : Nat → (List Value → R) → R :=
  List.rec (motive := fun _ => Nat → (List Value → R) → R) (fun _ k => k []) (fun x l ih n k => Nat.rec (motive := fun _ => R) (k (v :: l)) (fun m _ => ih m (fun l' => k (x :: l'))) n) l
theorem setC_eq {R : Type} (v : Value) : ∀ (l : List Value) (n : Nat) (k : List Value → R), setC v l n k = k (setL l v n)
  | [], _, _ => rfl
  | _ :: _, 0, _ => rfl
  | x :: l, n + 1, k => setC_eq v l n (fun l' => k (x :: l'))
noncomputable abbrev putC {R : Type} (E : List Value) (d : Option Tmp) (v : Value) (k : List Value → R) : R :=
  Option.rec (motive := fun _ => R) (k E) (fun d => setC v E d k) d
theorem putC_eq {R : Type} (E : List Value) (d : Option Tmp) (v : Value) (k : List Value → R) : putC E d v k = k (aput' E d v) := by
  cases d with
  | none => rfl
  | some d => exact setC_eq v E d k
noncomputable abbrev forceL {R : Type} (l : List Value) : (List Value → R) → R :=
  List.rec (motive := fun _ => (List Value → R) → R) (fun k => k []) (fun x _ ih k => ih (fun l' => k (x :: l'))) l
theorem forceL_eq {R : Type} : ∀ (l : List Value) (k : List Value → R), forceL l k = k l
  | [], _ => rfl
  | x :: l, k => forceL_eq l (fun l' => k (x :: l'))

/-! ### operations -/
noncomputable def xnext (C : CallT) (k : Value → Nat → AM) (nx : Next) (s : Nat) : AM :=
  match nx with
  | .value v => k v s
  | .skip => k undef s
  | .enter f args => Bool.rec (motive := fun _ => AM) (C f args.toList k s) .fail (Nat.beq f 1000000)
  | _ => .fail
noncomputable def isC : Operand → Bool | .const _ => true | _ => false
noncomputable def opdX (c : Bool) (i : Nat) (v : Value) : Operand := match c with | true => .const v | false => .tmp i
noncomputable def binG (P : Program) (op : BinOp) (t yt : TypeId) (cx cy : Bool) (x y : Value) : M Value := fun k s =>
  aop P (aev [x, y]) ⟨none, .binOp op t (opdX cx 0 x) (opdX cy 1 y) yt, 0, "", #[], none⟩ (fun nx s => match nx with | .value v => k v s | _ => .fail) s

noncomputable def kEq (a b : IntKind) : Bool :=
  IntKind.rec (motive := fun _ => Bool) (IntKind.rec (motive := fun _ => Bool) true false false false false false false false b) (IntKind.rec (motive := fun _ => Bool) false true false false false false false false b)
    (IntKind.rec (motive := fun _ => Bool) false false true false false false false false b) (IntKind.rec (motive := fun _ => Bool) false false false true false false false false b)
    (IntKind.rec (motive := fun _ => Bool) false false false false true false false false b) (IntKind.rec (motive := fun _ => Bool) false false false false false true false false b)
    (IntKind.rec (motive := fun _ => Bool) false false false false false false true false b) (IntKind.rec (motive := fun _ => Bool) false false false false false false false true b) a
theorem kEq_eq {a b : IntKind} (h : kEq a b = true) : a = b := by cases a <;> cases b <;> first | rfl | cases h
noncomputable def vInt {α : Type} (f : IntKind → Int → α) (g : α) (v : Value) : α :=
  Value.rec (motive_1 := fun _ => α) (motive_2 := fun _ => α) (motive_3 := fun _ => α) (fun _ => g) f (fun _ _ => g) (fun _ _ _ => g) (fun _ => g) (fun _ => g) (fun _ _ _ => g) (fun _ => g) (fun _ => g) (fun _ _ _ _ _ => g) g (fun _ _ _ => g) g (fun _ _ => g) (fun _ _ => g) (fun _ _ => g) g (fun _ _ _ _ => g) v
noncomputable def arI (f : IntKind → Int → Int → Value) (g : M Value) (x y : Value) : M Value := fun k s =>
  vInt (fun k1 a => vInt (fun k2 b => Bool.rec (motive := fun _ => AM) (g k s) (k (f k1 a b) s) (kEq k1 k2)) (g k s) y) (g k s) x

noncomputable def addZ (a b : Int) : Int :=
  Int.rec (motive := fun _ => Int) (fun m => Int.rec (motive := fun _ => Int) (fun n => .ofNat (Nat.add m n)) (fun n => Int.subNatNat m (Nat.succ n)) b)
    (fun m => Int.rec (motive := fun _ => Int) (fun n => Int.subNatNat n (Nat.succ m)) (fun n => .negSucc (Nat.succ (Nat.add m n))) b) a
theorem addZ_eq (a b : Int) : addZ a b = a + b := by cases a <;> cases b <;> rfl
noncomputable def negZ (a : Int) : Int := Int.rec (motive := fun _ => Int) (fun m => Nat.rec (motive := fun _ => Int) (.ofNat 0) (fun p _ => .negSucc p) m) (fun m => .ofNat (Nat.succ m)) a
theorem negZ_eq (a : Int) : negZ a = -a := by cases a with | ofNat m => cases m <;> rfl | negSucc m => rfl
noncomputable def subZ (a b : Int) : Int := addZ a (negZ b)
theorem subZ_eq (a b : Int) : subZ a b = a - b := by unfold subZ; rw [addZ_eq, negZ_eq]; omega
noncomputable def mulZ (a b : Int) : Int :=
  Int.rec (motive := fun _ => Int) (fun m => Int.rec (motive := fun _ => Int) (fun n => .ofNat (Nat.mul m n)) (fun n => negZ (.ofNat (Nat.mul m (Nat.succ n)))) b)
    (fun m => Int.rec (motive := fun _ => Int) (fun n => negZ (.ofNat (Nat.mul (Nat.succ m) n))) (fun n => .ofNat (Nat.mul (Nat.succ m) (Nat.succ n))) b) a
theorem mulZ_eq (a b : Int) : mulZ a b = a * b := by
  cases a <;> cases b <;> simp only [mulZ, negZ_eq] <;> rfl
noncomputable def leZ (a b : Int) : Bool :=
  Int.rec (motive := fun _ => Bool) (fun m => Int.rec (motive := fun _ => Bool) (fun n => Nat.ble m n) (fun _ => false) b)
    (fun m => Int.rec (motive := fun _ => Bool) (fun _ => true) (fun n => Nat.ble n m) b) a
theorem leZ_eq (a b : Int) : leZ a b = decide (a ≤ b) := by
  rw [Bool.eq_iff_iff, decide_eq_true_iff]
  cases a <;> cases b <;> simp only [leZ, Nat.ble_eq, Int.ofNat_eq_natCast, Bool.false_eq_true, true_iff, false_iff] <;> omega
noncomputable def ltZ (a b : Int) : Bool := Bool.rec (motive := fun _ => Bool) true false (leZ b a)
theorem ltZ_eq (a b : Int) : ltZ a b = decide (a < b) := by
  unfold ltZ; rw [leZ_eq]; rw [Bool.eq_iff_iff, decide_eq_true_iff]
  by_cases h : b ≤ a
  · simp [h]; 
  · simp [h]; omega
noncomputable def eqZ (a b : Int) : Bool :=
  Int.rec (motive := fun _ => Bool) (fun m => Int.rec (motive := fun _ => Bool) (fun n => Nat.beq m n) (fun _ => false) b)
    (fun m => Int.rec (motive := fun _ => Bool) (fun _ => false) (fun n => Nat.beq n m) b) a
theorem eqZ_eq (a b : Int) : eqZ a b = (a == b) := by
  rw [Bool.eq_iff_iff, beq_iff_eq]
  cases a <;> cases b <;> simp only [eqZ, Nat.beq_eq, Int.ofNat_eq_natCast, Bool.false_eq_true, false_iff] <;> omega
/-- What is left of a number without a sign. -/
noncomputable def wrapU (B : Nat) (a : Int) : Int := Int.rec (motive := fun _ => Int) (fun m => .ofNat (Nat.mod m B)) (fun m => .ofNat (Nat.sub (Nat.sub B 1) (Nat.mod m B))) a
theorem wrapU_eq {B : Nat} (hB : 0 < B) (a : Int) : wrapU B a = a % (B : Int) := by
  cases a with
  | ofNat m => rfl
  | negSucc m =>
    show Int.ofNat (B - 1 - m % B) = Int.subNatNat B (Nat.succ (m % B))
    have : m % B < B := Nat.mod_lt _ hB
    rw [Int.subNatNat_of_le (by omega)]
    simp only [Int.ofNat_eq_natCast]; omega
noncomputable def wrapZ (k : IntKind) (a : Int) : Int :=
  IntKind.rec (motive := fun _ => Int) (k.wrap a) (k.wrap a) (k.wrap a)
    (Int.rec (motive := fun _ => Int) (fun m => Bool.rec (motive := fun _ => Int) (k.wrap a) a (Nat.ble m 9223372036854775807)) (fun m => Bool.rec (motive := fun _ => Int) (k.wrap a) a (Nat.ble m 9223372036854775807)) a)
    (wrapU 256 a) (wrapU 65536 a) (wrapU 4294967296 a) (wrapU 18446744073709551616 a) k
theorem wrap_in (k : IntKind) (a : Int) (h : k = .i64 ∧ -9223372036854775808 ≤ a ∧ a ≤ 9223372036854775807 ∨ k = .u64 ∧ 0 ≤ a ∧ a ≤ 18446744073709551615) : k.wrap a = a := by
  rcases h with ⟨rfl, h1, h2⟩ | ⟨rfl, h1, h2⟩ <;> simp [IntKind.wrap, IntKind.bits, IntKind.signed] <;> omega
theorem wrapZ_eq (k : IntKind) (a : Int) : wrapZ k a = k.wrap a := by
  cases k <;> try rfl
  · cases a with
    | ofNat m =>
      cases hb : Nat.ble m 9223372036854775807 with
      | false => simp only [wrapZ, hb]
      | true =>
        simp only [wrapZ, hb]
        rw [Nat.ble_eq] at hb
        exact (wrap_in _ _ (.inl ⟨rfl, by simp only [Int.ofNat_eq_natCast]; omega, by simp only [Int.ofNat_eq_natCast]; omega⟩)).symm
    | negSucc m =>
      cases hb : Nat.ble m 9223372036854775807 with
      | false => simp only [wrapZ, hb]
      | true =>
        simp only [wrapZ, hb]
        rw [Nat.ble_eq] at hb
        exact (wrap_in _ _ (.inl ⟨rfl, by omega, by omega⟩)).symm
  · show wrapU 256 a = _
    rw [wrapU_eq (by omega)]; simp [IntKind.wrap, IntKind.bits, IntKind.signed]
  · show wrapU 65536 a = _
    rw [wrapU_eq (by omega)]; simp [IntKind.wrap, IntKind.bits, IntKind.signed]
  · show wrapU 4294967296 a = _
    rw [wrapU_eq (by omega)]; simp [IntKind.wrap, IntKind.bits, IntKind.signed]
  · show wrapU 18446744073709551616 a = _
    rw [wrapU_eq (by omega)]; simp [IntKind.wrap, IntKind.bits, IntKind.signed]
/-! ### bits -/
noncomputable def bitGo (M : Nat) (f : Nat → Nat → Nat) (slow a b : Int) : Int :=
  Int.rec (motive := fun _ => Int) (fun m => Int.rec (motive := fun _ => Int) (fun n => Bool.rec (motive := fun _ => Int) slow (Bool.rec (motive := fun _ => Int) slow (.ofNat (f m n)) (Nat.ble n M)) (Nat.ble m M)) (fun _ => slow) b) (fun _ => slow) a
noncomputable def bitZ (f : Nat → Nat → Nat) (k : IntKind) (slow a b : Int) : Int :=
  IntKind.rec (motive := fun _ => Int) slow slow slow (bitGo 9223372036854775807 f slow a b) slow slow slow (bitGo 18446744073709551615 f slow a b) k
theorem bitGo_eq {M : Nat} {f : Nat → Nat → Nat} {slow a b : Int} (h : ∀ m n : Nat, a = m → b = n → m ≤ M → n ≤ M → ((f m n : Nat) : Int) = slow) : bitGo M f slow a b = slow := by
  cases a with
  | negSucc m => rfl
  | ofNat m =>
    cases b with
    | negSucc n => rfl
    | ofNat n =>
      show Bool.rec (motive := fun _ => Int) slow (Bool.rec (motive := fun _ => Int) slow (.ofNat (f m n)) (Nat.ble n M)) (Nat.ble m M) = slow
      cases hm : Nat.ble m M with
      | false => rfl
      | true =>
        cases hn : Nat.ble n M with
        | false => rfl
        | true =>
          rw [Nat.ble_eq] at hm hn
          exact h m n rfl rfl hm hn
theorem bitZ_eq {f : Nat → Nat → Nat} {k : IntKind} {slow a b : Int} (h1 : k = .i64 → ∀ m n : Nat, a = m → b = n → m ≤ 9223372036854775807 → n ≤ 9223372036854775807 → ((f m n : Nat) : Int) = slow)
    (h2 : k = .u64 → ∀ m n : Nat, a = m → b = n → m ≤ 18446744073709551615 → n ≤ 18446744073709551615 → ((f m n : Nat) : Int) = slow) : bitZ f k slow a b = slow := by
  cases k <;> try rfl
  · exact bitGo_eq (h1 rfl)
  · exact bitGo_eq (h2 rfl)
theorem ofInt_nat (w m : Nat) (h : m < 2 ^ w) : (BitVec.ofInt w (m : Int)).toNat = m := by
  rw [BitVec.toNat_ofInt]
  have : ((m : Int) % ((2 ^ w : Nat) : Int)) = ((m % 2 ^ w : Nat) : Int) := rfl
  rw [this, Int.toNat_natCast, Nat.mod_eq_of_lt h]
theorem bit_fin {k : IntKind} {w : Nat} {f : Nat → Nat → Nat} {m n : Nat} {B : BitVec w → BitVec w → BitVec w} (hB : (B (BitVec.ofInt w m) (BitVec.ofInt w n)).toNat = f m n) (hk : k = .i64 ∧ f m n ≤ 9223372036854775807 ∨ k = .u64 ∧ f m n ≤ 18446744073709551615) :
    ((f m n : Nat) : Int) = k.wrap (B (BitVec.ofInt w m) (BitVec.ofInt w n)).toNat := by
  rw [hB]
  rcases hk with ⟨rfl, h⟩ | ⟨rfl, h⟩
  · exact (wrap_in _ _ (.inl ⟨rfl, by omega, by omega⟩)).symm
  · exact (wrap_in _ _ (.inr ⟨rfl, by omega, by omega⟩)).symm
noncomputable def andZ (k : IntKind) (a b : Int) : Int := bitZ Nat.land k (k.wrap (BitVec.ofInt k.bits a &&& BitVec.ofInt k.bits b).toNat) a b
noncomputable def orZ (k : IntKind) (a b : Int) : Int := bitZ Nat.lor k (k.wrap (BitVec.ofInt k.bits a ||| BitVec.ofInt k.bits b).toNat) a b
noncomputable def xorZ (k : IntKind) (a b : Int) : Int := bitZ Nat.xor k (k.wrap (BitVec.ofInt k.bits a ^^^ BitVec.ofInt k.bits b).toNat) a b
theorem andZ_eq (k : IntKind) (a b : Int) : andZ k a b = k.wrap (BitVec.ofInt k.bits a &&& BitVec.ofInt k.bits b).toNat := by
  refine bitZ_eq (fun hk m n ha hb hm hn => ?_) (fun hk m n ha hb hm hn => ?_) <;> subst hk <;> subst ha <;> subst hb
  · refine bit_fin (B := fun x y => x &&& y) (w := 64) ?_ (.inl ⟨rfl, ?_⟩)
    · rw [BitVec.toNat_and, ofInt_nat 64 m (by omega), ofInt_nat 64 n (by omega)]; rfl
    · have : Nat.land m n ≤ m := Nat.and_le_left; omega
  · refine bit_fin (B := fun x y => x &&& y) (w := 64) ?_ (.inr ⟨rfl, ?_⟩)
    · rw [BitVec.toNat_and, ofInt_nat 64 m (by omega), ofInt_nat 64 n (by omega)]; rfl
    · have : Nat.land m n ≤ m := Nat.and_le_left; omega
theorem orZ_eq (k : IntKind) (a b : Int) : orZ k a b = k.wrap (BitVec.ofInt k.bits a ||| BitVec.ofInt k.bits b).toNat := by
  refine bitZ_eq (fun hk m n ha hb hm hn => ?_) (fun hk m n ha hb hm hn => ?_) <;> subst hk <;> subst ha <;> subst hb
  · refine bit_fin (B := fun x y => x ||| y) (w := 64) ?_ (.inl ⟨rfl, ?_⟩)
    · rw [BitVec.toNat_or, ofInt_nat 64 m (by omega), ofInt_nat 64 n (by omega)]; rfl
    · have : Nat.lor m n < 2 ^ 63 := Nat.or_lt_two_pow (by omega) (by omega); omega
  · refine bit_fin (B := fun x y => x ||| y) (w := 64) ?_ (.inr ⟨rfl, ?_⟩)
    · rw [BitVec.toNat_or, ofInt_nat 64 m (by omega), ofInt_nat 64 n (by omega)]; rfl
    · have : Nat.lor m n < 2 ^ 64 := Nat.or_lt_two_pow (by omega) (by omega); omega
theorem xorZ_eq (k : IntKind) (a b : Int) : xorZ k a b = k.wrap (BitVec.ofInt k.bits a ^^^ BitVec.ofInt k.bits b).toNat := by
  refine bitZ_eq (fun hk m n ha hb hm hn => ?_) (fun hk m n ha hb hm hn => ?_) <;> subst hk <;> subst ha <;> subst hb
  · refine bit_fin (B := fun x y => x ^^^ y) (w := 64) ?_ (.inl ⟨rfl, ?_⟩)
    · rw [BitVec.toNat_xor, ofInt_nat 64 m (by omega), ofInt_nat 64 n (by omega)]; rfl
    · have : Nat.xor m n < 2 ^ 63 := Nat.xor_lt_two_pow (by omega) (by omega); omega
  · refine bit_fin (B := fun x y => x ^^^ y) (w := 64) ?_ (.inr ⟨rfl, ?_⟩)
    · rw [BitVec.toNat_xor, ofInt_nat 64 m (by omega), ofInt_nat 64 n (by omega)]; rfl
    · have : Nat.xor m n < 2 ^ 64 := Nat.xor_lt_two_pow (by omega) (by omega); omega
/-! ### shifts -/
noncomputable def shrGo (k : IntKind) (a : Int) (n : Nat) : Int := Int.rec (motive := fun _ => Int) (fun m => Bool.rec (motive := fun _ => Int) (a.fdiv (2 ^ (min n k.bits))) (.ofNat (Nat.div m (Nat.pow 2 n))) (Nat.ble n 64)) (fun _ => a.fdiv (2 ^ (min n k.bits))) a
noncomputable def shrZ (k : IntKind) (a : Int) (n : Nat) : Int :=
  IntKind.rec (motive := fun _ => Int) (a.fdiv (2 ^ (min n k.bits))) (a.fdiv (2 ^ (min n k.bits))) (a.fdiv (2 ^ (min n k.bits))) (shrGo k a n) (a.fdiv (2 ^ (min n k.bits))) (a.fdiv (2 ^ (min n k.bits))) (a.fdiv (2 ^ (min n k.bits))) (shrGo k a n) k
theorem shrGo_eq {k : IntKind} (hk : k.bits = 64) (a : Int) (n : Nat) : shrGo k a n = a.fdiv (2 ^ (min n k.bits)) := by
  cases a with
  | negSucc m => rfl
  | ofNat m =>
    show Bool.rec (motive := fun _ => Int) ((Int.ofNat m).fdiv (2 ^ (min n k.bits))) (.ofNat (Nat.div m (Nat.pow 2 n))) (Nat.ble n 64) = _
    cases hn : Nat.ble n 64 with
    | false => rfl
    | true =>
      rw [Nat.ble_eq] at hn
      have h2 : ((2 : Int) ^ n) = ((2 ^ n : Nat) : Int) := by simp
      show Int.ofNat (Nat.div m (Nat.pow 2 n)) = (Int.ofNat m).fdiv (2 ^ (min n k.bits))
      rw [hk, Nat.min_eq_left hn, h2, Int.fdiv_eq_ediv_of_nonneg _ (Int.natCast_nonneg _)]
      rfl
theorem shrZ_eq (k : IntKind) (a : Int) (n : Nat) : shrZ k a n = a.fdiv (2 ^ (min n k.bits)) := by
  cases k <;> try rfl
  · exact shrGo_eq rfl a n
  · exact shrGo_eq rfl a n
noncomputable def shlGo (k : IntKind) (a : Int) (n : Nat) : Int := Int.rec (motive := fun _ => Int) (fun m => Bool.rec (motive := fun _ => Int) (k.wrap (a * 2 ^ (min n k.bits))) (wrapZ k (.ofNat (Nat.mul m (Nat.pow 2 n)))) (Nat.ble n 64)) (fun _ => k.wrap (a * 2 ^ (min n k.bits))) a
noncomputable def shlZ (k : IntKind) (a : Int) (n : Nat) : Int :=
  IntKind.rec (motive := fun _ => Int) (k.wrap (a * 2 ^ (min n k.bits))) (k.wrap (a * 2 ^ (min n k.bits))) (k.wrap (a * 2 ^ (min n k.bits))) (shlGo k a n) (k.wrap (a * 2 ^ (min n k.bits))) (k.wrap (a * 2 ^ (min n k.bits))) (k.wrap (a * 2 ^ (min n k.bits))) (shlGo k a n) k
theorem shlGo_eq {k : IntKind} (hk : k.bits = 64) (a : Int) (n : Nat) : shlGo k a n = k.wrap (a * 2 ^ (min n k.bits)) := by
  cases a with
  | negSucc m => rfl
  | ofNat m =>
    show Bool.rec (motive := fun _ => Int) (k.wrap ((Int.ofNat m) * 2 ^ (min n k.bits))) (wrapZ k (.ofNat (Nat.mul m (Nat.pow 2 n)))) (Nat.ble n 64) = _
    cases hn : Nat.ble n 64 with
    | false => rfl
    | true =>
      rw [Nat.ble_eq] at hn
      have h2 : ((2 : Int) ^ n) = ((2 ^ n : Nat) : Int) := by simp
      show wrapZ k (.ofNat (Nat.mul m (Nat.pow 2 n))) = k.wrap ((Int.ofNat m) * 2 ^ (min n k.bits))
      rw [hk, Nat.min_eq_left hn, h2]
      exact wrapZ_eq k _
theorem shlZ_eq (k : IntKind) (a : Int) (n : Nat) : shlZ k a n = k.wrap (a * 2 ^ (min n k.bits)) := by
  cases k <;> try rfl
  · exact shlGo_eq rfl a n
  · exact shlGo_eq rfl a n
end Go.Ev

/- The machine over a heap of names tells no less than a function's body as one term: operations and regions. No condition. -/
import Derived.Test.YtpfnoffadfahmaaGreatXD
namespace Go.Ev
open Go Go.RowKit
set_option linter.unusedVariables false
set_option linter.unusedSimpArgs false

/-! ### environments -/
theorem nthD_eq (E : List Value) (t : Nat) : nthD E t = (E[t]?).getD undef := by unfold nthD; rw [nth_eq]
theorem nthD_set (E : List Value) (v : Value) (d t : Nat) : nthD (setL E v d) t = if d = t ∧ d < E.length then v else nthD E t := by
  rw [nthD_eq, nthD_eq, setL_eq, List.getElem?_set]
  by_cases h : d = t
  · subst h
    by_cases hl : d < E.length
    · simp [hl]
    · simp [hl, show E.length ≤ d by omega]
  · simp [h]
structure Rep (R : Nat) (E tmps : List Value) : Prop where
  len : E.length = tmps.length
  at_ : ∀ t, R.testBit t = true → nthD E t = nthD tmps t
structure Frm (m : Nat) (E E' : List Value) : Prop where
  len : E'.length = E.length
  at_ : ∀ t, m.testBit t = false → nthD E' t = nthD E t
theorem Rep.mono {R S : Nat} {E tmps : List Value} (h : Rep R E tmps) (hs : ∀ t, S.testBit t = true → R.testBit t = true) : Rep S E tmps := ⟨h.len, fun t ht => h.at_ t (hs t ht)⟩
theorem Rep.left {a b : Nat} {E tmps : List Value} (h : Rep (a ||| b) E tmps) : Rep a E tmps := h.mono fun t ht => by rw [Nat.testBit_or, ht]; rfl
theorem Rep.right {a b : Nat} {E tmps : List Value} (h : Rep (a ||| b) E tmps) : Rep b E tmps := h.mono fun t ht => by rw [Nat.testBit_or, ht]; simp
theorem Frm.refl (m : Nat) (E : List Value) : Frm m E E := ⟨rfl, fun _ _ => rfl⟩
theorem Frm.trans {m : Nat} {E F G : List Value} (h : Frm m E F) (k : Frm m F G) : Frm m E G := ⟨k.len.trans h.len, fun t ht => (k.at_ t ht).trans (h.at_ t ht)⟩
theorem Frm.mono {m n : Nat} {E F : List Value} (h : Frm m E F) (hs : ∀ t, m.testBit t = true → n.testBit t = true) : Frm n E F := ⟨h.len, fun t ht => h.at_ t (by
  cases hm : m.testBit t with
  | false => rfl
  | true => rw [hs t hm] at ht; cases ht)⟩
theorem Frm.left {a b : Nat} {E F : List Value} (h : Frm a E F) : Frm (a ||| b) E F := h.mono fun t ht => by rw [Nat.testBit_or, ht]; rfl
theorem Frm.right {a b : Nat} {E F : List Value} (h : Frm b E F) : Frm (a ||| b) E F := h.mono fun t ht => by rw [Nat.testBit_or, ht]; simp
theorem bit_two (d t : Nat) : (2 ^ d).testBit t = decide (d = t) := Nat.testBit_two_pow

theorem Rep.put {R : Nat} {E tmps : List Value} (h : Rep R E tmps) (d : Option Tmp) (v : Value) : Rep R (aput' E d v) (aput' tmps d v) := by
  cases d with
  | none => exact h
  | some d =>
    refine ⟨by simp [aput', setL_eq, h.len], fun t ht => ?_⟩
    simp only [aput', nthD_set, h.len]
    split
    · rfl
    · exact h.at_ t ht
theorem Frm.put (E : List Value) (d : Option Tmp) (v : Value) (m : Nat) (hm : ∀ t, d = some t → m.testBit t = true) : Frm m E (aput' E d v) := by
  cases d with
  | none => exact .refl _ _
  | some d =>
    refine ⟨by simp [aput', setL_eq], fun t ht => ?_⟩
    simp only [aput', nthD_set]
    rw [if_neg]
    rintro ⟨rfl, _⟩
    rw [hm d rfl] at ht; cases ht

theorem getMany_length (E : List Value) (l : List Nat) : (getMany E l).length = l.length := by simp [getMany]
theorem setMany_length (E : List Value) : ∀ (l : List Nat) (vs : List Value), (setMany E l vs).length = E.length
  | [], _ => rfl
  | _ :: _, [] => rfl
  | t :: l, v :: vs => by simp [setMany, setL_eq, setMany_length E l vs]
theorem setMany_get (E E' : List Value) (he : E'.length = E.length) : ∀ (l : List Nat) (t : Nat), (∀ x ∈ l, x < E.length) → nthD (setMany E l (getMany E' l)) t = if t ∈ l then nthD E' t else nthD E t
  | [], t, _ => by simp [setMany, getMany]
  | x :: l, t, h => by
    have ih := setMany_get E E' he l t (fun y hy => h y (by simp [hy]))
    have hx := h x (by simp)
    show nthD (setL (setMany E l (getMany E' l)) (nthD E' x) x) t = _
    rw [nthD_set, setMany_length, ih]
    by_cases hxt : x = t
    · subst hxt; simp [hx]
    · simp [hxt, Ne.symm hxt]
theorem mem_slots {n m t : Nat} : t ∈ slots n m ↔ t < n ∧ m.testBit t = true := by
  unfold slots; rw [List.mem_filter, List.mem_range]

/-- What a joint hands on. -/
theorem Rep.join {w R : Nat} {E E' tmps : List Value} (h : Rep R E' tmps) (hf : Frm w E E') : Rep R (setMany E (slots E.length (w &&& R)) (getMany E' (slots E.length (w &&& R)))) tmps := by
  refine ⟨by rw [setMany_length, ← hf.len, h.len], fun t ht => ?_⟩
  rw [setMany_get E E' hf.len _ t fun x hx => (mem_slots.1 hx).1]
  by_cases hm : t ∈ slots E.length (w &&& R)
  · rw [if_pos hm]; exact h.at_ t ht
  · rw [if_neg hm]
    by_cases hl : t < E.length
    · have : w.testBit t = false := by
        cases hw : w.testBit t with
        | false => rfl
        | true => exact absurd (mem_slots.2 ⟨hl, by rw [Nat.testBit_and, hw, ht]; rfl⟩) hm
      rw [← hf.at_ t this]; exact h.at_ t ht
    · have h1 : nthD E t = undef := by rw [nthD_eq, List.getElem?_eq_none (by omega)]; rfl
      have h2 : nthD tmps t = undef := by rw [nthD_eq, List.getElem?_eq_none (by rw [← h.len, hf.len]; omega)]; rfl
      rw [h1, h2]
theorem Frm.join {w R : Nat} {E E' : List Value} (hf : Frm w E E') : Frm w E (setMany E (slots E.length (w &&& R)) (getMany E' (slots E.length (w &&& R)))) := by
  refine ⟨setMany_length _ _ _, fun t ht => ?_⟩
  rw [setMany_get E E' hf.len _ t fun x hx => (mem_slots.1 hx).1, if_neg]
  intro hm
  have := (mem_slots.1 hm).2
  rw [Nat.testBit_and, ht] at this; cases this

/-! ### operands -/
theorem aev_rep {R : Nat} {E tmps : List Value} (h : Rep R E tmps) {x : Operand} (hx : ∀ t, (rdOpd x).testBit t = true → R.testBit t = true) : aev E x = aev tmps x := by
  cases x with
  | tmp t => exact h.at_ t (hx t (by simp [rdOpd]))
  | _ => rfl
theorem rdList_mem {l : List Operand} {x : Operand} (hx : x ∈ l) {t : Nat} (h : (rdOpd x).testBit t = true) : (rdList l).testBit t = true := by
  induction l with
  | nil => cases hx
  | cons y l ih =>
    show (rdOpd y ||| rdList l).testBit t = true
    rw [Nat.testBit_or]
    rcases List.mem_cons.1 hx with rfl | hx
    · rw [h]; rfl
    · rw [ih hx]; simp
theorem rdOps_mem {ops : Array Oper} {l : List Oper} {o : Oper} (ho : o ∈ l) {t : Nat} (h : (rdOper ops o).testBit t = true) : (rdOps ops l).testBit t = true := by
  induction l with
  | nil => cases ho
  | cons y l ih =>
    show (rdOper ops y ||| rdOps ops l).testBit t = true
    rw [Nat.testBit_or]
    rcases List.mem_cons.1 ho with rfl | hx
    · rw [h]; rfl
    · rw [ih hx]; simp
theorem oper_rep {ops : Array Oper} {R : Nat} {E tmps : List Value} {o : Oper} (h : Rep R E tmps) (hR : ∀ t, (rdOper ops o).testBit t = true → R.testBit t = true) : ∀ x ∈ o.op.operands, aev E x = aev tmps x := by
  intro x hx
  refine aev_rep h fun t ht => hR t ?_
  unfold rdOper; rw [Nat.testBit_or, rdList_mem (Array.mem_toList_iff.2 hx) ht]; rfl
theorem guard_rep {ops : Array Oper} {R : Nat} {E tmps : List Value} {o : Oper} (h : Rep R E tmps) (hR : ∀ t, (rdOper ops o).testBit t = true → R.testBit t = true) {d : Nat} {want : Bool} (hg : gdSlot ops o = some (d, want)) : awanted ops tmps o = gd (nthD E d) want := by
  have hd : nthD E d = nthD tmps d := h.at_ d (hR d (by unfold rdOper; rw [Nat.testBit_or, hg]; simp))
  unfold gdSlot at hg
  unfold awanted
  split at hg
  · cases hg
  · rename_i j w hgd
    rw [hgd]
    dsimp only
    unfold ayields
    split at hg
    · rename_i p hp
      rw [hp]
      dsimp only
      split at hg
      · rename_i d' hd'
        obtain ⟨rfl, rfl⟩ := Prod.mk.inj (Option.some.inj hg)
        rw [hd']
        dsimp only
        rw [hd]
        unfold nthD
        cases nth tmps d' with
        | none => rfl
        | some v => cases v <;> first | rfl | (rename_i b; cases b <;> cases w <;> rfl)
      · cases hg
    · cases hg
theorem wanted_none {ops : Array Oper} {tmps : List Value} {o : Oper} (h : o.guard = none) : awanted ops tmps o = true := by unfold awanted; rw [h]

/-! ### operations -/
section
variable {P : Program}
theorem binG_eq {E : List Value} {o : Oper} {op : BinOp} {t yt : TypeId} {x y : Operand} (ho : o.op = .binOp op t x y yt) (C : CallT) (k : Value → Nat → AM) (s : Nat) :
    AM.le (binG P op t yt (isC x) (isC y) (aev E x) (aev E y) k s) (aop P (aev E) o (xnext C k) s) := by
  obtain ⟨dst, oo, ty, pos, after, guard⟩ := o
  dsimp only at ho; subst ho
  have h1 : aop P (aev E) ⟨dst, .binOp op t x y yt, ty, pos, after, guard⟩ (xnext C k) s = aop P (aev [aev E x, aev E y]) ⟨none, .binOp op t (opdX (isC x) 0 (aev E x)) (opdX (isC y) 1 (aev E y)) yt, 0, "", #[], none⟩ (xnext C k) s := by
    have e0 : aev [aev E x, aev E y] (opdX (isC x) 0 (aev E x)) = aev E x := by cases isC x <;> rfl
    have e1 : aev [aev E x, aev E y] (opdX (isC y) 1 (aev E y)) = aev E y := by cases isC y <;> rfl
    have hall : (Op.operands (.binOp op t x y yt)).toList.all (fun z => plainV (aev E z)) = (Op.operands (.binOp op t (opdX (isC x) 0 (aev E x)) (opdX (isC y) 1 (aev E y)) yt)).toList.all (fun z => plainV (aev [aev E x, aev E y] z)) := by
      simp [Op.operands, e0, e1]
    have hg : ∀ a b, eqGuard op t x y a b = eqGuard op t (opdX (isC x) 0 (aev E x)) (opdX (isC y) 1 (aev E y)) a b := by
      intro a b
      unfold eqGuard
      cases x <;> cases y <;> rfl
    have hex : execOp (aev E) ⟨dst, .binOp op t x y yt, ty, pos, after, guard⟩ = execOp (aev [aev E x, aev E y]) ⟨none, .binOp op t (opdX (isC x) 0 (aev E x)) (opdX (isC y) 1 (aev E y)) yt, 0, "", #[], none⟩ := by
      unfold execOp; simp only [e0, e1, hg]
    unfold aop
    dsimp only
    rw [e0, e1]
    unfold aplain
    dsimp only
    rw [hall, hex]
  rw [h1]
  unfold binG
  refine cg_op _ _ _ _ _ fun nx s => ?_
  cases nx <;> first | exact .refl _ | exact .fail _
theorem arI_le {E : List Value} {o : Oper} {op : BinOp} {t yt : TypeId} {x y : Operand} (ho : o.op = .binOp op t x y yt) (C : CallT) (k : Value → Nat → AM) (s : Nat) (f : IntKind → Int → Int → Value)
    (hf : ∀ kd a b, intF op kd a b = some (f kd a b)) : AM.le (arI f (binG P op t yt (isC x) (isC y) (aev E x) (aev E y)) (aev E x) (aev E y) k s) (aop P (aev E) o (xnext C k) s) := by
  have hg := binG_eq (P := P) (E := E) ho C k s
  cases hx : aev E x with
  | int k1 a =>
    cases hy : aev E y with
    | int k2 b =>
      rw [hx, hy] at hg
      show AM.le (Bool.rec (motive := fun _ => AM) (binG P op t yt (isC x) (isC y) (.int k1 a) (.int k2 b) k s) (k (f k1 a b) s) (kEq k1 k2)) _
      cases hk : kEq k1 k2 with
      | false => exact hg
      | true =>
        have := kEq_eq hk; subst this
        rw [intF_spec ho hx hy (hf k1 a b)]
        exact .refl _
    | _ => rw [hx, hy] at hg; exact hg
  | _ => rw [hx] at hg; exact hg
theorem bnot_rec (b : Bool) : (Bool.rec (motive := fun _ => Bool) true false b) = !b := by cases b <;> rfl
theorem arD_le {E : List Value} {o : Oper} {op : BinOp} {t yt : TypeId} {x y : Operand} (ho : o.op = .binOp op t x y yt) (C : CallT) (k : Value → Nat → AM) (s : Nat) (f : IntKind → Int → Int → Value)
    (hf : ∀ kd a b, b ≠ 0 → intF op kd a b = some (f kd a b)) : AM.le (arD f (binG P op t yt (isC x) (isC y) (aev E x) (aev E y)) (aev E x) (aev E y) k s) (aop P (aev E) o (xnext C k) s) := by
  have hg := binG_eq (P := P) (E := E) ho C k s
  cases hx : aev E x with
  | int k1 a =>
    cases hy : aev E y with
    | int k2 b =>
      rw [hx, hy] at hg
      show AM.le (Bool.rec (motive := fun _ => AM) (binG P op t yt (isC x) (isC y) (.int k1 a) (.int k2 b) k s) (Bool.rec (motive := fun _ => AM) (k (f k1 a b) s) (binG P op t yt (isC x) (isC y) (.int k1 a) (.int k2 b) k s) (eqZ b (.ofNat 0))) (kEq k1 k2)) _
      cases hk : kEq k1 k2 with
      | false => exact hg
      | true =>
        have := kEq_eq hk; subst this
        rw [eqZ_eq]
        cases hb : (b == Int.ofNat 0) with
        | true => exact hg
        | false =>
          have hb : b ≠ 0 := by rw [← bne_iff_ne]; simpa [bne] using hb
          rw [intF_spec ho hx hy (hf k1 a b hb)]
          exact .refl _
    | _ => rw [hx, hy] at hg; exact hg
  | _ => rw [hx] at hg; exact hg
theorem arS_le {E : List Value} {o : Oper} {op : BinOp} {t yt : TypeId} {x y : Operand} (ho : o.op = .binOp op t x y yt) (C : CallT) (k : Value → Nat → AM) (s : Nat) (f : IntKind → Int → Nat → Int)
    (hf : ∀ kd a n, op = .shl ∧ Value.int kd (f kd a n) = .int kd (kd.wrap (a * 2 ^ (min n kd.bits))) ∨ op = .shr ∧ Value.int kd (f kd a n) = .int kd (a.fdiv (2 ^ (min n kd.bits)))) : AM.le (arS f (binG P op t yt (isC x) (isC y) (aev E x) (aev E y)) (aev E x) (aev E y) k s) (aop P (aev E) o (xnext C k) s) := by
  have hg := binG_eq (P := P) (E := E) ho C k s
  cases hx : aev E x with
  | int k1 a =>
    cases hy : aev E y with
    | int k2 b =>
      rw [hx, hy] at hg
      cases b with
      | negSucc n => exact hg
      | ofNat n =>
        show AM.le (k (.int k1 (f k1 a n)) s) _
        rw [shift_spec (v := .int k1 (f k1 a n)) ho hx hy (by simp only [Int.ofNat_eq_natCast]; omega) (by simpa using hf k1 a n)]
        exact .refl _
    | _ => rw [hx, hy] at hg; exact hg
  | _ => rw [hx] at hg; exact hg
theorem binX_le {E : List Value} {o : Oper} {op : BinOp} {t yt : TypeId} {x y : Operand} (ho : o.op = .binOp op t x y yt) (C : CallT) (k : Value → Nat → AM) (s : Nat) :
    AM.le (binX P op t yt (isC x) (isC y) (aev E x) (aev E y) k s) (aop P (aev E) o (xnext C k) s) := by
  cases op with
  | add => exact arI_le ho C k s _ fun kd a b => by rw [wrapZ_eq, addZ_eq]; rfl
  | sub => exact arI_le ho C k s _ fun kd a b => by rw [wrapZ_eq, subZ_eq]; rfl
  | mul => exact arI_le ho C k s _ fun kd a b => by rw [wrapZ_eq, mulZ_eq]; rfl
  | eql => exact arI_le ho C k s _ fun kd a b => by rw [eqZ_eq]; rfl
  | neq => exact arI_le ho C k s _ fun kd a b => by rw [eqZ_eq, bnot_rec]; rfl
  | lss => exact arI_le ho C k s _ fun kd a b => by rw [ltZ_eq]; rfl
  | leq => exact arI_le ho C k s _ fun kd a b => by rw [leZ_eq]; rfl
  | gtr => exact arI_le ho C k s _ fun kd a b => by rw [ltZ_eq]; rfl
  | geq => exact arI_le ho C k s _ fun kd a b => by rw [leZ_eq]; rfl
  | and => exact arI_le ho C k s _ fun kd a b => by rw [andZ_eq]; rfl
  | or => exact arI_le ho C k s _ fun kd a b => by rw [orZ_eq]; rfl
  | xor => exact arI_le ho C k s _ fun kd a b => by rw [xorZ_eq]; rfl
  | quo => exact arD_le ho C k s _ fun kd a b hb => by rw [wrapZ_eq]; unfold intF; simp [hb]
  | rem => exact arD_le ho C k s _ fun kd a b hb => by unfold intF; simp [hb]
  | shl => exact arS_le ho C k s _ fun kd a n => .inl ⟨rfl, by rw [shlZ_eq]⟩
  | shr => exact arS_le ho C k s _ fun kd a n => .inr ⟨rfl, by rw [shrZ_eq]⟩
  | _ => exact binG_eq ho C k s
theorem opG_of {E vs : List Value} {o : Oper} {op : Op} (h : ∀ K s, aop P (aev E) o K s = aop P (aev vs) ⟨none, op, 0, "", #[], none⟩ K s) (C : CallT) (k : Value → Nat → AM) (s : Nat) : AM.le (opG P op vs k s) (aop P (aev E) o (xnext C k) s) := by
  rw [h]
  unfold opG
  refine cg_op _ _ _ _ _ fun nx s => ?_
  cases nx <;> first | exact .refl _ | exact .fail _
theorem plain_of {E vs : List Value} {o p : Oper} (h1 : o.op.operands.toList.all (fun z => plainV (aev E z)) = p.op.operands.toList.all (fun z => plainV (aev vs z))) (h2 : execOp (aev E) o = execOp (aev vs) p) (K : Next → Nat → AM) (s : Nat) :
    aplain P (aev E) o K s = aplain P (aev vs) p K s := by
  unfold aplain; rw [h1, h2]
theorem un_eq {E : List Value} {o : Oper} {op : UnOp} {t : TypeId} {x : Operand} (ho : o.op = .unOp op t x) (K : Next → Nat → AM) (s : Nat) : aop P (aev E) o K s = aop P (aev [aev E x]) ⟨none, .unOp op t (.tmp 0), 0, "", #[], none⟩ K s := by
  obtain ⟨dst, oo, ty, pos, after, guard⟩ := o
  dsimp only at ho; subst ho
  have e0 : aev [aev E x] (.tmp 0) = aev E x := rfl
  unfold aop
  exact plain_of (by simp [Op.operands, e0]) (by unfold execOp; simp only [e0]) K s
theorem conv_eq {E : List Value} {o : Oper} {src dst : TypeId} {x : Operand} (ho : o.op = .convert src dst x) (K : Next → Nat → AM) (s : Nat) : aop P (aev E) o K s = aop P (aev [aev E x]) ⟨none, .convert src dst (.tmp 0), 0, "", #[], none⟩ K s := by
  obtain ⟨dd, oo, ty, pos, after, guard⟩ := o
  dsimp only at ho; subst ho
  have e0 : aev [aev E x] (.tmp 0) = aev E x := rfl
  unfold aop
  dsimp only
  rw [e0, plain_of (P := P) (o := ⟨dd, .convert src dst x, ty, pos, after, guard⟩) (p := ⟨none, .convert src dst (.tmp 0), 0, "", #[], none⟩) (vs := [aev E x]) (by simp [Op.operands, e0]) (by unfold execOp; simp only [e0]) K s]
theorem convX_le {E : List Value} {o : Oper} {src dst : TypeId} {x : Operand} (ho : o.op = .convert src dst x) (C : CallT) (k : Value → Nat → AM) (s : Nat) : AM.le (convX P src dst (aev E x) k s) (aop P (aev E) o (xnext C k) s) := by
  have hg : AM.le (opG P (.convert src dst (.tmp 0)) [aev E x] k s) (aop P (aev E) o (xnext C k) s) := opG_of (conv_eq ho) C k s
  cases hx : aev E x with
  | int kk a =>
    rw [hx] at hg
    show AM.le (Option.rec (motive := fun _ => AM) (opG P (.convert src dst (.tmp 0)) [.int kk a] k s) (fun kd => Option.rec (motive := fun _ => AM) (opG P (.convert src dst (.tmp 0)) [.int kk a] k s) (fun _ => k (.int kd (wrapZ kd a)) s) (intOf P src)) (intOf P dst)) _
    cases hd : intOf P dst with
    | none => exact hg
    | some kd =>
      cases hs : intOf P src with
      | none => exact hg
      | some ks =>
        have h1 : ∀ {t : TypeId} {k : IntKind}, intOf P t = some k → P.underlying t = some (.int k) := by
          intro t k h
          unfold intOf at h
          split at h
          · rename_i h'; cases h; exact h'
          · cases h
        show AM.le (k (.int kd (wrapZ kd a)) s) _
        rw [conv_spec ho (h1 hs) (h1 hd) hx, wrapZ_eq]
        exact .refl _
  | _ => rw [hx] at hg; exact hg
theorem slice_eq {E : List Value} {o : Oper} {t : TypeId} {x : Operand} {lo hi mx : Option Operand} (ho : o.op = .slice t x lo hi mx) (C : CallT) (k : Value → Nat → AM) (s : Nat) :
    AM.le (sliceX P t (aev E x) (oval (aev E) lo) (oval (aev E) hi) (oval (aev E) mx) k s) (aop P (aev E) o (xnext C k) s) := by
  have hg : P.underlying t = some .string → AM.le (opG P (.slice t (.tmp 0) ((oval (aev E) lo).map fun _ => .tmp 1) ((oval (aev E) hi).map fun _ => .tmp 2) ((oval (aev E) mx).map fun _ => .tmp 3)) [aev E x, (oval (aev E) lo).getD undef, (oval (aev E) hi).getD undef, (oval (aev E) mx).getD undef] k s) (aop P (aev E) o (xnext C k) s) := by
    intro ht
    refine opG_of (fun K s => ?_) C k s
    obtain ⟨dd, oo, ty, pos, after, guard⟩ := o
    dsimp only at ho; subst ho
    unfold aop
    dsimp only
    rw [ht]
    dsimp only
    refine plain_of ?_ ?_ K s
    · cases lo <;> cases hi <;> cases mx <;> rfl
    · unfold execOp
      cases lo <;> cases hi <;> cases mx <;> rfl
  unfold sliceX
  split
  · rename_i ht; exact hg ht
  · rename_i ht
    unfold aop
    rw [ho]
    dsimp only
    split
    · rename_i h; exact absurd h ht
    · exact .refl _
theorem index_eq {E : List Value} {o : Oper} {t : TypeId} {x i : Operand} (ho : o.op = .index t x i) (C : CallT) (k : Value → Nat → AM) (s : Nat) :
    AM.le (indexX P t (aev E x) (aev E i) k s) (aop P (aev E) o (xnext C k) s) := by
  have hg : P.underlying t = some .string → AM.le (opG P (.index t (.tmp 0) (.tmp 1)) [aev E x, aev E i] k s) (aop P (aev E) o (xnext C k) s) := by
    intro ht
    refine opG_of (fun K s => ?_) C k s
    obtain ⟨dd, oo, ty, pos, after, guard⟩ := o
    dsimp only at ho; subst ho
    unfold aop
    dsimp only
    rw [ht]
    dsimp only
    refine plain_of ?_ ?_ K s
    · rfl
    · unfold execOp; rfl
  unfold indexX
  split
  · rename_i ht; exact hg ht
  · rename_i ht
    unfold aop
    rw [ho]
    dsimp only
    split
    · rename_i h; exact absurd h ht
    · exact .refl _
theorem unX_le {E : List Value} {o : Oper} {op : UnOp} {t : TypeId} {x : Operand} (ho : o.op = .unOp op t x) (C : CallT) (k : Value → Nat → AM) (s : Nat) : AM.le (unX P op t (aev E x) k s) (aop P (aev E) o (xnext C k) s) := by
  have hg := opG_of (P := P) (un_eq (P := P) (E := E) ho) C k s
  cases op with
  | not =>
    show AM.le (notX P t (aev E x) k s) _
    unfold notX
    cases hv : aev E x with
    | bool b =>
      have : aop P (aev E) o (xnext C k) s = k (.bool !b) s := by
        unfold aop
        rw [ho]
        dsimp only
        unfold aplain
        have h1 : o.op.operands.toList.all (fun z => plainV (aev E z)) = true := by rw [ho]; simp [Op.operands, hv, plainV, plain1]
        have h2 : pureRun P (execOp (aev E) o) = some (.value (.bool !b)) := by
          unfold execOp; rw [ho]; dsimp only; rw [hv]; rfl
        rw [h1, h2]; rfl
      rw [this]
      show AM.le (k (.bool (Bool.rec (motive := fun _ => Bool) true false b)) s) _
      rw [bnot_rec]; exact .refl _
    | _ => rw [hv] at hg; exact hg
  | _ => exact hg
theorem nilX_le {E : List Value} {o : Oper} {x : Operand} (ho : o.op = .nilCheck x) (C : CallT) (k : Value → Nat → AM) (s : Nat) : AM.le (nilX (aev E x) k s) (aop P (aev E) o (xnext C k) s) := by
  unfold aop nilX
  rw [ho]
  dsimp only
  split <;> simp_all [xnext, AM.le.refl, AM.le.fail]
theorem lenX_le (ts : Array TypeId) (v : Value) (C : CallT) (k : Value → Nat → AM) (s : Nat) (t : TypeId) (cs : Array Bool) : AM.le (lenX P ts v k s) (abuiltin P .len ts t cs [v] (xnext C k) s) := by
  cases v with
  | slice a n c =>
    show AM.le (Bool.rec (motive := fun _ => AM) .fail (k (.int .i64 (Int.ofNat n)) s) (isSl P ts)) (M.opt (alen P ts (.slice a n c)) (fun v => xnext C k (.value v)) s)
    cases hs : isSl P ts with
    | false => exact .fail _
    | true =>
      unfold isSl at hs
      unfold alen
      split at hs
      · split at hs
        · rename_i t ht0 _ _ ht1
          rw [ht0]
          dsimp only
          rw [ht1]
          exact .refl _
        · cases hs
      · cases hs
  | map r => cases r <;> exact .refl _
  | _ => exact .refl _
theorem bltX_le (C : CallT) (b : Builtin) (ts : Array TypeId) (t : TypeId) (cs : Array Bool) (args : List Value) (k : Value → Nat → AM) (s : Nat) : AM.le (bltX P C b ts t cs args k s) (abuiltin P b ts t cs args (xnext C k) s) := by
  cases b
  case len =>
    match args with
    | [] => exact .refl _
    | [x] => exact lenX_le _ _ _ _ _ _ _
    | _ :: _ :: _ => exact .refl _
  case append => match args with
    | [] => exact .refl _
    | [x] => exact .refl _
    | [x, y] => exact .refl _
    | _ :: _ :: _ :: _ => exact .refl _
  case copy => match args with
    | [] => exact .refl _
    | [x] => exact .refl _
    | [x, y] => exact .refl _
    | _ :: _ :: _ :: _ => exact .refl _
  case cap => match args with
    | [] => exact .refl _
    | [x] => exact .refl _
    | _ :: _ :: _ => exact .refl _
  case clear => match args with
    | [] => exact .refl _
    | [x] => exact .refl _
    | _ :: _ :: _ => exact .refl _
  all_goals exact .refl _
theorem bltX_to (C : CallT) (b : Builtin) (ts : Array TypeId) (t : TypeId) (cs : Array Bool) (args : List Value) (k : Value → Nat → AM) {G : Next → Nat → AM} (hN : ∀ nx s, AM.le (xnext C k nx s) (G nx s)) (s : Nat) : AM.le (bltX P C b ts t cs args k s) (abuiltin P b ts t cs args G s) :=
  (bltX_le C b ts t cs args k s).trans (cg_builtin _ _ _ _ _ _ _ _ hN)
theorem invV_to {C : CallT} {k : Value → Nat → AM} {G : Next → Nat → AM} (hN : ∀ nx s, AM.le (xnext C k nx s) (G nx s)) (hY : ∀ l args s, AM.le (C 1000000 (.int .i64 (.ofNat l) :: args) k s) (ayield l args G s)) (fn : Fn) (first cap : Array Value) (args : List Value) (s : Nat) :
    AM.le (invV P C (.func fn first cap) args k s) (ainvoke P { target := .fn fn cap, args := ⟨first.toList ++ args⟩ } G s) := by
  cases fn with
  | yield l => exact hY l _ s
  | func f => unfold invV; exact cg_invoke _ _ _ _ hN
  | method n => unfold invV; exact cg_invoke _ _ _ _ hN
  | methodOf a b => unfold invV; exact cg_invoke _ _ _ _ hN
  | via a b c d => unfold invV; exact cg_invoke _ _ _ _ hN
theorem callX_to {E : List Value} {o : Oper} {c : Call} (ho : o.op = .call c) {C : CallT} {k : Value → Nat → AM} {G : Next → Nat → AM} (hz : P.funcs[1000000]? = none) (hN : ∀ nx s, AM.le (xnext C k nx s) (G nx s)) (hY : ∀ l args s, AM.le (C 1000000 (.int .i64 (.ofNat l) :: args) k s) (ayield l args G s)) (s : Nat) : AM.le (callX P C (aev E) o c k s) (aop P (aev E) o G s) := by
  have hcall : aop P (aev E) o G s = match aresolve (aev E) c o.type with | some d => ainvoke P d G s | none => .fail := by unfold aop; rw [ho]; rfl
  have hinv : ∀ f, c.callee = .value f → AM.le (invV P C (aev E f) (c.args.toList.map (aev E)) k s) (aop P (aev E) o G s) := by
    intro f hc
    rw [hcall]
    unfold aresolve
    rw [hc]
    dsimp only
    cases hv : aev E f <;> first | exact .fail _ | skip
    exact invV_to hN hY _ _ _ _ _
  unfold callX
  cases hc : c.callee with
  | value x =>
    cases x with
    | func f =>
      show AM.le (Bool.rec (motive := fun _ => AM) (invV P C (aev E (.func f)) (c.args.toList.map (aev E)) k s) (C f (c.args.toList.map (aev E)) k s) (okFn P f)) _
      cases hf : okFn P f with
      | false => exact hinv _ hc
      | true =>
        rw [hcall]
        unfold aresolve
        rw [hc]
        dsimp only [aev]
        unfold ainvoke
        dsimp only
        rw [hf]
        simp only [cond_true]
        refine AM.le.trans ?_ (hN _ s)
        have hne : Nat.beq f 1000000 = false := by
          refine beq_no fun e => ?_
          subst e
          unfold okFn at hf; rw [hz] at hf; cases hf
        have : (#[] : Array Value).toList ++ List.map (aev E) c.args.toList ++ (#[] : Array Value).toList = List.map (aev E) c.args.toList := by simp
        unfold xnext
        simp only [this, hne]
        exact .refl _
    | _ => exact hinv _ hc
  | invoke r name =>
    rw [hcall]
    unfold aresolve
    rw [hc]
    exact cg_invoke _ _ _ _ hN
  | builtin b =>
    rw [hcall]
    unfold aresolve
    rw [hc]
    dsimp only
    exact bltX_to _ _ _ _ _ _ _ hN _
theorem xopV_le (C : CallT) (E : List Value) (o : Oper) (hnc : ∀ c, o.op ≠ .call c) (k : Value → Nat → AM) (s : Nat) : AM.le (xopV P C E o k s) (aop P (aev E) o (xnext C k) s) := by
  unfold xopV
  cases h : o.op
  case move x =>
    show AM.le (aevC E x (fun v => k v s)) _
    rw [aevC_eq]; unfold aop; rw [h]; exact .refl _
  case assign x =>
    show AM.le (aevC E x (fun v => k v s)) _
    rw [aevC_eq]; unfold aop; rw [h]; exact .refl _
  case pick c a b =>
    unfold aop; rw [h]; dsimp only
    show AM.le (pickX _ _ _ k s) _
    unfold pickX
    cases aev E c with
    | bool t => cases t <;> exact .refl _
    | _ => exact .fail _
  case nilCheck x => exact nilX_le h C k s
  case extract x i =>
    unfold aop; rw [h]; dsimp only
    show AM.le (extX _ _ k s) _
    unfold extX
    cases aev E x <;> first | exact .refl _ | exact .fail _
  case makeInterface t x =>
    unfold aop; rw [h]; dsimp only
    show AM.le (ifcX P _ _ k s) _
    unfold ifcX
    cases P.underlying t with
    | none => exact .refl _
    | some d => cases d <;> exact .refl _
  case makeFunc f xs ys =>
    unfold aop; rw [h]; dsimp only
    show AM.le (funX f _ _ k s) _
    unfold funX
    cases f <;> exact .refl _
  case slice => exact slice_eq h C k s
  case index => exact index_eq h C k s
  case unOp => exact unX_le h C k s
  case convert => exact convX_le h C k s
  case binOp => exact binX_le h C k s
  case call c => exact absurd h (hnc c)
  case makeMap t r =>
    unfold aop; rw [h]
    cases r with
    | none => exact .refl _
    | some _ => exact .fail _
  case next it str =>
    unfold aop; rw [h]
    cases str with
    | false => exact .fail _
    | true => exact .refl _
  all_goals first | (unfold aop; rw [h]; exact .refl _) | exact .fail _
theorem aev_congr_xopV {E tmps : List Value} (C : CallT) (o : Oper) (hnc : ∀ c, o.op ≠ .call c) (h : ∀ x ∈ o.op.operands, aev E x = aev tmps x) (k : Value → Nat → AM) (s : Nat) : AM.le (xopV P C E o k s) (aop P (aev tmps) o (xnext C k) s) := by
  rw [← aop_congr o h]; exact xopV_le C E o hnc k s
/-- An operation, and what it goes on with. -/
theorem xopV_to {E tmps : List Value} {C : CallT} {o : Oper} (hz : P.funcs[1000000]? = none) (h : ∀ x ∈ o.op.operands, aev E x = aev tmps x) {k : Value → Nat → AM} {G : Next → Nat → AM} (hN : ∀ nx s, AM.le (xnext C k nx s) (G nx s)) (hY : ∀ l args s, AM.le (C 1000000 (.int .i64 (.ofNat l) :: args) k s) (ayield l args G s)) (s : Nat) : AM.le (xopV P C E o k s) (aop P (aev tmps) o G s) := by
  rw [← aop_congr o h]
  by_cases hc : ∃ c, o.op = .call c
  · obtain ⟨c, hc⟩ := hc
    have : xopV P C E o k s = callX P C (aev E) o c k s := by unfold xopV; rw [hc]
    rw [this]
    exact callX_to hc hz hN hY s
  · exact (xopV_le C E o (fun c e => hc ⟨c, e⟩) k s).trans (cg_op _ _ _ _ _ hN)

/-! ### calls -/
noncomputable def back (P : Program) [Known P] (n : Nat) (cs : List AF) (fin : Value → Nat → AM) (v : Value) (s : Nat) : AM := match cs with
  | [] => fin v s
  | c :: rest => arun P n (c.finish v) rest fin s
noncomputable def entered (P : Program) [Known P] (n : Nat) (f : FuncId) (args : List Value) (cs : List AF) (fin : Value → Nat → AM) (s : Nat) : AM := askK P f args (back P n cs fin (.bool true) s) (match AF.enter P f args .normal with
  | some b => arun P n b cs fin s
  | none => .fail)
def CallOK (P : Program) [Known P] (C : CallT) (J : Nat) (f : FuncId) : Prop := ∀ args K n cs fin s, (∀ v s', AM.le (K v s') (back P n cs fin v s')) → AM.le (C f args K s) (entered P (n + J) f args cs fin s)
theorem CallOK.more [Known P] {C : CallT} {J J' : Nat} {f : FuncId} (h : CallOK P C J f) (hj : J ≤ J') : CallOK P C J' f := by
  intro args K n cs fin s hK
  refine (h args K n cs fin s hK).trans ?_
  unfold entered
  refine le_ask ?_ ?_
  · unfold back
    split
    · exact .refl _
    · exact arun_add (by omega) _ _ _ _
  split
  · exact arun_add (by omega) _ _ _ _
  · exact .fail _
/-- What a yield does. -/
noncomputable def roundA (P : Program) [Known P] (n : Nat) (cs : List AF) (fin : Value → Nat → AM) (nx : Next) (s : Nat) : AM := match nx with
  | .round l f t as body => arun P n ⟨f, t.toList, [.code as, .beginRound, .code body], [], .run, .normal, some l⟩ cs fin s
  | _ => .fail
def RoundOK (P : Program) [Known P] (C : CallT) (J : Nat) : Prop := ∀ (l : Nat) args K n cs fin s, (∀ v s', AM.le (K v s') (back P n cs fin v s')) → AM.le (C 1000000 (.int .i64 (.ofNat l) :: args) K s) (ayield l args (roundA P (n + J) cs fin) s)
structure AllOK (P : Program) [Known P] (C : CallT) (J : Nat) : Prop where
  big : P.funcs[1000000]? = none
  call : ∀ f, f ≠ 1000000 → CallOK P C J f
  round : RoundOK P C J
theorem roundA_more [Known P] {n m : Nat} (h : n ≤ m) (cs : List AF) (fin : Value → Nat → AM) (nx : Next) (s : Nat) : AM.le (roundA P n cs fin nx s) (roundA P m cs fin nx s) := by
  unfold roundA
  split
  · exact arun_add h _ _ _ _
  · exact .fail _
theorem AllOK.more [Known P] {C : CallT} {J J' : Nat} (h : AllOK P C J) (hj : J ≤ J') : AllOK P C J' :=
  ⟨h.big, fun f hf => (h.call f hf).more hj, fun l args K n cs fin s hK => (h.round l args K n cs fin s hK).trans (cg_yield _ _ _ _ _ fun nx s => roundA_more (by omega) _ _ _ _)⟩
theorem xnext_apply [Known P] {C : CallT} {J : Nat} (hC : AllOK P C J) {n : Nat} {a : AF} {cs : List AF} {fin : Value → Nat → AM} {k : Value → Nat → AM} (hd : ∀ v s, AM.le (k v s) (arun P n (a.finish v) cs fin s)) (nx : Next) (s : Nat) :
    AM.le (xnext C k nx s) (aapply P (fun a' cs' s' => arun P (n + J) a' cs' fin s') a cs nx s) := by
  unfold xnext aapply
  cases nx with
  | value v => exact (hd v s).trans (arun_add (by omega) _ _ _ _)
  | skip => exact (hd _ s).trans (arun_add (by omega) _ _ _ _)
  | enter f args =>
    dsimp only
    cases hb : Nat.beq f 1000000 with
    | true => exact .fail _
    | false => exact hC.call f (fun e => by subst e; rw [beq_yes] at hb; cases hb) args.toList k n (a :: cs) fin s hd
  | _ => exact .fail _
theorem yield_apply [Known P] {C : CallT} {J : Nat} (hC : AllOK P C J) {n : Nat} {a : AF} {cs : List AF} {fin : Value → Nat → AM} {k : Value → Nat → AM} (hd : ∀ v s, AM.le (k v s) (arun P n (a.finish v) cs fin s)) (l : Nat) (args : List Value) (s : Nat) :
    AM.le (C 1000000 (.int .i64 (.ofNat l) :: args) k s) (ayield l args (aapply P (fun a' cs' s' => arun P (n + J) a' cs' fin s') a cs) s) := by
  refine (hC.round l args k n (a :: cs) fin s hd).trans (cg_yield _ _ _ _ _ fun nx s => ?_)
  unfold roundA
  split
  · exact .refl _
  · exact .fail _
noncomputable def nestA (P : Program) [Known P] (n : Nat) (nx : Next) (s : Nat) : AM := match nx with
    | .value v => .ret (pk v s)
    | .skip => .ret (pk undef s)
    | .enter f args => askK P f args.toList (.ret (pk (.bool true) s)) (match AF.enter P f args.toList .normal with
      | some a => arun P n a [] (fun v s' => .ret (pk v s')) s
      | none => .fail)
    | .round l f t as body => arun P n ⟨f, t.toList, [.code as, .beginRound, .code body], [], .run, .normal, some l⟩ [] (fun v s' => .ret (pk v s')) s
    | _ => .fail
theorem xnext_nest [Known P] {C : CallT} {J : Nat} (hC : AllOK P C J) {n : Nat} (hn : J ≤ n) (nx : Next) (s : Nat) :
    AM.le (xnext C (fun v s => .ret (pk v s)) nx s) (nestA P n nx s) := by
  unfold xnext nestA
  cases nx with
  | value v => exact .refl _
  | skip => exact .refl _
  | enter f args =>
    dsimp only
    cases hb : Nat.beq f 1000000 with
    | true => exact .fail _
    | false =>
      have := (hC.call f (fun e => by subst e; rw [beq_yes] at hb; cases hb)).more hn args.toList (fun v s => .ret (pk v s)) 0 [] (fun v s => .ret (pk v s)) s (fun v s => .refl _)
      unfold entered at this
      rw [Nat.zero_add] at this
      exact this
  | _ => exact .fail _
theorem yield_nest [Known P] {C : CallT} {J : Nat} (hC : AllOK P C J) {n : Nat} (hn : J ≤ n) (l : Nat) (args : List Value) (s : Nat) :
    AM.le (C 1000000 (.int .i64 (.ofNat l) :: args) (fun v s => .ret (pk v s)) s) (ayield l args (nestA P n) s) := by
  have h := hC.round l args (fun v s => .ret (pk v s)) 0 [] (fun v s => .ret (pk v s)) s (fun v s => .refl _)
  refine h.trans (cg_yield _ _ _ _ _ fun nx s => ?_)
  unfold roundA
  split
  · exact arun_add (by omega) _ _ _ _
  · exact .fail _
theorem aopV_nest [Known P] (n : Nat) (tmps : List Value) (o : Oper) (s : Nat) : aopV P (fun b q => arun P n b [] q) tmps o s = aop P (aev tmps) o (nestA P n) s := by
  unfold aopV nestA
  congr 1
end
end Go.Ev

/- Operations that may come up in several orders: in whatever order their edges allow, they come to the same. No condition. -/
import Derived.Test.YtpfnoffadfahmaaGreatEvM
namespace Go.Ev
set_option linter.unusedVariables false
set_option linter.unusedSimpArgs false
open Go Go.RowKit

theorem AM.runL_kept (m : AM) : ∀ (h : T) (ts ws : List Nat) (o : Out), m.runL h ts ws = some o → ∀ n, n ∉ o.ws → o.h.get n = h.get n := by
  induction m with
  | ret v => intro h ts ws o e n _; rw [runL_ret] at e; obtain rfl := Option.some.inj e; rfl
  | get n k ih =>
    intro h ts ws o e; rw [runL_get] at e
    split at e
    · exact ih _ _ _ _ _ e
    · cases e
  | put n x k ih =>
    intro h ts ws o e i hi; rw [runL_put] at e
    split at e
    · have hn : n ∈ o.ws := (mem_ts _ _ _ _ _ e).2.1 n (by simp)
      rw [ih _ _ _ _ e i hi, T.get_set, if_neg (fun (e0 : n = i) => hi (e0 ▸ hn))]
    · cases e
  | new n x k ih =>
    intro h ts ws o e i hi; rw [runL_new] at e
    split at e
    · cases e
    · have hn : n ∈ o.ws := (mem_ts _ _ _ _ _ e).2.1 n (by simp)
      rw [ih _ _ _ _ e i hi, T.get_set, if_neg (fun (e0 : n = i) => hi (e0 ▸ hn))]
  | log m k ihm ihk =>
    intro h ts ws o e i hi; rw [runL_log] at e
    split at e
    · rename_i v h' ts' ws' hm
      have hi1 : i ∉ ws' := fun hw => hi ((mem_ts _ _ _ _ _ e).2.1 i (by simp [hw]))
      rw [ihk _ _ _ _ _ _ _ e i hi, ihm _ _ _ _ hm i hi1]
    · cases e
  | fail => intro h ts ws o e; rw [runL_fail] at e; cases e

section
variable {P : Program}

theorem aop_congr {ρ ρ' : Operand → Value} (o : Oper) (h : ∀ x ∈ o.op.operands, ρ x = ρ' x) : aop P ρ o = aop P ρ' o := by
  obtain ⟨dst, op, ty, pos, after, guard⟩ := o
  dsimp only at h
  have hplain : (∀ cs b, op ≠ .select cs b) → aplain P ρ ⟨dst, op, ty, pos, after, guard⟩ = aplain P ρ' ⟨dst, op, ty, pos, after, guard⟩ := by
    intro hs
    have he := execOp_congr (⟨dst, op, ty, pos, after, guard⟩ : Oper) hs h
    have ha : op.operands.toList.all (fun x => plainV (ρ x)) = op.operands.toList.all (fun x => plainV (ρ' x)) := by
      rw [Bool.eq_iff_iff, List.all_eq_true, List.all_eq_true]
      constructor
      · intro q x hx; rw [← h x (Array.mem_toList_iff.1 hx)]; exact q x hx
      · intro q x hx; rw [h x (Array.mem_toList_iff.1 hx)]; exact q x hx
    unfold aplain
    dsimp only
    rw [he, ha]
  have hcall : ∀ (c : Call), (∀ x ∈ c.operands, ρ x = ρ' x) → aresolve ρ c ty = aresolve ρ' c ty := by
    intro c hc
    have hargs : c.args.toList.map ρ = c.args.toList.map ρ' := List.map_congr_left fun x hx => hc x (by
      unfold Call.operands; simp only [Array.mem_append]; exact .inr (Array.mem_toList_iff.1 hx))
    unfold aresolve
    rw [hargs]
    cases hcal : c.callee with
    | builtin b => rfl
    | invoke r n => dsimp only; rw [hc r (by unfold Call.operands; rw [hcal]; simp)]
    | value f => dsimp only; rw [hc f (by unfold Call.operands; rw [hcal]; simp)]
  unfold aop
  dsimp only
  cases op with
  | move x => dsimp only; rw [h x (by simp [Op.operands])]
  | assign x => dsimp only; rw [h x (by simp [Op.operands])]
  | pick c a b => dsimp only; rw [h c (by simp [Op.operands]), h a (by simp [Op.operands]), h b (by simp [Op.operands])]
  | box t x => dsimp only; rw [h x (by simp [Op.operands])]
  | build t ps =>
    have : (ps.toList.map fun p => (p.1, ρ p.2)) = ps.toList.map fun p => (p.1, ρ' p.2) := List.map_congr_left fun p hp => by
      rw [h p.2 (by simp only [Op.operands, List.mem_toArray, List.mem_map]; exact ⟨p, hp, rfl⟩)]
    simp only [this]
  | buildSlice t n ps =>
    have : (ps.toList.map fun p => (p.1, ρ p.2)) = ps.toList.map fun p => (p.1, ρ' p.2) := List.map_congr_left fun p hp => by
      rw [h p.2 (by simp only [Op.operands, List.mem_toArray, List.mem_map]; exact ⟨p, hp, rfl⟩)]
    simp only [this]
  | load t a => dsimp only; rw [h a (by simp [Op.operands])]
  | store t a x => dsimp only; rw [h a (by simp [Op.operands]), h x (by simp [Op.operands])]
  | nilCheck x => dsimp only; rw [h x (by simp [Op.operands])]
  | binOp op t x y yt => dsimp only; rw [h x (by simp [Op.operands]), h y (by simp [Op.operands]), hplain (by simp)]
  | convert s d x => dsimp only; rw [h x (by simp [Op.operands]), hplain (by simp)]
  | makeInterface t x => dsimp only; rw [h x (by simp [Op.operands])]
  | makeFunc f xs ys =>
    have h1 : xs.toList.map ρ = xs.toList.map ρ' := List.map_congr_left fun y hy => h y (by simp only [Op.operands, Array.mem_append]; exact .inl (Array.mem_toList_iff.1 hy))
    have h2 : ys.toList.map ρ = ys.toList.map ρ' := List.map_congr_left fun y hy => h y (by simp only [Op.operands, Array.mem_append]; exact .inr (Array.mem_toList_iff.1 hy))
    simp only [h1, h2]
  | makeSlice t l c => dsimp only; rw [h l (by simp [Op.operands]), h c (by simp [Op.operands])]
  | slice t x lo hi mx =>
    have hl : oval ρ lo = oval ρ' lo := by cases lo with | none => rfl | some y => simp [oval, h y (by simp [Op.operands])]
    have hh : oval ρ hi = oval ρ' hi := by cases hi with | none => rfl | some y => simp [oval, h y (by simp [Op.operands])]
    have hm : oval ρ mx = oval ρ' mx := by cases mx with | none => rfl | some y => simp [oval, h y (by simp [Op.operands])]
    dsimp only; rw [h x (by simp [Op.operands]), hl, hh, hm, hplain (by simp)]
  | fieldAddr t x f => dsimp only; rw [h x (by simp [Op.operands])]
  | field t x f => dsimp only; rw [h x (by simp [Op.operands])]
  | indexAddr t x i => dsimp only; rw [h x (by simp [Op.operands]), h i (by simp [Op.operands])]
  | index t x i => dsimp only; rw [h x (by simp [Op.operands]), h i (by simp [Op.operands]), hplain (by simp)]
  | lookup t x i ok => dsimp only; rw [h x (by simp [Op.operands]), h i (by simp [Op.operands])]
  | mapUpdate t m ky x => dsimp only; rw [h m (by simp [Op.operands]), h ky (by simp [Op.operands]), h x (by simp [Op.operands])]
  | insert t m ky x => dsimp only; rw [h m (by simp [Op.operands]), h ky (by simp [Op.operands]), h x (by simp [Op.operands])]
  | typeAssert x xt a ok => dsimp only; rw [h x (by simp [Op.operands])]
  | extract x i => dsimp only; rw [h x (by simp [Op.operands])]
  | call c => simp only [hcall c h]
  | defer c => simp only [hcall c h]
  | unOp op t x => dsimp only; rw [hplain (by simp)]
  | makeMap t r => cases r <;> rfl
  | range t x => dsimp only; rw [h x (by simp [Op.operands])]
  | next it str => dsimp only; rw [h it (by simp [Op.operands])]
  | _ => rfl

/-! ### the greatest of what is so -/
noncomputable def lastW (p : Nat → Bool) : Nat → Option Nat
  | 0 => none
  | n + 1 => if p n then some n else lastW p n
theorem lastW_congr {p q : Nat → Bool} : ∀ {n : Nat}, (∀ i, i < n → p i = q i) → lastW p n = lastW q n
  | 0, _ => rfl
  | n + 1, h => by
    simp only [lastW]
    rw [h n (by omega), lastW_congr (n := n) fun i hi => h i (by omega)]
theorem lastW_eq {p : Nat → Bool} {i : Nat} : ∀ {n : Nat}, i < n → p i = true → (∀ j, i < j → j < n → p j = false) → lastW p n = some i
  | 0, h, _, _ => by omega
  | n + 1, h, hp, hj => by
    simp only [lastW]
    by_cases hi : i = n
    · subst hi; rw [if_pos hp]
    · rw [if_neg (by rw [hj n (by omega) (by omega)]; simp), lastW_eq (n := n) (by omega) hp fun j a b => hj j a (by omega)]
theorem lastW_none {p : Nat → Bool} : ∀ {n : Nat}, (∀ i, i < n → p i = false) → lastW p n = none
  | 0, _ => rfl
  | n + 1, h => by
    simp only [lastW]
    rw [if_neg (by rw [h n (by omega)]; simp), lastW_none (n := n) fun i hi => h i (by omega)]

/-! ### which operations come ahead of which -/
noncomputable def maskOf (bs : List Nat) (es : List Edge) : Nat := es.foldl (fun s e => bif Region.binds .any e then s ||| 2 ^ e.on ||| bs.getD e.on 0 else s) 0
noncomputable def masks : List Oper → List Nat → List Nat
  | [], bs => bs
  | o :: os, bs => masks os (bs ++ [maskOf bs o.after.toList])

noncomputable def Closed (ops : List Oper) (D : Nat → Bool) : Prop := ∀ (j : Nat) (o : Oper), ops[j]? = some o → D j = true → ∀ e ∈ o.after, Region.binds .any e = true → D e.on = true

theorem maskOf_bit (bs : List Nat) (i : Nat) : ∀ (es : List Edge) (s : Nat), (es.foldl (fun s e => bif Region.binds .any e then s ||| 2 ^ e.on ||| bs.getD e.on 0 else s) s).testBit i = true →
    s.testBit i = true ∨ ∃ e ∈ es, Region.binds .any e = true ∧ (e.on = i ∨ (bs.getD e.on 0).testBit i = true)
  | [], s, h => .inl h
  | e :: es, s, h => by
    simp only [List.foldl_cons] at h
    rcases maskOf_bit bs i es _ h with h | ⟨e', h1, h2, h3⟩
    · cases hb : Region.binds .any e with
      | false => rw [hb] at h; exact .inl h
      | true =>
        rw [hb] at h
        simp only [cond_true, Nat.testBit_or, Bool.or_eq_true, Nat.testBit_two_pow, decide_eq_true_eq] at h
        rcases h with (h | h) | h
        · exact .inl h
        · exact .inr ⟨e, by simp, hb, .inl h⟩
        · exact .inr ⟨e, by simp, hb, .inr h⟩
    · exact .inr ⟨e', by simp [h1], h2, h3⟩

/-- The masks tell what must be in a closed set. -/
theorem masks_spec {D : Nat → Bool} (all : List Oper) (hD : Closed all D) : ∀ (os : List Oper) (bs : List Nat), (∀ k, os[k]? = all[bs.length + k]?) →
    (∀ j i, j < bs.length → D j = true → (bs.getD j 0).testBit i = true → D i = true) → ∀ j i, j < (masks os bs).length → D j = true → ((masks os bs).getD j 0).testBit i = true → D i = true
  | [], bs, _, hb, j, i, hj, hd, hbit => hb j i hj hd hbit
  | o :: os, bs, ha, hb, j, i, hj, hd, hbit => by
    simp only [masks] at hj hbit
    refine masks_spec all hD os (bs ++ [maskOf bs o.after.toList]) (fun k => ?_) ?_ j i hj hd hbit
    · have := ha (k + 1)
      simp only [List.getElem?_cons_succ] at this
      rw [this]; congr 1; simp; omega
    · intro j i hj hd hbit
      by_cases hjl : j < bs.length
      · rw [List.getD_eq_getElem?_getD, List.getElem?_append_left hjl, ← List.getD_eq_getElem?_getD] at hbit
        exact hb j i hjl hd hbit
      · have hje : j = bs.length := by simp at hj; omega
        subst hje
        have h0 : all[bs.length]? = some o := by have := ha 0; simpa using this.symm
        rw [List.getD_eq_getElem?_getD, List.getElem?_append_right (Nat.le_refl _)] at hbit
        simp at hbit
        rcases maskOf_bit bs i _ 0 (by unfold maskOf at hbit; exact hbit) with h | ⟨e, h1, h2, h3⟩
        · simp at h
        · have hde := hD _ o h0 hd e (Array.mem_toList_iff.1 h1) h2
          rcases h3 with h3 | h3
          · rw [← h3]; exact hde
          · by_cases hel : e.on < bs.length
            · exact hb e.on i hel hde h3
            · rw [List.getD_eq_getElem?_getD, List.getElem?_eq_none (by omega)] at h3; simp at h3

theorem masks_length : ∀ (os : List Oper) (bs : List Nat), (masks os bs).length = bs.length + os.length
  | [], bs => by simp [masks]
  | o :: os, bs => by simp only [masks]; rw [masks_length]; simp; omega

/-! ### which pairs meddle with each other -/
noncomputable def inL (x : Nat) (b : List Nat) : Bool := List.rec (motive := fun _ => Bool) false (fun y _ ih => Bool.rec (motive := fun _ => Bool) ih true (Nat.beq x y)) b
noncomputable def disj (a b : List Nat) : Bool := List.rec (motive := fun _ => Bool) true (fun x _ ih => Bool.rec (motive := fun _ => Bool) ih false (inL x b)) a
theorem inL_eq (x : Nat) (b : List Nat) : inL x b = b.any fun y => Nat.beq x y := by
  induction b with
  | nil => rfl
  | cons y b ih => rw [List.any_cons, ← ih]; show Bool.rec (motive := fun _ => Bool) (inL x b) true (Nat.beq x y) = _; cases Nat.beq x y <;> rfl
theorem disj_eq (a b : List Nat) : disj a b = a.all fun x => !(b.any fun y => Nat.beq x y) := by
  induction a with
  | nil => rfl
  | cons x a ih => rw [List.all_cons, ← ih, ← inL_eq]; show Bool.rec (motive := fun _ => Bool) (disj a b) false (inL x b) = _; cases inL x b <;> rfl
theorem disj_spec {a b : List Nat} (h : disj a b = true) : ∀ x, x ∈ a → x ∉ b := by
  intro x hx hb
  rw [disj_eq] at h
  have := List.all_eq_true.1 h x hx
  simp only [Bool.not_eq_true', List.any_eq_false] at this
  exact this x hb (beq_yes x)

noncomputable def pairOk (ops : Array Oper) (mk : List Nat) (rs : List (List Nat × List Nat)) (i j : Nat) : Bool :=
  match ops[i]?, ops[j]?, rs[i]?, rs[j]? with
  | some a, some b, some x, some y => (mk.getD j 0).testBit i || (a.apart ops b && disj x.2 y.1 && disj y.2 x.1)
  | _, _, _, _ => false
noncomputable def allPairs (ops : Array Oper) (mk : List Nat) (rs : List (List Nat × List Nat)) : Nat → Bool
  | 0 => true
  | j + 1 => (List.range j).all (fun i => pairOk ops mk rs i j) && allPairs ops mk rs j
noncomputable def okDraw (ops : Array Oper) (rs : List (List Nat × List Nat)) : Bool :=
  (List.range ops.size).all (fun i => match ops[i]? with | some o => o.after.toList.all (fun e => !Region.binds .any e || decide (e.on < i)) | none => true) &&
  allPairs ops (masks ops.toList []) rs ops.size

theorem allPairs_spec {ops : Array Oper} {mk : List Nat} {rs : List (List Nat × List Nat)} : ∀ {n : Nat}, allPairs ops mk rs n = true → ∀ i j, i < j → j < n → pairOk ops mk rs i j = true
  | 0, _, i, j, _, hj => by omega
  | n + 1, h, i, j, hi, hj => by
    simp only [allPairs, Bool.and_eq_true, List.all_eq_true, List.mem_range] at h
    by_cases hjn : j = n
    · subst hjn; exact h.1 i hi
    · exact allPairs_spec h.2 i j hi (by omega)

end
end Go.Ev

/- A machine that reckons with a heap of names: the heap, the programs over it, and that what a program does hangs on the names that it touches alone. No condition. -/
import Derived.Below
import Derived.Calls
namespace Go.Ev
set_option linter.unusedVariables false
set_option linter.unusedSimpArgs false
open Go Go.RowKit

/-! ### the heap: a tree by the bits of names -/
inductive T where
  | nil
  | node (k : Nat) (o : Obj) (l r : T)

noncomputable def T.getP (n : Nat) (t : T) : Nat → Option Obj :=
  T.rec (motive := fun _ => Nat → Option Obj) (fun _ => none)
    (fun k o _ _ l r p => Bool.rec (motive := fun _ => Option Obj) (Nat.rec (motive := fun _ => Option Obj) (l (Nat.div p 2)) (fun _ _ => r (Nat.div p 2)) (Nat.land p 1)) (some o) (Nat.beq k n)) t
noncomputable def T.setP (n : Nat) (x : Obj) (t : T) : Nat → T :=
  T.rec (motive := fun _ => Nat → T) (fun _ => .node n x .nil .nil)
    (fun k o l r sl sr p => Bool.rec (motive := fun _ => T) (Nat.rec (motive := fun _ => T) (.node k o (sl (Nat.div p 2)) r) (fun _ _ => .node k o l (sr (Nat.div p 2))) (Nat.land p 1)) (.node k x l r) (Nat.beq k n)) t
theorem T.getP_nil (n p : Nat) : T.nil.getP n p = none := rfl
noncomputable def evn (p : Nat) : Bool := Nat.rec (motive := fun _ => Bool) true (fun _ _ => false) (Nat.land p 1)
theorem rec_evn {α : Type} (a b : α) (p : Nat) : (Nat.rec (motive := fun _ => α) a (fun _ _ => b) (Nat.land p 1) : α) = bif evn p then a else b := by
  unfold evn; cases Nat.land p 1 <;> rfl
theorem T.getP_node (n k : Nat) (o : Obj) (l r : T) (p : Nat) : (T.node k o l r).getP n p = bif Nat.beq k n then some o else bif evn p then l.getP n (Nat.div p 2) else r.getP n (Nat.div p 2) := by
  rw [← rec_evn]
  cases h : Nat.beq k n <;> simp only [T.getP, h, cond_true, cond_false]
theorem T.setP_nil (n : Nat) (x : Obj) (p : Nat) : T.nil.setP n x p = .node n x .nil .nil := rfl
theorem T.setP_node (n : Nat) (x : Obj) (k : Nat) (o : Obj) (l r : T) (p : Nat) : (T.node k o l r).setP n x p = bif Nat.beq k n then .node k x l r else bif evn p then .node k o (l.setP n x (Nat.div p 2)) r else .node k o l (r.setP n x (Nat.div p 2)) := by
  rw [← rec_evn]
  cases h : Nat.beq k n <;> simp only [T.setP, h, cond_true, cond_false]

noncomputable def T.get (t : T) (n : Nat) : Option Obj := t.getP n n
noncomputable def T.set (t : T) (n : Nat) (x : Obj) : T := t.setP n x n

theorem beq_no {a b : Nat} (h : a ≠ b) : Nat.beq a b = false := by
  cases e : Nat.beq a b with
  | false => rfl
  | true => exact absurd (Nat.eq_of_beq_eq_true e) h
theorem beq_yes (a : Nat) : Nat.beq a a = true := Nat.beq_refl a

theorem T.getP_setP (n m : Nat) (x : Obj) : ∀ (t : T) (p q : Nat), (n = m → p = q) → (t.setP n x p).getP m q = if n = m then some x else t.getP m q
  | .nil, p, q, _ => by
    by_cases h : n = m
    · subst h; simp [setP_nil, setP_node, getP_nil, getP_node]
    · simp [setP_nil, setP_node, getP_nil, getP_node, h, beq_no h]
  | .node k o l r, p, q, hpq => by
    have hl := T.getP_setP n m x l (Nat.div p 2) (Nat.div q 2) (fun e => by rw [hpq e])
    have hr := T.getP_setP n m x r (Nat.div p 2) (Nat.div q 2) (fun e => by rw [hpq e])
    by_cases hk : k = n
    · subst hk
      by_cases h : k = m
      · subst h; simp [setP_nil, setP_node, getP_nil, getP_node]
      · simp [setP_nil, setP_node, getP_nil, getP_node, h, beq_no h]
    · have hk' := beq_no hk
      by_cases h : n = m
      · subst h
        have := hpq rfl; subst this
        simp only [if_true] at hl hr
        cases hp : evn p
        · simp only [setP_node, getP_node, hk', hp, cond_false, if_true]; exact hr
        · simp only [setP_node, getP_node, hk', hp, cond_false, cond_true, if_true]; exact hl
      · simp only [if_neg h] at hl hr
        cases hp : evn p <;> cases hq : evn q <;> simp only [setP_node, getP_node, hk', hp, hq, cond_false, cond_true, if_neg h, hl, hr]

theorem T.get_set (t : T) (n m : Nat) (x : Obj) : (t.set n x).get m = if n = m then some x else t.get m :=
  T.getP_setP n m x t n m id

/-- Lists of names, one behind the other. -/
noncomputable def catL (a b : List Nat) : List Nat := List.rec (motive := fun _ => List Nat) b (fun x _ ih => x :: ih) a
theorem catL_eq (a b : List Nat) : catL a b = a ++ b := by
  induction a with
  | nil => rfl
  | cons x a ih => show x :: catL a b = _; rw [ih]; rfl

/-! ### programs over it -/
inductive AM where
  | ret (v : Value)
  | get (n : Nat) (k : Obj → AM)
  | put (n : Nat) (o : Obj) (k : AM)
  | new (n : Nat) (o : Obj) (k : AM)
  | log (m : AM) (k : Value → List Nat → List Nat → AM)
  | fail

structure Out where
  v : Value
  h : T
  ts : List Nat
  ws : List Nat

/-- Runs, telling the names that were touched, and those that were written. -/
noncomputable def AM.runL (m : AM) : T → List Nat → List Nat → Option Out :=
  AM.rec (motive := fun _ => T → List Nat → List Nat → Option Out)
    (fun v h ts ws => some ⟨v, h, ts, ws⟩)
    (fun n _ ih h ts ws => match h.get n with | some o => ih o h (n :: ts) ws | none => none)
    (fun n o _ ih h ts ws => match h.get n with | some _ => ih (h.set n o) (n :: ts) (n :: ws) | none => none)
    (fun n o _ ih h ts ws => match h.get n with | some _ => none | none => ih (h.set n o) (n :: ts) (n :: ws))
    (fun _ _ ihm ihk h ts ws => match ihm h [] [] with | some ⟨v, h', ts', ws'⟩ => ihk v ts' ws' h' (catL ts' ts) (catL ws' ws) | none => none)
    (fun _ _ _ => none) m

/-- Runs. -/
noncomputable def AM.run (m : AM) : T → Option (Value × T) :=
  AM.rec (motive := fun _ => T → Option (Value × T))
    (fun v h => some (v, h))
    (fun n _ ih h => match h.get n with | some o => ih o h | none => none)
    (fun n o _ ih h => match h.get n with | some _ => ih (h.set n o) | none => none)
    (fun n o _ ih h => match h.get n with | some _ => none | none => ih (h.set n o))
    (fun m _ _ ihk h => match m.runL h [] [] with | some ⟨v, h', ts', ws'⟩ => ihk v ts' ws' h' | none => none)
    (fun _ => none) m

section
variable (h : T)
theorem AM.run_ret (v : Value) : (AM.ret v).run h = some (v, h) := rfl
theorem AM.run_get (n : Nat) (k : Obj → AM) : (AM.get n k).run h = match h.get n with | some o => (k o).run h | none => none := rfl
theorem AM.run_put (n : Nat) (o : Obj) (k : AM) : (AM.put n o k).run h = match h.get n with | some _ => k.run (h.set n o) | none => none := rfl
theorem AM.run_new (n : Nat) (o : Obj) (k : AM) : (AM.new n o k).run h = match h.get n with | some _ => none | none => k.run (h.set n o) := rfl
theorem AM.run_log (m : AM) (k : Value → List Nat → List Nat → AM) : (AM.log m k).run h = match m.runL h [] [] with | some ⟨v, h', ts', ws'⟩ => (k v ts' ws').run h' | none => none := rfl
theorem AM.run_fail : AM.fail.run h = none := rfl
variable (ts ws : List Nat)
theorem AM.runL_ret (v : Value) : (AM.ret v).runL h ts ws = some ⟨v, h, ts, ws⟩ := rfl
theorem AM.runL_get (n : Nat) (k : Obj → AM) : (AM.get n k).runL h ts ws = match h.get n with | some o => (k o).runL h (n :: ts) ws | none => none := rfl
theorem AM.runL_put (n : Nat) (o : Obj) (k : AM) : (AM.put n o k).runL h ts ws = match h.get n with | some _ => k.runL (h.set n o) (n :: ts) (n :: ws) | none => none := rfl
theorem AM.runL_new (n : Nat) (o : Obj) (k : AM) : (AM.new n o k).runL h ts ws = match h.get n with | some _ => none | none => k.runL (h.set n o) (n :: ts) (n :: ws) := rfl
theorem AM.runL_log (m : AM) (k : Value → List Nat → List Nat → AM) : (AM.log m k).runL h ts ws = match m.runL h [] [] with | some ⟨v, h', ts', ws'⟩ => (k v ts' ws').runL h' (ts' ++ ts) (ws' ++ ws) | none => none := by
  rw [show (AM.log m k).runL h ts ws = match m.runL h [] [] with | some ⟨v, h', ts', ws'⟩ => (k v ts' ws').runL h' (catL ts' ts) (catL ws' ws) | none => none from rfl]
  cases m.runL h [] [] with
  | none => rfl
  | some o => obtain ⟨v, h', ts', ws'⟩ := o; simp only [catL_eq]
theorem AM.runL_fail : AM.fail.runL h ts ws = none := rfl
end

/-- What is told changes nothing. -/
theorem AM.run_of_runL (m : AM) : ∀ (h : T) (ts ws : List Nat) (o : Out), m.runL h ts ws = some o → m.run h = some (o.v, o.h) := by
  induction m with
  | ret v => intro h ts ws o e; rw [runL_ret] at e; obtain rfl := Option.some.inj e; rfl
  | get n k ih =>
    intro h ts ws o e; rw [runL_get] at e; rw [run_get]
    split at e
    · exact ih _ _ _ _ _ e
    · cases e
  | put n x k ih =>
    intro h ts ws o e; rw [runL_put] at e; rw [run_put]
    split at e
    · exact ih _ _ _ _ e
    · cases e
  | new n x k ih =>
    intro h ts ws o e; rw [runL_new] at e; rw [run_new]
    split at e
    · cases e
    · exact ih _ _ _ _ e
  | log m k _ ihk =>
    intro h ts ws o e; rw [runL_log] at e; rw [run_log]
    split at e
    · exact ihk _ _ _ _ _ _ _ e
    · cases e
  | fail => intro h ts ws o e; rw [runL_fail] at e; cases e

theorem AM.mem_ts (m : AM) : ∀ (h : T) (ts ws : List Nat) (o : Out), m.runL h ts ws = some o → (∀ n ∈ ts, n ∈ o.ts) ∧ (∀ n ∈ ws, n ∈ o.ws) ∧ (∀ n ∈ o.ws, n ∈ ws ∨ n ∈ o.ts) := by
  induction m with
  | ret v => intro h ts ws o e; rw [runL_ret] at e; obtain rfl := Option.some.inj e; exact ⟨fun _ h => h, fun _ h => h, fun _ h => .inl h⟩
  | get n k ih =>
    intro h ts ws o e; rw [runL_get] at e
    split at e
    · obtain ⟨a, b, c⟩ := ih _ _ _ _ _ e
      exact ⟨fun i hi => a i (by simp [hi]), b, c⟩
    · cases e
  | put n x k ih =>
    intro h ts ws o e; rw [runL_put] at e
    split at e
    · obtain ⟨a, b, c⟩ := ih _ _ _ _ e
      refine ⟨fun i hi => a i (by simp [hi]), fun i hi => b i (by simp [hi]), fun i hi => ?_⟩
      rcases c i hi with h | h
      · rcases List.mem_cons.1 h with h | h
        · subst h; exact .inr (a _ (by simp))
        · exact .inl h
      · exact .inr h
    · cases e
  | new n x k ih =>
    intro h ts ws o e; rw [runL_new] at e
    split at e
    · cases e
    · obtain ⟨a, b, c⟩ := ih _ _ _ _ e
      refine ⟨fun i hi => a i (by simp [hi]), fun i hi => b i (by simp [hi]), fun i hi => ?_⟩
      rcases c i hi with h | h
      · rcases List.mem_cons.1 h with h | h
        · subst h; exact .inr (a _ (by simp))
        · exact .inl h
      · exact .inr h
  | log m k ihm ihk =>
    intro h ts ws o e; rw [runL_log] at e
    split at e
    · rename_i v h' ts' ws' hm
      obtain ⟨a, b, c⟩ := ihk _ _ _ _ _ _ _ e
      obtain ⟨_, _, c'⟩ := ihm _ _ _ _ hm
      refine ⟨fun i hi => a i (by simp [hi]), fun i hi => b i (by simp [hi]), fun i hi => ?_⟩
      rcases c i hi with h | h
      · rcases List.mem_append.1 h with h | h
        · rcases c' i h with h | h
          · cases h
          · exact .inr (a _ (by simp [h]))
        · exact .inl h
      · exact .inr h
    · cases e
  | fail => intro h ts ws o e; rw [runL_fail] at e; cases e

theorem AM.runL_local (m : AM) : ∀ (h g : T) (ts ws : List Nat) (o : Out), m.runL h ts ws = some o → (∀ n ∈ o.ts, g.get n = h.get n) →
    ∃ o', m.runL g ts ws = some o' ∧ o'.v = o.v ∧ o'.ts = o.ts ∧ o'.ws = o.ws ∧
      (∀ n, n ∈ o.ts → o'.h.get n = o.h.get n) ∧ (∀ n, (n ∈ o.ws → n ∈ ws) → n ∉ o.ts → o.h.get n = h.get n ∧ o'.h.get n = g.get n) := by
  induction m with
  | ret v =>
    intro h g ts ws o e hg; rw [runL_ret] at e; obtain rfl := Option.some.inj e
    exact ⟨_, rfl, rfl, rfl, rfl, hg, fun n _ _ => ⟨rfl, rfl⟩⟩
  | get n k ih =>
    intro h g ts ws o e hg; rw [runL_get] at e
    split at e
    · rename_i x hx
      have hn : n ∈ o.ts := (mem_ts _ _ _ _ _ e).1 n (by simp)
      obtain ⟨o', e', r⟩ := ih _ h g _ _ _ e hg
      refine ⟨o', ?_, r⟩
      rw [runL_get, hg n hn, hx]; exact e'
    · cases e
  | put n x k ih =>
    intro h g ts ws o e hg; rw [runL_put] at e
    split at e
    · rename_i y hy
      have hn : n ∈ o.ts := (mem_ts _ _ _ _ _ e).1 n (by simp)
      obtain ⟨o', e', r1, r2, r3, r4, r5⟩ := ih (h.set n x) (g.set n x) _ _ _ e (fun i hi => by rw [T.get_set, T.get_set, hg i hi])
      refine ⟨o', ?_, r1, r2, r3, r4, fun i hi hi' => ?_⟩
      · rw [runL_put, hg n hn, hy]; exact e'
      · have hne : n ≠ i := fun e0 => hi' (e0 ▸ hn)
        have := r5 i (fun hw => List.mem_cons_of_mem _ (hi hw)) hi'
        rw [T.get_set, T.get_set, if_neg hne, if_neg hne] at this; exact this
    · cases e
  | new n x k ih =>
    intro h g ts ws o e hg; rw [runL_new] at e
    split at e
    · cases e
    · rename_i hy
      have hn : n ∈ o.ts := (mem_ts _ _ _ _ _ e).1 n (by simp)
      obtain ⟨o', e', r1, r2, r3, r4, r5⟩ := ih (h.set n x) (g.set n x) _ _ _ e (fun i hi => by rw [T.get_set, T.get_set, hg i hi])
      refine ⟨o', ?_, r1, r2, r3, r4, fun i hi hi' => ?_⟩
      · rw [runL_new, hg n hn, hy]; exact e'
      · have hne : n ≠ i := fun e0 => hi' (e0 ▸ hn)
        have := r5 i (fun hw => List.mem_cons_of_mem _ (hi hw)) hi'
        rw [T.get_set, T.get_set, if_neg hne, if_neg hne] at this; exact this
  | log m k ihm ihk =>
    intro h g ts ws o e hg; rw [runL_log] at e
    split at e
    · rename_i v h' ts' ws' hm
      have hts := (mem_ts _ _ _ _ _ e).1
      obtain ⟨⟨v1, h1, ts1, ws1⟩, e1, a1, a2, a3, a4, a5⟩ := ihm h g [] [] _ hm (fun i hi => hg i (hts i (by simp [hi])))
      dsimp only at a1 a2 a3 a4 a5; subst a1; subst a2; subst a3
      have key : ∀ i, i ∈ o.ts → h1.get i = h'.get i := by
        intro i hi
        by_cases hi' : i ∈ ts1
        · exact a4 i hi'
        · have hw : i ∈ ws1 → i ∈ ([] : List Nat) := fun hw => by
            rcases (mem_ts _ _ _ _ _ hm).2.2 i hw with h | h
            · exact h
            · exact absurd h hi'
          obtain ⟨b1, b2⟩ := a5 i hw hi'
          rw [b1, b2]; exact hg i hi
      obtain ⟨o', e', r1, r2, r3, r4, r5⟩ := ihk v1 ts1 ws1 h' h1 _ _ _ e key
      refine ⟨o', ?_, r1, r2, r3, r4, fun i hi hi' => ?_⟩
      · rw [runL_log, e1]; exact e'
      · have hi1 : i ∉ ts1 := fun h => hi' (hts i (by simp [h]))
        have hw1 : i ∈ ws1 → i ∈ ([] : List Nat) := fun hw => by
          rcases (mem_ts _ _ _ _ _ hm).2.2 i hw with h | h
          · exact h
          · exact absurd h hi1
        obtain ⟨b1, b2⟩ := a5 i hw1 hi1
        obtain ⟨c1, c2⟩ := r5 i (fun hw => by simp [hi hw]) hi'
        exact ⟨c1.trans b1, c2.trans b2⟩
    · cases e
  | fail => intro h g ts ws o e; rw [runL_fail] at e; cases e

end Go.Ev

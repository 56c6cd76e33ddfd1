/- Functions as terms, in a table. No condition. -/
import Derived.Test.YtgiemmoomdndaaaGreatXI
namespace Go.Ev
set_option linter.unusedVariables false
set_option linter.unusedSimpArgs false
open Go Go.RowKit

inductive FT where
  | nil
  | leaf (f : Nat) (F : CallT → List Value → (Value → Nat → AM) → Nat → AM)
  | node (m : Nat) (l r : FT)
noncomputable def FT.get (t : FT) : Nat → CallT → List Value → (Value → Nat → AM) → Nat → AM :=
  FT.rec (motive := fun _ => Nat → CallT → List Value → (Value → Nat → AM) → Nat → AM) (fun _ _ _ _ _ => .fail)
    (fun f F g C args K s => Bool.rec (motive := fun _ => AM) .fail (F C args K s) (Nat.beq f g))
    (fun m _ _ l r g C args K s => Bool.rec (motive := fun _ => AM) (r g C args K s) (l g C args K s) (Nat.ble g m)) t
inductive FT.OK (P : Program) (N : Nat) : FT → Prop
  | nil : FT.OK P N .nil
  | leaf (f : Nat) (F : CallT → List Value → (Value → Nat → AM) → Nat → AM) (h : ∀ C args K s, F C args K s = xfun P N C f args K s) : FT.OK P N (.leaf f F)
  | slow (f M : Nat) : FT.OK P N (.leaf f (hF P M f))
  | node (m : Nat) (l r : FT) (hl : FT.OK P N l) (hr : FT.OK P N r) : FT.OK P N (.node m l r)
theorem FT.ok {P : Program} {N : Nat} {t : FT} (ht : FT.OK P N t) {C : CallT} {J : Nat} (hC : ∀ f, CallOK P C J f) : ∀ f : Nat, ∃ J', CallOK P (fun f => t.get f C) J' f := by
  induction ht with
  | nil => exact fun f => ⟨0, fun _ _ _ _ _ _ _ => .fail _⟩
  | leaf f F h =>
    intro g
    cases hb : Nat.beq f g with
    | false =>
      refine ⟨0, fun args K n cs fin s _ => ?_⟩
      show AM.le (Bool.rec (motive := fun _ => AM) .fail (F C args K s) (Nat.beq f g)) _
      rw [hb]; exact .fail _
    | true =>
      have := Nat.eq_of_beq_eq_true hb; subst this
      obtain ⟨J', hJ'⟩ := xfun_ok hC N f
      refine ⟨J', fun args K n cs fin s hK => ?_⟩
      show AM.le (Bool.rec (motive := fun _ => AM) .fail (F C args K s) (Nat.beq f f)) _
      rw [hb]
      show AM.le (F C args K s) _
      rw [h C args K s]
      exact hJ' args K n cs fin s hK
  | slow f M =>
    intro g
    cases hb : Nat.beq f g with
    | false =>
      refine ⟨0, fun args K n cs fin s _ => ?_⟩
      show AM.le (Bool.rec (motive := fun _ => AM) .fail (hF P M f C args K s) (Nat.beq f g)) _
      rw [hb]; exact .fail _
    | true =>
      have := Nat.eq_of_beq_eq_true hb; subst this
      refine ⟨M * (J + 1), fun args K n cs fin s hK => ?_⟩
      show AM.le (Bool.rec (motive := fun _ => AM) .fail (hF P M f C args K s) (Nat.beq f f)) _
      rw [hb]
      exact hF_ok hC M f args K n cs fin s hK
  | node m l r _ _ ihl ihr =>
    intro g
    cases hb : Nat.ble g m with
    | false =>
      obtain ⟨J', h⟩ := ihr g
      refine ⟨J', fun args K n cs fin s hK => ?_⟩
      show AM.le (Bool.rec (motive := fun _ => AM) (r.get g C args K s) (l.get g C args K s) (Nat.ble g m)) _
      rw [hb]; exact h args K n cs fin s hK
    | true =>
      obtain ⟨J', h⟩ := ihl g
      refine ⟨J', fun args K n cs fin s hK => ?_⟩
      show AM.le (Bool.rec (motive := fun _ => AM) (r.get g C args K s) (l.get g C args K s) (Nat.ble g m)) _
      rw [hb]; exact h args K n cs fin s hK
noncomputable def tabF (t : FT) : CallT → CallT := fun C f => t.get f C
/-- Which functions stand in a table. -/
noncomputable def FT.under (n : Nat) : FT → Bool
  | .nil => true
  | .leaf f _ => Nat.blt f n
  | .node _ l r => l.under n && r.under n
theorem FT.get_none {n : Nat} : ∀ {t : FT}, t.under n = true → ∀ g : Nat, n ≤ g → ∀ C args K s, t.get g C args K s = .fail
  | .nil, _, _, _, _, _, _, _ => rfl
  | .leaf f F, h, g, hg, C, args, K, s => by
    have h : Nat.blt f n = true := h
    rw [Nat.blt_eq] at h
    show Bool.rec (motive := fun _ => AM) .fail (F C args K s) (Nat.beq f g) = .fail
    rw [beq_no (by omega)]
  | .node m l r, h, g, hg, C, args, K, s => by
    have h : (l.under n && r.under n) = true := h
    rw [Bool.and_eq_true] at h
    show Bool.rec (motive := fun _ => AM) (r.get g C args K s) (l.get g C args K s) (Nat.ble g m) = .fail
    cases Nat.ble g m
    · exact FT.get_none h.2 g hg C args K s
    · exact FT.get_none h.1 g hg C args K s
theorem tab_deep {P : Program} {N : Nat} {t : FT} (ht : FT.OK P N t) (hb : t.under P.funcs.size = true) : ∀ d, ∃ J, ∀ f, CallOK P (deepF (tabF t) d) J f
  | 0 => ⟨0, fun f args K n cs fin s _ => .fail _⟩
  | d + 1 => by
    obtain ⟨J, hJ⟩ := tab_deep ht hb d
    exact all_ok (C' := fun f => t.get f (deepF (tabF t) d)) (fun f => FT.ok ht hJ f) (fun f hf args K s => by
      rw [FT.get_none hb f (by simpa using hf)]; exact .refl _)
/-- **A call without arguments, run in the kernel by functions as terms.** -/
theorem calls_tab {P : Program} {N : Nat} (hmx : P.follows .mixedOrders = true) {t : FT} (ht : FT.OK P N t) (hb : t.under P.funcs.size = true) {g d : Nat}
    (e : (match (deepF (tabF t) d g [] (fun v _ => .ret v) 1).runL .nil [] [] with
      | some ⟨.bool true, _, _, _⟩ => true
      | _ => false) = true) (w : World) : Calls P g #[] w (fun q w' => q = .returned (.bool true) ∧ Below w.heap.size w w') := by
  split at e
  · rename_i hE ts ws hr
    obtain ⟨J, hJ⟩ := tab_deep ht hb d
    have := hJ g [] (fun v _ => .ret v) 0 [] (fun v _ => .ret v) 1 (fun v s => .refl _) _ _ _ _ hr
    unfold entered at this
    cases ha : AF.enter P g [] .normal with
    | none => rw [ha] at this; cases this
    | some a =>
      rw [ha] at this
      exact calls_of_run hmx ha (fun σ u' h => by cases h; rfl) (AM.run_of_runL _ _ _ _ _ this) w
  · cases e
end Go.Ev

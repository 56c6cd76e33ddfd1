/- Functions as terms, in a table. No condition. -/
import Derived.Test.YtpfnoffadfahmaaGreatXI
namespace Go.Ev
set_option linter.unusedVariables false
set_option linter.unusedSimpArgs false
open Go Go.RowKit

inductive FT where
  | nil
  | leaf (f : Nat) (F : CallT → List Value → (Value → Nat → AM) → Nat → AM)
  | node (m : Nat) (l r : FT)
noncomputable def FT.get (t : FT) : Nat → CallT → List Value → (Value → Nat → AM) → Nat → AM :=
  FT.rec (motive := fun _ => Nat → CallT → List Value → (Value → Nat → AM) → Nat → AM) (fun _ _ _ _ _ => .fail)
    (fun f F g C args K s => Bool.rec (motive := fun _ => AM) .fail (F C args K s) (Nat.beq f g))
    (fun m _ _ l r g C args K s => Bool.rec (motive := fun _ => AM) (r g C args K s) (l g C args K s) (Nat.ble g m)) t
/-- A call whose answer is known. -/
noncomputable def knF : CallT → List Value → (Value → Nat → AM) → Nat → AM := fun _ args K s => List.rec (motive := fun _ => AM) (K (.bool true) s) (fun _ _ _ => .fail) args
/-- What is known is a leaf of the table. -/
def KnT (P : Program) [Known P] (t : FT) : Prop := ∀ f, Known.kn P f = true → ∀ C args K s, t.get f C args K s = knF C args K s
/-- A call whose answer is known of arguments and blocks. -/
noncomputable def knH (nd : List Value → List Nat) (cd : List Value → List Obj → Bool) : CallT → List Value → (Value → Nat → AM) → Nat → AM := fun _ args K s =>
  bif args.all isSlc then readA (nd args) (fun os => bif cd args os then K (.bool true) s else .fail) else .fail
def KnT2 (P : Program) [Known P] (t : FT) : Prop := ∀ f, Known.k2 P f = true → Known.kn P f = false ∧ ∀ C args K s, t.get f C args K s = knH (Known.need P f) (Known.cond P f) C args K s
inductive FT.OK (P : Program) [Known P] (N : Nat) : FT → Prop
  | known (f : Nat) (h : Known.kn P f = true) : FT.OK P N (.leaf f knF)
  | known2 (f : Nat) (h : Known.k2 P f = true) (nd : List Value → List Nat) (cd : List Value → List Obj → Bool) : FT.OK P N (.leaf f (knH nd cd))
  | nil : FT.OK P N .nil
  | leaf (f : Nat) (F : CallT → List Value → (Value → Nat → AM) → Nat → AM) (h : ∀ C args K s, F C args K s = xfun P N C f args K s) : FT.OK P N (.leaf f F)
  | leafY (f : Nat) (F : CallT → List Value → (Value → Nat → AM) → Nat → AM) (h : ∀ C args K s, F C args K s = yfun P N C f args K s) : FT.OK P N (.leaf f F)
  | slow (f M : Nat) : FT.OK P N (.leaf f (hF P M f))
  | yield : FT.OK P N (.leaf 1000000 (yY P N))
  | node (m : Nat) (l r : FT) (hl : FT.OK P N l) (hr : FT.OK P N r) : FT.OK P N (.node m l r)
theorem leaf_no {P : Program} [Known P] {f : Nat} {F : CallT → List Value → (Value → Nat → AM) → Nat → AM} {g : Nat} {C : CallT} (hb : Nat.beq f g = false) {J : Nat} : CallOK P (fun g => (FT.leaf f F).get g C) J g := by
  intro args K n cs fin s _
  show AM.le (Bool.rec (motive := fun _ => AM) .fail (F C args K s) (Nat.beq f g)) _
  rw [hb]; exact .fail _
theorem leaf_yes {P : Program} [Known P] {f : Nat} {F : CallT → List Value → (Value → Nat → AM) → Nat → AM} {C : CallT} {J : Nat} (h : CallOK P (fun _ => F C) J f) : CallOK P (fun g => (FT.leaf f F).get g C) J f := by
  intro args K n cs fin s hK
  show AM.le (Bool.rec (motive := fun _ => AM) .fail (F C args K s) (Nat.beq f f)) _
  rw [beq_yes]
  exact h args K n cs fin s hK
theorem FT.ok_no {P : Program} [Known P] {N : Nat} {t : FT} (ht : FT.OK P N t) {C : CallT} {J : Nat} (hC : AllOK P C J) : ∀ f : Nat, f ≠ 1000000 → Known.kn P f = false → Known.k2 P f = false → ∃ J', CallOK P (fun f => t.get f C) J' f := by
  induction ht with
  | known f h =>
    intro g hg hkn hk2
    cases hb : Nat.beq f g with
    | false => exact ⟨0, leaf_no hb⟩
    | true =>
      have := Nat.eq_of_beq_eq_true hb; subst this
      rw [h] at hkn; cases hkn
  | known2 f h nd cd =>
    intro g hg hkn hk2
    cases hb : Nat.beq f g with
    | false => exact ⟨0, leaf_no hb⟩
    | true =>
      have := Nat.eq_of_beq_eq_true hb; subst this
      rw [h] at hk2; cases hk2
  | nil => exact fun f _ _ _ => ⟨0, fun _ _ _ _ _ _ _ => .fail _⟩
  | leaf f F h =>
    intro g hg hkn hk2
    cases hb : Nat.beq f g with
    | false => exact ⟨0, leaf_no hb⟩
    | true =>
      have := Nat.eq_of_beq_eq_true hb; subst this
      obtain ⟨J', hJ'⟩ := xfun_ok hC N f hkn hk2
      exact ⟨J', leaf_yes fun args K n cs fin s hK => by show AM.le (F C args K s) _; rw [h C args K s]; exact hJ' args K n cs fin s hK⟩
  | leafY f F h =>
    intro g hg hkn hk2
    cases hb : Nat.beq f g with
    | false => exact ⟨0, leaf_no hb⟩
    | true =>
      have := Nat.eq_of_beq_eq_true hb; subst this
      obtain ⟨J', hJ'⟩ := yfun_ok hC N f hkn hk2
      exact ⟨J', leaf_yes fun args K n cs fin s hK => by show AM.le (F C args K s) _; rw [h C args K s]; exact hJ' args K n cs fin s hK⟩
  | slow f M =>
    intro g hg hkn hk2
    cases hb : Nat.beq f g with
    | false => exact ⟨0, leaf_no hb⟩
    | true =>
      have := Nat.eq_of_beq_eq_true hb; subst this
      exact ⟨M * (J + 1), leaf_yes (hF_ok hC M f hkn hk2)⟩
  | yield => exact fun g hg _ _ => ⟨0, leaf_no (beq_no (Ne.symm hg))⟩
  | node m l r _ _ ihl ihr =>
    intro g hg hkn hk2
    cases hb : Nat.ble g m with
    | false =>
      obtain ⟨J', h⟩ := ihr g hg hkn hk2
      refine ⟨J', fun args K n cs fin s hK => ?_⟩
      show AM.le (Bool.rec (motive := fun _ => AM) (r.get g C args K s) (l.get g C args K s) (Nat.ble g m)) _
      rw [hb]; exact h args K n cs fin s hK
    | true =>
      obtain ⟨J', h⟩ := ihl g hg hkn hk2
      refine ⟨J', fun args K n cs fin s hK => ?_⟩
      show AM.le (Bool.rec (motive := fun _ => AM) (r.get g C args K s) (l.get g C args K s) (Nat.ble g m)) _
      rw [hb]; exact h args K n cs fin s hK
theorem FT.ok {P : Program} [Known P] {N : Nat} {t : FT} (ht : FT.OK P N t) (hkt : KnT P t) (hkt2 : KnT2 P t) {C : CallT} {J : Nat} (hC : AllOK P C J) (f : Nat) (hf : f ≠ 1000000) : ∃ J', CallOK P (fun f => t.get f C) J' f := by
  cases hkn : Known.kn P f with
  | false =>
    cases hk2 : Known.k2 P f with
    | false => exact FT.ok_no ht hC f hf hkn hk2
    | true =>
      refine ⟨0, fun args K n cs fin s hK => ?_⟩
      show AM.le (t.get f C args K s) _
      rw [(hkt2 f hk2).2 C args K s]
      unfold entered askK knH
      rw [known_no hkn, hk2]
      exact .bif (le_read fun os => .bif (hK _ _) (.fail _)) (.fail _)
  | true =>
    refine ⟨0, fun args K n cs fin s hK => ?_⟩
    show AM.le (t.get f C args K s) _
    rw [hkt f hkn C args K s]
    cases args with
    | nil =>
      unfold entered askK known
      rw [hkn]
      exact (hK _ _).trans (.refl _)
    | cons _ _ => exact .fail _
theorem FT.round {P : Program} [Known P] {N : Nat} {t : FT} (ht : FT.OK P N t) {C : CallT} {J : Nat} (hC : AllOK P C J) : ∃ J', RoundOK P (fun f => t.get f C) J' := by
  obtain ⟨B, hB⟩ : ∃ B, B = BIG := ⟨_, rfl⟩
  refine ⟨B * (J + 1), ?_⟩
  induction ht with
  | nil => exact fun _ _ _ _ _ _ _ _ => .fail _
  | known f h =>
    intro l args K n cs fin s hK
    show AM.le (Bool.rec (motive := fun _ => AM) .fail (knF C (.int .i64 (.ofNat l) :: args) K s) (Nat.beq f 1000000)) _
    cases Nat.beq f 1000000 <;> exact .fail _
  | known2 f h nd cd =>
    intro l args K n cs fin s hK
    show AM.le (Bool.rec (motive := fun _ => AM) .fail (knH nd cd C (.int .i64 (.ofNat l) :: args) K s) (Nat.beq f 1000000)) _
    cases Nat.beq f 1000000 <;> exact .fail _
  | leaf f F h =>
    intro l args K n cs fin s hK
    show AM.le (Bool.rec (motive := fun _ => AM) .fail (F C _ K s) (Nat.beq f 1000000)) _
    cases hb : Nat.beq f 1000000 with
    | false => exact .fail _
    | true =>
      have := Nat.eq_of_beq_eq_true hb; subst this
      show AM.le (F C _ K s) _
      rw [h]; unfold xfun; rw [hC.big]; exact .fail _
  | leafY f F h =>
    intro l args K n cs fin s hK
    show AM.le (Bool.rec (motive := fun _ => AM) .fail (F C _ K s) (Nat.beq f 1000000)) _
    cases hb : Nat.beq f 1000000 with
    | false => exact .fail _
    | true =>
      have := Nat.eq_of_beq_eq_true hb; subst this
      show AM.le (F C _ K s) _
      rw [h]; unfold yfun; rw [hC.big]; exact .fail _
  | slow f M =>
    intro l args K n cs fin s hK
    show AM.le (Bool.rec (motive := fun _ => AM) .fail (hF P M f C _ K s) (Nat.beq f 1000000)) _
    cases hb : Nat.beq f 1000000 with
    | false => exact .fail _
    | true =>
      have := Nat.eq_of_beq_eq_true hb; subst this
      show AM.le (hF P M _ C _ K s) _
      unfold hF AF.enter; rw [hC.big]; exact .fail _
  | yield =>
    intro l args K n cs fin s hK
    show AM.le (yY P N C (.int .i64 (.ofNat l) :: args) K s) _
    exact yY_ok hC N l args K n cs fin hB s hK
  | node m l r _ _ ihl ihr =>
    intro i args K n cs fin s hK
    show AM.le (Bool.rec (motive := fun _ => AM) (r.get 1000000 C _ K s) (l.get 1000000 C _ K s) (Nat.ble 1000000 m)) _
    cases Nat.ble 1000000 m with
    | false => exact ihr i args K n cs fin s hK
    | true => exact ihl i args K n cs fin s hK
noncomputable def tabF (t : FT) : CallT → CallT := fun C f => t.get f C
/-- Which functions stand in a table. -/
noncomputable def FT.under (n : Nat) : FT → Bool
  | .nil => true
  | .leaf f _ => Nat.blt f n || Nat.beq f 1000000
  | .node _ l r => l.under n && r.under n
theorem FT.get_none {n : Nat} : ∀ {t : FT}, t.under n = true → ∀ g : Nat, g ≠ 1000000 → n ≤ g → ∀ C args K s, t.get g C args K s = .fail
  | .nil, _, _, _, _, _, _, _, _ => rfl
  | .leaf f F, h, g, hz, hg, C, args, K, s => by
    have h : (Nat.blt f n || Nat.beq f 1000000) = true := h
    rw [Bool.or_eq_true, Nat.blt_eq] at h
    show Bool.rec (motive := fun _ => AM) .fail (F C args K s) (Nat.beq f g) = .fail
    rw [beq_no]
    intro e
    subst e
    rcases h with h | h
    · omega
    · exact hz (Nat.eq_of_beq_eq_true h)
  | .node m l r, h, g, hz, hg, C, args, K, s => by
    have h : (l.under n && r.under n) = true := h
    rw [Bool.and_eq_true] at h
    show Bool.rec (motive := fun _ => AM) (r.get g C args K s) (l.get g C args K s) (Nat.ble g m) = .fail
    cases Nat.ble g m
    · exact FT.get_none h.2 g hz hg C args K s
    · exact FT.get_none h.1 g hz hg C args K s
/-- One call deeper. -/
theorem all_ok {P : Program} [Known P] {C' : CallT} (hz : P.funcs[1000000]? = none) (h : ∀ f, f ≠ 1000000 → ∃ J, CallOK P C' J f) (hr : ∃ J, RoundOK P C' J) (hbig : ∀ f : Nat, f ≠ 1000000 → P.funcs[f]? = none → ∀ args K s, AM.le (C' f args K s) .fail) : ∃ J, AllOK P C' J := by
  have : ∀ n : Nat, ∃ J, ∀ f : Nat, f < n → f ≠ 1000000 → CallOK P C' J f := by
    intro n
    induction n with
    | zero => exact ⟨0, fun f h => by omega⟩
    | succ n ih =>
      obtain ⟨J1, h1⟩ := ih
      by_cases hn : n = 1000000
      · exact ⟨J1, fun f hf hne => h1 f (by omega) hne⟩
      obtain ⟨J2, h2⟩ := h n hn
      refine ⟨Nat.max J1 J2, fun f hf hne => ?_⟩
      by_cases hfn : f = n
      · subst hfn; exact h2.more (Nat.le_max_right _ _)
      · exact (h1 f (by omega) hne).more (Nat.le_max_left _ _)
  obtain ⟨J, hJ⟩ := this P.funcs.size
  obtain ⟨J', hJ'⟩ := hr
  have hall : ∀ f : Nat, f ≠ 1000000 → CallOK P C' J f := fun (f : Nat) hne => by
    by_cases hf : f < P.funcs.size
    · exact hJ f hf hne
    · intro args K n cs fin s _
      exact (hbig f hne (Array.getElem?_eq_none (by omega)) args K s).trans (.fail _)
  refine ⟨Nat.max J J', hz, fun f hne => (hall f hne).more (Nat.le_max_left _ _), fun l args K n cs fin s hK => (hJ' l args K n cs fin s hK).trans (cg_yield _ _ _ _ _ fun nx s => roundA_more (Nat.add_le_add_left (Nat.le_max_right _ _) _) _ _ _ _)⟩

/-- So many calls deep. -/
noncomputable def deepF (T : CallT → CallT) (d : Nat) : CallT := Nat.rec (motive := fun _ => CallT) (fun _ _ _ _ => .fail) (fun _ ih => T ih) d
theorem tab_deep {P : Program} [Known P] {N : Nat} {t : FT} (ht : FT.OK P N t) (hkt : KnT P t) (hkt2 : KnT2 P t) (hz : P.funcs[1000000]? = none) (hb : t.under P.funcs.size = true) : ∀ d, ∃ J, AllOK P (deepF (tabF t) d) J
  | 0 => ⟨0, hz, fun f _ args K n cs fin s _ => .fail _, fun l args K n cs fin s _ => .fail _⟩
  | d + 1 => by
    obtain ⟨J, hJ⟩ := tab_deep ht hkt hkt2 hz hb d
    exact all_ok (C' := fun f => t.get f (deepF (tabF t) d)) hz (fun f hf => FT.ok ht hkt hkt2 hJ f hf) (FT.round ht hJ) (fun f hf hn args K s => by
      rw [FT.get_none hb f hf (by simpa using hn)]; exact .refl _)
/-- **A call without arguments, run in the kernel by functions as terms.** -/
theorem calls_tab {P : Program} [Known P] {N : Nat} (hmx : P.follows .mixedOrders = true) {t : FT} (ht : FT.OK P N t) (hkt : KnT P t) (hz : P.funcs[1000000]? = none) (hb : t.under P.funcs.size = true) {g d : Nat} (hg : g ≠ 1000000)
    (e : (match (deepF (tabF t) d g [] (fun v _ => .ret v) 1).runL .nil [] [] with
      | some ⟨.bool true, _, _, _⟩ => true
      | _ => false) = true) (w : World) (hkt2 : KnT2 P t := by intro f h; exact absurd (show false = true from h) (by decide)) (hg2 : Known.k2 P g = false := by rfl) : Calls P g #[] w (fun q w' => q = .returned (.bool true) ∧ Below w.heap.size w w') := by
  split at e
  · rename_i hE ts ws hr
    obtain ⟨J, hJ⟩ := tab_deep ht hkt hkt2 hz hb d
    have := hJ.call g hg [] (fun v _ => .ret v) 0 [] (fun v _ => .ret v) 1 (fun v s => .refl _) _ _ _ _ hr
    cases hkn : known P g [] with
    | true => exact Known.ok g (known_of hkn).1 w
    | false =>
    unfold entered askK at this
    rw [hkn, hg2] at this
    simp only [cond_false] at this
    cases ha : AF.enter P g [] .normal with
    | none => rw [ha] at this; cases this
    | some a =>
      rw [ha] at this
      exact calls_of_run hmx ha (fun σ u' h => by cases h; rfl) (AM.run_of_runL _ _ _ _ _ this) w
  · cases e
end Go.Ev

/- What the walk of EntryOrder tells is true: in plain Lean. No condition. -/
import Derived.Test.YtgadiajhhjfmbaaHEntryOrderx3
import Derived.Lib.Bytes
set_option linter.unusedVariables false
set_option linter.unusedSimpArgs false
namespace Go.Proofs.Ytgadiajhhjfmbaa.Pure
open Go Go.RowKit Go.Proofs.Ytgadiajhhjfmbaa.HEntryOrder Go.Proofs.YtgadiajhhjfmbaaW.PrintWords Go.Proofs.YtgadiajhhjfmbaaW.PrintLast

def keyLt (a0 a1 a2 b0 b1 b2 : Int) : Prop := a0 < b0 ∨ (a0 = b0 ∧ (a1 < b1 ∨ (a1 = b1 ∧ a2 < b2)))
instance (a0 a1 a2 b0 b1 b2 : Int) : Decidable (keyLt a0 a1 a2 b0 b1 b2) := by unfold keyLt; infer_instance
theorem or_is (k : Nat) (a b c : Int) : cmp_Or_int.f (k + 4) [a, b, c] = some (if a = 0 then (if b = 0 then c else b) else a) := by
  unfold cmp_Or_int.f
  show cmp_Or_int.l0 (k + 3 + 1) 0 [a, b, c] 3 0 = _
  rw [cmp_Or_int.l0, if_pos (by decide), if_pos (by decide), if_pos (by simp), show rd [a, b, c] 0 = a from rfl]
  by_cases ha : a = 0
  · rw [if_pos ha, if_pos ha, show wrap64 (0 + 1) = 1 by decide +kernel]
    show cmp_Or_int.l0 (k + 2 + 1) 0 [a, b, c] 3 1 = _
    rw [cmp_Or_int.l0, if_pos (by decide), if_pos (by decide), if_pos (by simp), show rd [a, b, c] 1 = b from rfl]
    by_cases hb : b = 0
    · rw [if_pos hb, if_pos hb, show wrap64 (1 + 1) = 2 by decide +kernel]
      show cmp_Or_int.l0 (k + 1 + 1) 0 [a, b, c] 3 2 = _
      rw [cmp_Or_int.l0, if_pos (by decide), if_pos (by decide), if_pos (by simp), show rd [a, b, c] 2 = c from rfl]
      by_cases hc : c = 0
      · rw [if_pos hc, show wrap64 (2 + 1) = 3 by decide +kernel]
        show cmp_Or_int.l0 (k + 1) 0 [a, b, c] 3 3 = _
        rw [cmp_Or_int.l0, if_neg (by decide), hc]
      · rw [if_neg hc]
    · rw [if_neg hb, if_neg hb]
  · rw [if_neg ha, if_neg ha]
def cmpI (a b : Int) : Int := if a < b then -1 else (if a > b then 1 else 0)
theorem compare_is (a b : Int) : cmp_Compare_int.f a b = some (cmpI a b) := by
  unfold cmp_Compare_int.f cmp_isNaN_int.f cmpI
  have : ∀ x : Int, (x != x) = false := fun x => by simp
  rw [this, this, Option.bind_some, Option.bind_some, if_neg (by simp), if_neg (by simp)]
  by_cases h1 : a < b
  · rw [if_pos h1, if_pos h1]
  · rw [if_neg h1, if_neg h1]
    by_cases h2 : a > b
    · rw [if_pos h2, if_pos h2]
    · rw [if_neg h2, if_neg h2]
def orderI (a0 a1 a2 b0 b1 b2 : Int) : Int := if cmpI a0 b0 = 0 then (if cmpI a1 b1 = 0 then cmpI a2 b2 else cmpI a1 b1) else cmpI a0 b0
theorem order_is (k : Nat) (a0 a1 a2 b0 b1 b2 : Int) : entry_order.f (k + 4) a0 a1 a2 b0 b1 b2 = some (orderI a0 a1 a2 b0 b1 b2) := by
  unfold entry_order.f
  rw [compare_is, Option.bind_some, compare_is, Option.bind_some, compare_is, Option.bind_some, or_is, Option.bind_some]; rfl
theorem orderI_lt (a0 a1 a2 b0 b1 b2 : Int) : orderI a0 a1 a2 b0 b1 b2 < 0 ↔ keyLt a0 a1 a2 b0 b1 b2 := by
  unfold orderI cmpI keyLt
  repeat' split
  all_goals omega
theorem less_is (k : Nat) (a0 a1 a2 b0 b1 b2 : Int) : entry_Less.f (k + 4) a0 a1 a2 b0 b1 b2 = some (decide (keyLt a0 a1 a2 b0 b1 b2)) := by
  unfold entry_Less.f
  rw [order_is, Option.bind_some]
  congr 1
  rw [decide_eq_decide]; exact orderI_lt _ _ _ _ _ _

theorem j0_is (k : Nat) (a0 a1 a2 b0 b1 b2 : Int) : binnaclelaw14_EntryOrder.j0 (k + 1) true false a0 a1 a2 b0 b1 b2 = some true := by
  rw [binnaclelaw14_EntryOrder.j0, if_neg (by simp), if_pos rfl]
  unfold entry_Twins.f
  have s1 : (b1 = a1) = (a1 = b1) := propext ⟨Eq.symm, Eq.symm⟩
  have s2 : (b2 == a2) = (a2 == b2) := by rw [Bool.eq_iff_iff, beq_iff_eq, beq_iff_eq]; exact ⟨Eq.symm, Eq.symm⟩
  simp only [s1, s2]
  by_cases h0 : a0 = b0 <;> by_cases h1 : a1 = b1 <;> by_cases h2 : a2 = b2 <;> simp [h0, h1, h2]
/-- Of two keys one is ahead, just if they are unlike; who is ahead of one that is ahead of another one is ahead of that; twins of one stamp are the same. -/
theorem law (a0 a1 a2 b0 b1 b2 c0 c1 c2 : Int) : binnaclelaw14_EntryOrder.f 9 a0 a1 a2 b0 b1 b2 c0 c1 c2 = some true := by
  unfold binnaclelaw14_EntryOrder.f binnaclelaw14_EntryKnown.f
  rw [Option.bind_some, less_is 5, Option.bind_some, less_is 5, Option.bind_some]
  have J : ∀ b : Bool, b = false → binnaclelaw14_EntryOrder.j0 9 true b a0 a1 a2 b0 b1 b2 = some true := fun b hb => by rw [hb]; exact j0_is 8 _ _ _ _ _ _
  by_cases hab : keyLt a0 a1 a2 b0 b1 b2
  · have hba : ¬ keyLt b0 b1 b2 a0 a1 a2 := by unfold keyLt at *; omega
    have hE : (a0 == b0 && (a1 == b1 && (a2 == b2))) = false := by
      rw [Bool.eq_false_iff]
      intro h; simp only [Bool.and_eq_true, beq_iff_eq] at h; unfold keyLt at hab; omega
    rw [decide_eq_true hab, decide_eq_false hba, if_pos rfl, if_neg (by simp), hE, if_neg (by simp), less_is 5, Option.bind_some]
    by_cases hbc : keyLt b0 b1 b2 c0 c1 c2
    · have hac : keyLt a0 a1 a2 c0 c1 c2 := by unfold keyLt at *; omega
      rw [decide_eq_true hbc, if_pos rfl, less_is 5, Option.bind_some, decide_eq_true hac]
      exact J _ rfl
    · rw [decide_eq_false hbc, if_neg (by simp)]
      exact J _ rfl
  · rw [decide_eq_false hab, if_neg (by simp)]
    by_cases hba : keyLt b0 b1 b2 a0 a1 a2
    · have hE : (a0 == b0 && (a1 == b1 && (a2 == b2))) = false := by
        rw [Bool.eq_false_iff]
        intro h; simp only [Bool.and_eq_true, beq_iff_eq] at h; unfold keyLt at hba; omega
      rw [decide_eq_true hba, hE, if_neg (by simp)]
      exact J _ rfl
    · have hE : (a0 == b0 && (a1 == b1 && (a2 == b2))) = true := by
        simp only [Bool.and_eq_true, beq_iff_eq]; unfold keyLt at *; omega
      rw [decide_eq_false hba, hE, if_neg (by simp)]
      exact J _ rfl

end Go.Proofs.Ytgadiajhhjfmbaa.Pure

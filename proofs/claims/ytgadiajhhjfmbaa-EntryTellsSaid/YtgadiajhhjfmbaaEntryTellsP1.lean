/- The law EntryTells, part 1: what the functions answer, by their terms. No condition. -/
import Derived.Test.YtgadiajhhjfmbaaEntryTellsP0
set_option linter.unusedVariables false
set_option linter.unusedSimpArgs false
set_option maxRecDepth 100000
namespace Go.Ev.R
open Go Go.RowKit
section
variable {N d : Nat} (hN : 100000 ≤ N) {h : T} {s : Nat} (hf : ∀ n, s ≤ n → h.get n = none)
include hN hf
end
end Go.Ev.R
namespace Go.Ev.R
open Go Go.RowKit
section
variable {N d : Nat} (hN : 100000 ≤ N) {h : T} {s : Nat} (hf : ∀ n, s ≤ n → h.get n = none)
include hN hf
end
end Go.Ev.R
namespace Go.Ev.R
open Go Go.RowKit
theorem eqb_4 (a b : Bool) (k : Value → Nat → AM) (s : Nat) : eqX P 4 4 false false (.bool a) (.bool b) k s = k (.bool (a == b)) s := by cases a <;> cases b <;> kernel_rfl
section
variable {N d : Nat} (hN : 100000 ≤ N) {h : T} {s : Nat} (hf : ∀ n, s ≤ n → h.get n = none)
include hN hf
end
end Go.Ev.R
namespace Go.Ev.R
open Go Go.RowKit
end Go.Ev.R
namespace Go.Ev.R
open Go Go.RowKit
theorem same_iff {x y : K3} : sameK x y = true ↔ x = y := by
  obtain ⟨a, b, c⟩ := x
  obtain ⟨a', b', c'⟩ := y
  simp [sameK]
theorem less_self (x : K3) : lessK x x = false := by simp [lessK]
theorem found {x : K3} {m : List K3} (h : risingK m = true) (hm : x ∈ m) : atK x m = true := by
  obtain ⟨j, hj⟩ := List.getElem?_of_mem hm
  have hl := (List.getElem?_eq_some_iff.1 hj).1
  have : plK x m = j := pl_eq (by omega) (fun k y hk hy => rise_lt h hy hk hj) (fun y hy => by rw [hj] at hy; cases hy; exact less_self x)
  unfold atK
  rw [this, hj]
  exact same_iff.2 rfl
theorem at_is {x : K3} {m : List K3} (h : atK x m = true) : m[plK x m]? = some x := by
  unfold atK at h
  split at h
  · rename_i y hy
    rw [hy, same_iff.1 h]
  · cases h
end Go.Ev.R

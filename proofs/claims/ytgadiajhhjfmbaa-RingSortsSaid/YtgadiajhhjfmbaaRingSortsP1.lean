/- The law RingSorts, part 1: what the functions answer, by their terms. No condition. -/
import Derived.Test.YtgadiajhhjfmbaaRingSortsP0
set_option linter.unusedVariables false
set_option linter.unusedSimpArgs false
set_option maxRecDepth 100000
namespace Go.Ev.R
open Go Go.RowKit
theorem shr1 {P : Program} (t yt : TypeId) (cx cy : Bool) (k1 k2 : IntKind) (a : Int) (k : Value → Nat → AM) (s : Nat) : shrX P t yt cx cy (.int k1 a) (.int k2 1) k s = k (.int k1 (a.fdiv (2 ^ (min 1 k1.bits)))) s := shr_eq t yt cx cy k1 k2 a 1 k s
section
variable {N d : Nat} (hN : 100000 ≤ N) {h : T} {s : Nat} (hf : ∀ n, s ≤ n → h.get n = none)
include hN hf
end
end Go.Ev.R
namespace Go.Ev.R
open Go Go.RowKit
def findK (x : K3) (l : List K3) : List Value := if risingK l = true then [.int .i64 (plK x l : Int), .bool (atK x l)] else [.int .i64 0, .bool false]
section
variable {N d : Nat} (hN : 100000 ≤ N) {h : T} {s : Nat} (hf : ∀ n, s ≤ n → h.get n = none)
include hN hf
end
end Go.Ev.R
namespace Go.Ev.R
open Go Go.RowKit
theorem eqb_4 (a b : Bool) (k : Value → Nat → AM) (s : Nat) : eqX P 4 4 false false (.bool a) (.bool b) k s = k (.bool (a == b)) s := by cases a <;> cases b <;> kernel_rfl
section
variable {N d : Nat} (hN : 100000 ≤ N) {h : T} {s : Nat} (hf : ∀ n, s ≤ n → h.get n = none)
include hN hf
end
end Go.Ev.R
namespace Go.Ev.R
open Go Go.RowKit
def insK (x : K3) (m : List K3) : List K3 := m.take (plK x m) ++ x :: m.drop (plK x m)
end Go.Ev.R
namespace Go.Ev.R
open Go Go.RowKit
theorem same_iff {x y : K3} : sameK x y = true ↔ x = y := by
  obtain ⟨a, b, c⟩ := x
  obtain ⟨a', b', c'⟩ := y
  simp [sameK]
theorem less_self (x : K3) : lessK x x = false := by simp [lessK]
theorem pl_le (x : K3) : ∀ l : List K3, plK x l ≤ l.length
  | [] => Nat.le_refl _
  | y :: l => by
    have := pl_le x l
    unfold plK
    split
    · simp; omega
    · simp
theorem pl_lt {x : K3} : ∀ {l : List K3} {k : Nat} {y : K3}, k < plK x l → l[k]? = some y → lessK y x = true
  | z :: l, k, y, h, hy => by
    unfold plK at h
    split at h
    · rename_i hz
      cases k with
      | zero => simp at hy; subst hy; exact hz
      | succ k => exact pl_lt (l := l) (k := k) (by omega) (by simpa using hy)
    · omega
theorem pl_at {x : K3} : ∀ {l : List K3} {y : K3}, l[plK x l]? = some y → lessK y x = false
  | z :: l, y, hy => by
    unfold plK at hy
    split at hy
    · exact pl_at (l := l) (by simpa using hy)
    · rename_i hz
      simp at hy; subst hy; simpa using hz
theorem upTo_of {p : K3 → K3 → Bool} {l : List K3} (h : ∀ i x y, l[i]? = some x → l[i + 1]? = some y → p x y = true) : ∀ n, upTo p l n = true
  | 0 => rfl
  | n + 1 => by
    show (upTo p l n && _) = true
    rw [upTo_of h n]
    cases hx : l[n]? with
    | none => rfl
    | some x =>
      cases hy : l[n + 1]? with
      | none => rfl
      | some y => exact h n x y hx hy
theorem ins_at (x : K3) (m : List K3) (i : Nat) : (insK x m)[i]? = if i < plK x m then m[i]? else if i = plK x m then some x else m[i - 1]? := by
  have hk := pl_le x m
  unfold insK
  generalize plK x m = k at *
  have htk : (m.take k).length = k := by rw [List.length_take]; omega
  by_cases h1 : i < k
  · rw [if_pos h1, List.getElem?_append_left (by omega), List.getElem?_take, if_pos h1]
  · rw [if_neg h1, List.getElem?_append_right (by omega), htk]
    by_cases h2 : i = k
    · subst h2; rw [if_pos rfl, Nat.sub_self]; rfl
    · rw [if_neg h2]
      obtain ⟨j, hj⟩ : ∃ j, i - k = j + 1 := ⟨i - k - 1, by omega⟩
      rw [hj, List.getElem?_cons_succ, List.getElem?_drop]
      congr 1; omega
theorem ins_rise {x : K3} {m : List K3} (h : risingK m = true) (hn : atK x m = false) : risingK (insK x m) = true := by
  refine upTo_of (fun i a b ha hb => ?_) _
  rw [ins_at] at ha hb
  by_cases h1 : i < plK x m
  · rw [if_pos h1] at ha
    by_cases h2 : i + 1 < plK x m
    · rw [if_pos h2] at hb
      exact rise_lt h ha (Nat.lt_succ_self i) hb
    · rw [if_neg h2, if_pos (by omega)] at hb
      cases hb
      exact pl_lt h1 ha
  · rw [if_neg h1] at ha
    rw [if_neg (by omega), if_neg (by omega), Nat.add_sub_cancel] at hb
    by_cases h2 : i = plK x m
    · rw [if_pos h2] at ha
      cases ha
      subst h2
      have h3 := pl_at hb
      unfold atK at hn
      rw [hb] at hn
      rw [← less_iff, h3]
      simpa using hn
    · rw [if_neg h2] at ha
      exact rise_lt h ha (by omega) hb
theorem ins_mem {x y : K3} {m : List K3} (h : y = x ∨ y ∈ m) : y ∈ insK x m := by
  unfold insK
  rcases h with rfl | h
  · simp
  · have := List.take_append_drop (plK x m) m
    rw [← this] at h
    rcases List.mem_append.1 h with h | h
    · exact List.mem_append.2 (.inl h)
    · exact List.mem_append.2 (.inr (List.mem_cons_of_mem _ h))
theorem found {x : K3} {m : List K3} (h : risingK m = true) (hm : x ∈ m) : atK x m = true := by
  obtain ⟨j, hj⟩ := List.getElem?_of_mem hm
  have hl := (List.getElem?_eq_some_iff.1 hj).1
  have : plK x m = j := pl_eq (by omega) (fun k y hk hy => rise_lt h hy hk hj) (fun y hy => by rw [hj] at hy; cases hy; exact less_self x)
  unfold atK
  rw [this, hj]
  exact same_iff.2 rfl
theorem at_is {x : K3} {m : List K3} (h : atK x m = true) : m[plK x m]? = some x := by
  unfold atK at h
  split at h
  · rename_i y hy
    rw [hy, same_iff.1 h]
  · cases h
end Go.Ev.R

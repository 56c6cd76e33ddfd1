/- The law EntryTells, part 0: what the functions answer, by their terms. No condition. -/
import Derived.Test.YtgadiajhhjfmbaaEntryTellsK
import Derived.Test.YtgadiajhhjfmbaaXQ
set_option linter.unusedVariables false
set_option linter.unusedSimpArgs false
set_option maxRecDepth 100000
namespace Go.Ev.R
open Go Go.RowKit
structure K3 where
  a : Int
  b : Int
  c : Int
def kv (x : K3) : List Value := [.int .i64 x.a, .int .i64 x.b, .int .i64 x.c]
abbrev kval (x : K3) : Value := .agg ⟨kv x⟩
def EK : Enc K3 := ⟨3, kv, by decide, fun _ => rfl⟩
section
variable {N d : Nat} (hN : 100000 ≤ N) {h : T} {s : Nat} (hf : ∀ n, s ≤ n → h.get n = none)
include hf
theorem s45 (a b c : Int) (e : Bool) (v : Value) : ValS (D N (d + 1)) 45 [.agg ⟨[.int .i64 a, .int .i64 b, .int .i64 c, .bool e, v]⟩] h s (kval ⟨a, b, c⟩) := by
  refine ValS.mk fun K pw Z hp hk => ?_
  rw [D_45]; unfold F45; rw [app1_eq]
  simp (disch := omega) only [tys, bindJ_eq, logJ_eq, wp_box, wp_load, wp_cells, wp_aput, wp_anew, wp_cond, wp_guard, gd_true, gd_false, pick_eq, add_eq, sub_eq, eq_eq, ne_eq, lt_eq, le_eq, gt_eq, ge_eq, shr_eq, shl_eq, quo_eq, rem_eq, not_eq, wp_log_load, wp_log_cells, wp_log_ret, wp_log_anew, ext0, ext1, ext2, nil_eq, get_ne, get_eq, nth_0, nth_s, cells_agg, cells_int, cells_bool, cells_slice, cells_ptr, ro_zero, one_int, one_bool, one_slice, one_ptr, arr_size, overL, Nat.zero_add, Nat.reduceAdd, Nat.add_zero, List.length_cons, List.length_nil, List.all_cons, List.all_nil, Nat.reduceLeDiff, Nat.ble_eq, Bool.and_true, Bool.not_false, Bool.and_self, decide_true, List.drop_zero, List.drop_succ_cons, List.take_succ_cons, List.take_zero, List.take_nil, true_and, and_true, Int.ofNat_eq_natCast, neg_one, Int.toNat_natCast, Int.natCast_zero, Int.natCast_one, Int.cast_ofNat_Int, List.append_nil, List.nil_append, hf, hp]
  exact hk _ _ (by omega) ⟨fun n hn => by simp (disch := omega) only [get_ne], fun n hn => by simp (disch := omega) only [get_ne, hf]⟩
include hN
end
end Go.Ev.R
namespace Go.Ev.R
open Go Go.RowKit
section
variable {N d : Nat} (hN : 100000 ≤ N) {h : T} {s : Nat} (hf : ∀ n, s ≤ n → h.get n = none)
include hN hf
end
end Go.Ev.R
namespace Go.Ev.R
open Go Go.RowKit
def lessK (x y : K3) : Bool := if x.a = y.a then (if x.b = y.b then decide (x.c < y.c) else decide (x.b < y.b)) else decide (x.a < y.a)
def sameK (x y : K3) : Bool := decide (x.a = y.a) && (decide (x.b = y.b) && decide (x.c = y.c))
section
variable {N d : Nat} (hN : 100000 ≤ N) {h : T} {s : Nat} (hf : ∀ n, s ≤ n → h.get n = none)
include hN hf
omit hN
end
end Go.Ev.R
namespace Go.Ev.R
open Go Go.RowKit
/-- Whether none of the places below n falls. -/
def upTo (p : K3 → K3 → Bool) (l : List K3) : Nat → Bool
  | 0 => true
  | n + 1 => upTo p l n && (match l[n]?, l[n + 1]? with | some x, some y => p x y | _, _ => true)
section
variable {N d : Nat} (hN : 100000 ≤ N) {h : T} {s : Nat} (hf : ∀ n, s ≤ n → h.get n = none)
include hN hf
end
end Go.Ev.R
namespace Go.Ev.R
open Go Go.RowKit
section
variable {N d : Nat} (hN : 100000 ≤ N) {h : T} {s : Nat} (hf : ∀ n, s ≤ n → h.get n = none)
include hf
end
end Go.Ev.R
namespace Go.Ev.R
open Go Go.RowKit
/-- But a row is as it was. -/
structure But (n s : Nat) (h h' : T) (s' : Nat) : Prop where
  keep : ∀ i, i < s → i ≠ n → h'.get i = h.get i
  fresh : ∀ i, s' ≤ i → h'.get i = none
section
variable {N d : Nat} (hN : 100000 ≤ N) {h : T} {s : Nat} (hf : ∀ n, s ≤ n → h.get n = none)
include hN hf
end
end Go.Ev.R
namespace Go.Ev.R
open Go Go.RowKit
def risingK (l : List K3) : Bool := upTo lessK l (l.length - 1)
section
variable {N d : Nat} (hN : 100000 ≤ N) {h : T} {s : Nat} (hf : ∀ n, s ≤ n → h.get n = none)
include hN hf
end
end Go.Ev.R
namespace Go.Ev.R
open Go Go.RowKit
def plK (x : K3) : List K3 → Nat
  | [] => 0
  | y :: l => if lessK y x = true then plK x l + 1 else 0
theorem pl_eq {x : K3} : ∀ {l : List K3} {i : Nat}, i ≤ l.length → (∀ k y, k < i → l[k]? = some y → lessK y x = true) → (∀ y, l[i]? = some y → lessK y x = false) → plK x l = i
  | [], i, h, _, _ => by obtain rfl : i = 0 := by simpa using h
                         rfl
  | y :: l, 0, _, _, h => by
    have := h y rfl
    simp [plK, this]
  | y :: l, i + 1, h0, h1, h2 => by
    have a := h1 0 y (by omega) rfl
    have b := pl_eq (x := x) (l := l) (i := i) (by simpa using h0) (fun k z hk hz => h1 (k + 1) z (by omega) hz) (fun z hz => h2 z hz)
    simp [plK, a, b]
def atK (x : K3) (l : List K3) : Bool := match l[plK x l]? with
  | some y => sameK y x
  | none => false
theorem less_trans {x y z : K3} (h1 : lessK x y = true) (h2 : lessK y z = true) : lessK x z = true := by
  obtain ⟨a, b, c⟩ := x
  obtain ⟨a', b', c'⟩ := y
  obtain ⟨a'', b'', c''⟩ := z
  simp only [lessK] at *
  by_cases e1 : a = a'
  · subst e1
    by_cases e2 : a = a''
    · subst e2
      simp only [if_true] at *
      by_cases e3 : b = b'
      · subst e3
        by_cases e4 : b = b''
        · subst e4
          simp only [if_true, decide_eq_true_eq] at *; omega
        · simp only [if_true, e4, if_false, decide_eq_true_eq] at *; omega
      · by_cases e4 : b' = b''
        · subst e4
          simp only [if_true, e3, if_false, decide_eq_true_eq] at *; omega
        · simp only [e3, e4, if_false, decide_eq_true_eq] at *
          rw [if_neg (by omega)]; simp; omega
    · simp only [e2, if_true, if_false, decide_eq_true_eq] at *; omega
  · by_cases e2 : a' = a''
    · subst e2
      simp only [e1, if_true, if_false, decide_eq_true_eq] at *; omega
    · simp only [e1, e2, if_false, decide_eq_true_eq] at *
      rw [if_neg (by omega)]; simp; omega
theorem upTo_get {p : K3 → K3 → Bool} {l : List K3} : ∀ {n i : Nat} {x y : K3}, upTo p l n = true → i < n → l[i]? = some x → l[i + 1]? = some y → p x y = true
  | n + 1, i, x, y, h, hi, hx, hy => by
    have h : (upTo p l n && (match l[n]?, l[n + 1]? with | some x, some y => p x y | _, _ => true)) = true := h
    rw [Bool.and_eq_true] at h
    rcases Nat.lt_or_ge i n with h1 | h1
    · exact upTo_get h.1 h1 hx hy
    · obtain rfl : i = n := by omega
      have := h.2
      rw [hx, hy] at this
      exact this
theorem rise_lt {l : List K3} (h : risingK l = true) {i : Nat} {x : K3} (hx : l[i]? = some x) : ∀ {j : Nat} {y : K3}, i < j → l[j]? = some y → lessK x y = true
  | j + 1, y, hij, hy => by
    have hj : j + 1 < l.length := (List.getElem?_eq_some_iff.1 hy).1
    obtain ⟨z, hz⟩ := get_some (l := l) (i := j) (by omega)
    have h1 : lessK z y = true := upTo_get (n := l.length - 1) h (by omega) hz hy
    rcases Nat.lt_or_ge i j with h2 | h2
    · exact less_trans (rise_lt h hx h2 hz) h1
    · obtain rfl : i = j := by omega
      rw [hx] at hz
      cases hz; exact h1
end Go.Ev.R

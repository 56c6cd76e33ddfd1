/- The law RingTurns, part 0: what the functions answer, by their terms. No condition. -/
import Derived.Test.YtgadiajhhjfmbaaRingTurnsK
import Derived.Test.YtgadiajhhjfmbaaXQ
set_option linter.unusedVariables false
set_option linter.unusedSimpArgs false
set_option maxRecDepth 100000
namespace Go.Ev.R
open Go Go.RowKit
structure K3 where
  a : Int
  b : Int
  c : Int
def kv (x : K3) : List Value := [.int .i64 x.a, .int .i64 x.b, .int .i64 x.c]
abbrev kval (x : K3) : Value := .agg ⟨kv x⟩
def EK : Enc K3 := ⟨3, kv, by decide, fun _ => rfl⟩
def cmpI (a b : Int) : Int := if a < b then -1 else if b < a then 1 else 0
def firstNZ : List Int → Int
  | [] => 0
  | x :: l => if x = 0 then firstNZ l else x
def ordK (x y : K3) : Int := firstNZ [cmpI x.a y.a, cmpI x.b y.b, cmpI x.c y.c]
section
variable {N d : Nat} (hN : 100000 ≤ N) {h : T} {s : Nat} (hf : ∀ n, s ≤ n → h.get n = none)
include hf
theorem s97 (a : Int) : ValS (D N (d + 1)) 97 [.int .i64 a] h s (.bool false) := by
  refine ValS.mk fun K pw Z hp hk => ?_
  rw [D_97]; unfold F97; rw [app1_eq]
  simp (disch := omega) only [tys, bindJ_eq, logJ_eq, wp_box, wp_load, wp_cells, wp_aput, wp_anew, wp_cond, wp_guard, gd_true, gd_false, pick_eq, add_eq, sub_eq, eq_eq, ne_eq, lt_eq, le_eq, gt_eq, ge_eq, shr_eq, shl_eq, quo_eq, rem_eq, not_eq, wp_log_load, wp_log_cells, wp_log_ret, wp_log_anew, ext0, ext1, ext2, nil_eq, get_ne, get_eq, nth_0, nth_s, cells_agg, cells_int, cells_bool, cells_slice, cells_ptr, ro_zero, one_int, one_bool, one_slice, one_ptr, arr_size, overL, Nat.zero_add, Nat.reduceAdd, Nat.add_zero, List.length_cons, List.length_nil, List.all_cons, List.all_nil, Nat.reduceLeDiff, Nat.ble_eq, Bool.and_true, Bool.not_false, Bool.and_self, decide_true, List.drop_zero, List.drop_succ_cons, List.take_succ_cons, List.take_zero, List.take_nil, true_and, and_true, Int.ofNat_eq_natCast, neg_one, Int.toNat_natCast, Int.natCast_zero, Int.natCast_one, Int.cast_ofNat_Int, List.append_nil, List.nil_append]
  exact hk _ _ (Nat.le_refl _) (.refl hf)
theorem s45 (a b c : Int) (e : Bool) (v : Value) : ValS (D N (d + 1)) 45 [.agg ⟨[.int .i64 a, .int .i64 b, .int .i64 c, .bool e, v]⟩] h s (kval ⟨a, b, c⟩) := by
  refine ValS.mk fun K pw Z hp hk => ?_
  rw [D_45]; unfold F45; rw [app1_eq]
  simp (disch := omega) only [tys, bindJ_eq, logJ_eq, wp_box, wp_load, wp_cells, wp_aput, wp_anew, wp_cond, wp_guard, gd_true, gd_false, pick_eq, add_eq, sub_eq, eq_eq, ne_eq, lt_eq, le_eq, gt_eq, ge_eq, shr_eq, shl_eq, quo_eq, rem_eq, not_eq, wp_log_load, wp_log_cells, wp_log_ret, wp_log_anew, ext0, ext1, ext2, nil_eq, get_ne, get_eq, nth_0, nth_s, cells_agg, cells_int, cells_bool, cells_slice, cells_ptr, ro_zero, one_int, one_bool, one_slice, one_ptr, arr_size, overL, Nat.zero_add, Nat.reduceAdd, Nat.add_zero, List.length_cons, List.length_nil, List.all_cons, List.all_nil, Nat.reduceLeDiff, Nat.ble_eq, Bool.and_true, Bool.not_false, Bool.and_self, decide_true, List.drop_zero, List.drop_succ_cons, List.take_succ_cons, List.take_zero, List.take_nil, true_and, and_true, Int.ofNat_eq_natCast, neg_one, Int.toNat_natCast, Int.natCast_zero, Int.natCast_one, Int.cast_ofNat_Int, List.append_nil, List.nil_append, hf, hp]
  exact hk _ _ (by omega) ⟨fun n hn => by simp (disch := omega) only [get_ne], fun n hn => by simp (disch := omega) only [get_ne, hf]⟩
theorem s78 (a b : Int) : ValS (D N (d + 2)) 78 [.int .i64 a, .int .i64 b] h s (.int .i64 (cmpI a b)) := by
  refine ValS.mk fun K pw Z hp hk => ?_
  rw [D_78]; unfold F78; rw [app2_eq]
  refine (s97 hf a).use hp fun h1 s1 hs1 g1 => ?_
  refine (s97 g1.fresh b).use (fun n hn => hp n (by omega)) fun h2 s2 hs2 g2 => ?_
  have hk := hk h2 s2 (by omega) (g1.trans hs1 g2)
  unfold cmpI at hk
  simp (disch := omega) only [tys, bindJ_eq, logJ_eq, wp_box, wp_load, wp_cells, wp_aput, wp_anew, wp_cond, wp_guard, gd_true, gd_false, pick_eq, add_eq, sub_eq, eq_eq, ne_eq, lt_eq, le_eq, gt_eq, ge_eq, shr_eq, shl_eq, quo_eq, rem_eq, not_eq, wp_log_load, wp_log_cells, wp_log_ret, wp_log_anew, ext0, ext1, ext2, nil_eq, get_ne, get_eq, nth_0, nth_s, cells_agg, cells_int, cells_bool, cells_slice, cells_ptr, ro_zero, one_int, one_bool, one_slice, one_ptr, arr_size, overL, Nat.zero_add, Nat.reduceAdd, Nat.add_zero, List.length_cons, List.length_nil, List.all_cons, List.all_nil, Nat.reduceLeDiff, Nat.ble_eq, Bool.and_true, Bool.not_false, Bool.and_self, decide_true, List.drop_zero, List.drop_succ_cons, List.take_succ_cons, List.take_zero, List.take_nil, true_and, and_true, Int.ofNat_eq_natCast, neg_one, Int.toNat_natCast, Int.natCast_zero, Int.natCast_one, Int.cast_ofNat_Int, List.append_nil, List.nil_append]
  split at hk
  · rename_i hab; simp only [hab, decide_true, if_true, if_false, Bool.false_eq_true]; exact hk
  · rename_i hab; simp only [hab, decide_false, if_false, Bool.false_eq_true]
    split at hk
    · rename_i hba; simp only [hba, decide_true, if_true]; exact hk
    · rename_i hba; simp only [hba, decide_false, if_false, Bool.false_eq_true]; exact hk
include hN
theorem s77 {p : Option Addr} {len cap : Nat} {l : List Int} (r : Row EI h p len l) (hl : len ≤ 1000) : ValS (D N (d + 1)) 77 [.slice p len cap] h s (.int .i64 (firstNZ l)) := by
  refine ValS.mk fun K pw Z hp hk => ?_
  rw [D_77]; unfold F77; rw [app1_eq]
  simp (disch := omega) only [tys, bindJ_eq, logJ_eq, wp_box, wp_load, wp_cells, wp_aput, wp_anew, wp_cond, wp_guard, gd_true, gd_false, pick_eq, add_eq, sub_eq, eq_eq, ne_eq, lt_eq, le_eq, gt_eq, ge_eq, shr_eq, shl_eq, quo_eq, rem_eq, not_eq, wp_log_load, wp_log_cells, wp_log_ret, wp_log_anew, ext0, ext1, ext2, nil_eq, get_ne, get_eq, nth_0, nth_s, cells_agg, cells_int, cells_bool, cells_slice, cells_ptr, ro_zero, one_int, one_bool, one_slice, one_ptr, arr_size, overL, Nat.zero_add, Nat.reduceAdd, Nat.add_zero, List.length_cons, List.length_nil, List.all_cons, List.all_nil, Nat.reduceLeDiff, Nat.ble_eq, Bool.and_true, Bool.not_false, Bool.and_self, decide_true, List.drop_zero, List.drop_succ_cons, List.take_succ_cons, List.take_zero, List.take_nil, true_and, and_true, Int.ofNat_eq_natCast, neg_one, Int.toNat_natCast, Int.natCast_zero, Int.natCast_one, Int.cast_ofNat_Int, List.append_nil, List.nil_append]
  have hk := hk h s (Nat.le_refl _) (.refl hf)
  have loop : ∀ (m i : Nat) (u : Value), len - i < m → i ≤ len → firstNZ (l.drop i) = firstNZ l → ((loopJ m 2 (fun _ _ _ => AM.fail) (X77_1 N (D N d) K (.int .i64 (len : Int)) (.slice p len cap) (fun s => K (i64 0) s)) : Value → Value → Nat → AM) u (.int .i64 (i : Int)) s).wp pw Z h := by
    intro m
    induction m with
    | zero => intro i u h1; omega
    | succ m ih =>
      intro i u h1 h2 h3
      rw [loopJ_succ]
      unfold X77_1
      simp (disch := omega) only [tys, bindJ_eq, logJ_eq, wp_box, wp_load, wp_cells, wp_aput, wp_anew, wp_cond, wp_guard, gd_true, gd_false, pick_eq, add_eq, sub_eq, eq_eq, ne_eq, lt_eq, le_eq, gt_eq, ge_eq, shr_eq, shl_eq, quo_eq, rem_eq, not_eq, wp_log_load, wp_log_cells, wp_log_ret, wp_log_anew, ext0, ext1, ext2, nil_eq, get_ne, get_eq, nth_0, nth_s, cells_agg, cells_int, cells_bool, cells_slice, cells_ptr, ro_zero, one_int, one_bool, one_slice, one_ptr, arr_size, overL, Nat.zero_add, Nat.reduceAdd, Nat.add_zero, List.length_cons, List.length_nil, List.all_cons, List.all_nil, Nat.reduceLeDiff, Nat.ble_eq, Bool.and_true, Bool.not_false, Bool.and_self, decide_true, List.drop_zero, List.drop_succ_cons, List.take_succ_cons, List.take_zero, List.take_nil, true_and, and_true, Int.ofNat_eq_natCast, neg_one, Int.toNat_natCast, Int.natCast_zero, Int.natCast_one, Int.cast_ofNat_Int, List.append_nil, List.nil_append]
      by_cases hi : i < len
      · obtain ⟨x, hx⟩ := get_some (l := l) (i := i) (by rw [r.1]; exact hi)
        have hd : l.drop i = x :: l.drop (i + 1) := by
          obtain ⟨hlt, rfl⟩ := List.getElem?_eq_some_iff.1 hx
          exact List.drop_eq_getElem_cons hlt
        rw [hd] at h3
        simp (disch := omega) only [tys, bindJ_eq, logJ_eq, wp_box, wp_load, wp_cells, wp_aput, wp_anew, wp_cond, wp_guard, gd_true, gd_false, pick_eq, add_eq, sub_eq, eq_eq, ne_eq, lt_eq, le_eq, gt_eq, ge_eq, shr_eq, shl_eq, quo_eq, rem_eq, not_eq, wp_log_load, wp_log_cells, wp_log_ret, wp_log_anew, ext0, ext1, ext2, nil_eq, get_ne, get_eq, nth_0, nth_s, cells_agg, cells_int, cells_bool, cells_slice, cells_ptr, ro_zero, one_int, one_bool, one_slice, one_ptr, arr_size, overL, Nat.zero_add, Nat.reduceAdd, Nat.add_zero, List.length_cons, List.length_nil, List.all_cons, List.all_nil, Nat.reduceLeDiff, Nat.ble_eq, Bool.and_true, Bool.not_false, Bool.and_self, decide_true, List.drop_zero, List.drop_succ_cons, List.take_succ_cons, List.take_zero, List.take_nil, true_and, and_true, Int.ofNat_eq_natCast, neg_one, Int.toNat_natCast, Int.natCast_zero, Int.natCast_one, Int.cast_ofNat_Int, List.append_nil, List.nil_append, show (i : Int) < (len : Int) by omega, Row.int r hx, r.2.xa (z := 1) xa0_41 (by decide) (j := (i : Int)) (by omega) (by omega), Nat.mul_one, if_true]
        by_cases hz : x = 0
        · subst hz
          simp only [decide_true, Bool.not_true, Bool.false_eq_true, if_false]
          rw [wrap_id (by omega) (by omega), show ((i : Int) + 1) = ((i + 1 : Nat) : Int) by omega]
          exact ih (i + 1) u (by omega) (by omega) (by rw [← h3]; rfl)
        · simp only [hz, decide_false, Bool.not_false, if_true]
          have : firstNZ (x :: l.drop (i + 1)) = x := by unfold firstNZ; rw [if_neg hz]
          rw [this] at h3
          rw [h3]; exact hk
      · have hi' : i = len := by omega
        subst hi'
        simp only [Int.lt_irrefl, decide_false, Bool.false_eq_true, if_false]
        rw [List.drop_eq_nil_of_le (by rw [r.1]; exact Nat.le_refl _)] at h3
        rw [← h3] at hk; exact hk
  exact loop N 0 _ (by omega) (by omega) rfl
end
end Go.Ev.R
namespace Go.Ev.R
open Go Go.RowKit
section
variable {N d : Nat} (hN : 100000 ≤ N) {h : T} {s : Nat} (hf : ∀ n, s ≤ n → h.get n = none)
include hN hf
theorem s52 (x y : K3) : ValS (D N (d + 3)) 52 [kval x, kval y] h s (.int .i64 (ordK x y)) := by
  refine ValS.mk fun K pw Z hp hk => ?_
  rw [D_52]; unfold F52; rw [app2_eq]
  simp (disch := omega) only [tys, bindJ_eq, logJ_eq, wp_box, wp_load, wp_cells, wp_aput, wp_anew, wp_cond, wp_guard, gd_true, gd_false, pick_eq, add_eq, sub_eq, eq_eq, ne_eq, lt_eq, le_eq, gt_eq, ge_eq, shr_eq, shl_eq, quo_eq, rem_eq, not_eq, wp_log_load, wp_log_cells, wp_log_ret, wp_log_anew, ext0, ext1, ext2, nil_eq, get_ne, get_eq, nth_0, nth_s, cells_agg, cells_int, cells_bool, cells_slice, cells_ptr, ro_zero, one_int, one_bool, one_slice, one_ptr, arr_size, overL, Nat.zero_add, Nat.reduceAdd, Nat.add_zero, List.length_cons, List.length_nil, List.all_cons, List.all_nil, Nat.reduceLeDiff, Nat.ble_eq, Bool.and_true, Bool.not_false, Bool.and_self, decide_true, List.drop_zero, List.drop_succ_cons, List.take_succ_cons, List.take_zero, List.take_nil, true_and, and_true, Int.ofNat_eq_natCast, neg_one, Int.toNat_natCast, Int.natCast_zero, Int.natCast_one, Int.cast_ofNat_Int, List.append_nil, List.nil_append, hf, hp, X52_3, X52_2, X52_1, kval, kv]
  refine (s78 (fun n hn => by simp (disch := omega) only [get_ne, hf]) _ _).log (fun n hn => hp n (by omega)) fun h1 s1 ts1 ws1 hs1 g1 hw1 => ?_
  simp (disch := omega) only [tys, bindJ_eq, logJ_eq, wp_box, wp_load, wp_cells, wp_aput, wp_anew, wp_cond, wp_guard, gd_true, gd_false, pick_eq, add_eq, sub_eq, eq_eq, ne_eq, lt_eq, le_eq, gt_eq, ge_eq, shr_eq, shl_eq, quo_eq, rem_eq, not_eq, wp_log_load, wp_log_cells, wp_log_ret, wp_log_anew, ext0, ext1, ext2, nil_eq, get_ne, get_eq, nth_0, nth_s, cells_agg, cells_int, cells_bool, cells_slice, cells_ptr, ro_zero, one_int, one_bool, one_slice, one_ptr, arr_size, overL, Nat.zero_add, Nat.reduceAdd, Nat.add_zero, List.length_cons, List.length_nil, List.all_cons, List.all_nil, Nat.reduceLeDiff, Nat.ble_eq, Bool.and_true, Bool.not_false, Bool.and_self, decide_true, List.drop_zero, List.drop_succ_cons, List.take_succ_cons, List.take_zero, List.take_nil, true_and, and_true, Int.ofNat_eq_natCast, neg_one, Int.toNat_natCast, Int.natCast_zero, Int.natCast_one, Int.cast_ofNat_Int, List.append_nil, List.nil_append, hf, hp, g1.keep]
  refine (s78 g1.fresh _ _).log (fun n hn => hp n (by omega)) fun h2 s2 ts2 ws2 hs2 g2 hw2 => ?_
  simp (disch := omega) only [tys, bindJ_eq, logJ_eq, wp_box, wp_load, wp_cells, wp_aput, wp_anew, wp_cond, wp_guard, gd_true, gd_false, pick_eq, add_eq, sub_eq, eq_eq, ne_eq, lt_eq, le_eq, gt_eq, ge_eq, shr_eq, shl_eq, quo_eq, rem_eq, not_eq, wp_log_load, wp_log_cells, wp_log_ret, wp_log_anew, ext0, ext1, ext2, nil_eq, get_ne, get_eq, nth_0, nth_s, cells_agg, cells_int, cells_bool, cells_slice, cells_ptr, ro_zero, one_int, one_bool, one_slice, one_ptr, arr_size, overL, Nat.zero_add, Nat.reduceAdd, Nat.add_zero, List.length_cons, List.length_nil, List.all_cons, List.all_nil, Nat.reduceLeDiff, Nat.ble_eq, Bool.and_true, Bool.not_false, Bool.and_self, decide_true, List.drop_zero, List.drop_succ_cons, List.take_succ_cons, List.take_zero, List.take_nil, true_and, and_true, Int.ofNat_eq_natCast, neg_one, Int.toNat_natCast, Int.natCast_zero, Int.natCast_one, Int.cast_ofNat_Int, List.append_nil, List.nil_append, hf, hp, g1.keep, g2.keep]
  refine (s78 g2.fresh _ _).log (fun n hn => hp n (by omega)) fun h3 s3 ts3 ws3 hs3 g3 hw3 => ?_
  simp (disch := omega) only [tys, bindJ_eq, logJ_eq, wp_box, wp_load, wp_cells, wp_aput, wp_anew, wp_cond, wp_guard, gd_true, gd_false, pick_eq, add_eq, sub_eq, eq_eq, ne_eq, lt_eq, le_eq, gt_eq, ge_eq, shr_eq, shl_eq, quo_eq, rem_eq, not_eq, wp_log_load, wp_log_cells, wp_log_ret, wp_log_anew, ext0, ext1, ext2, nil_eq, get_ne, get_eq, nth_0, nth_s, cells_agg, cells_int, cells_bool, cells_slice, cells_ptr, ro_zero, one_int, one_bool, one_slice, one_ptr, arr_size, overL, Nat.zero_add, Nat.reduceAdd, Nat.add_zero, List.length_cons, List.length_nil, List.all_cons, List.all_nil, Nat.reduceLeDiff, Nat.ble_eq, Bool.and_true, Bool.not_false, Bool.and_self, decide_true, List.drop_zero, List.drop_succ_cons, List.take_succ_cons, List.take_zero, List.take_nil, true_and, and_true, Int.ofNat_eq_natCast, neg_one, Int.toNat_natCast, Int.natCast_zero, Int.natCast_one, Int.cast_ofNat_Int, List.append_nil, List.nil_append, hf, hp, g1.keep, g2.keep, g3.keep, g3.fresh, X52_1]
  refine (s77 hN (fun n hn => by simp (disch := omega) only [get_ne, g3.fresh]) (l := [_, _, _]) (.of_cells get_eq rfl) (by simp)).log (fun n hn => hp n (by omega)) fun h4 s4 ts4 ws4 hs4 g4 hw4 => ?_
  simp (disch := omega) only [tys, bindJ_eq, logJ_eq, wp_box, wp_load, wp_cells, wp_aput, wp_anew, wp_cond, wp_guard, gd_true, gd_false, pick_eq, add_eq, sub_eq, eq_eq, ne_eq, lt_eq, le_eq, gt_eq, ge_eq, shr_eq, shl_eq, quo_eq, rem_eq, not_eq, wp_log_load, wp_log_cells, wp_log_ret, wp_log_anew, ext0, ext1, ext2, nil_eq, get_ne, get_eq, nth_0, nth_s, cells_agg, cells_int, cells_bool, cells_slice, cells_ptr, ro_zero, one_int, one_bool, one_slice, one_ptr, arr_size, overL, Nat.zero_add, Nat.reduceAdd, Nat.add_zero, List.length_cons, List.length_nil, List.all_cons, List.all_nil, Nat.reduceLeDiff, Nat.ble_eq, Bool.and_true, Bool.not_false, Bool.and_self, decide_true, List.drop_zero, List.drop_succ_cons, List.take_succ_cons, List.take_zero, List.take_nil, true_and, and_true, Int.ofNat_eq_natCast, neg_one, Int.toNat_natCast, Int.natCast_zero, Int.natCast_one, Int.cast_ofNat_Int, List.append_nil, List.nil_append, hf, hp, g1.keep, g2.keep, g3.keep]
  rw [if_pos (by repeat' (first | exact dynOk_nil _ _ | refine dyn_skip' ?_ | refine dyn_cons ?_ ?_ | exact allF_nil _ _ | refine allF_cons ?_ ?_ | exact disj_below hw1 (by omega) | exact disjA hw1 (by omega) | exact disjB hw1 (by omega) | exact disjC hw1 (by assumption) | exact disjD (fun m hm => by have := hw1 m hm; omega) | exact disj_below hw2 (by omega) | exact disjA hw2 (by omega) | exact disjB hw2 (by omega) | exact disjC hw2 (by assumption) | exact disjD (fun m hm => by have := hw2 m hm; omega) | exact disj_below hw3 (by omega) | exact disjA hw3 (by omega) | exact disjB hw3 (by omega) | exact disjC hw3 (by assumption) | exact disjD (fun m hm => by have := hw3 m hm; omega) | exact disjN _ | exact disj1 (by omega) | exact disj2 (by omega) | exact disj3 (by assumption) | exact disjC hw1 (fun m hm => by have := hw2 m hm; omega) | exact disjC hw1 (fun m hm => by have := hw3 m hm; omega) | exact disjC hw2 (fun m hm => by have := hw1 m hm; omega) | exact disjC hw2 (fun m hm => by have := hw3 m hm; omega) | exact disjC hw3 (fun m hm => by have := hw1 m hm; omega) | exact disjC hw3 (fun m hm => by have := hw2 m hm; omega)))]
  exact hk _ _ (by omega) ⟨fun n hn => by simp (disch := omega) only [get_ne, hf, g1.keep, g2.keep, g3.keep, g4.keep, g4.fresh], fun n hn => by simp (disch := omega) only [get_ne, hf, g1.keep, g2.keep, g3.keep, g4.keep, g4.fresh]⟩
end
end Go.Ev.R
namespace Go.Ev.R
open Go Go.RowKit
def lessK (x y : K3) : Bool := if x.a = y.a then (if x.b = y.b then decide (x.c < y.c) else decide (x.b < y.b)) else decide (x.a < y.a)
def twinK (x y : K3) : Bool := decide (x.b = y.b) && decide (x.c = y.c)
def sameK (x y : K3) : Bool := decide (x.a = y.a) && (decide (x.b = y.b) && decide (x.c = y.c))
theorem ordK_lt (x y : K3) : decide (ordK x y < 0) = lessK x y := by
  obtain ⟨a, b, c⟩ := x
  obtain ⟨a', b', c'⟩ := y
  simp only [ordK, firstNZ, cmpI, lessK]
  rcases Int.lt_trichotomy a a' with h1 | h1 | h1
  · simp [h1, show ¬ a = a' by omega]
  · subst h1
    rcases Int.lt_trichotomy b b' with h2 | h2 | h2
    · simp [h2, show ¬ b = b' by omega]
    · subst h2
      rcases Int.lt_trichotomy c c' with h3 | h3 | h3
      · simp [h3]
      · subst h3; simp
      · simp [h3, show ¬ c < c' by omega]
    · simp [h2, show ¬ b < b' by omega, show ¬ b = b' by omega]
  · simp [h1, show ¬ a < a' by omega, show ¬ a = a' by omega]
section
variable {N d : Nat} (hN : 100000 ≤ N) {h : T} {s : Nat} (hf : ∀ n, s ≤ n → h.get n = none)
include hN hf
theorem s17 (x y : K3) : ValS (D N (d + 4)) 17 [kval x, kval y] h s (.bool (lessK x y)) := by
  refine ValS.mk fun K pw Z hp hk => ?_
  rw [D_17]; unfold F17; rw [app2_eq]
  simp (disch := omega) only [tys, bindJ_eq, logJ_eq, wp_box, wp_load, wp_cells, wp_aput, wp_anew, wp_cond, wp_guard, gd_true, gd_false, pick_eq, add_eq, sub_eq, eq_eq, ne_eq, lt_eq, le_eq, gt_eq, ge_eq, shr_eq, shl_eq, quo_eq, rem_eq, not_eq, wp_log_load, wp_log_cells, wp_log_ret, wp_log_anew, ext0, ext1, ext2, nil_eq, get_ne, get_eq, nth_0, nth_s, cells_agg, cells_int, cells_bool, cells_slice, cells_ptr, ro_zero, one_int, one_bool, one_slice, one_ptr, arr_size, overL, Nat.zero_add, Nat.reduceAdd, Nat.add_zero, List.length_cons, List.length_nil, List.all_cons, List.all_nil, Nat.reduceLeDiff, Nat.ble_eq, Bool.and_true, Bool.not_false, Bool.and_self, decide_true, List.drop_zero, List.drop_succ_cons, List.take_succ_cons, List.take_zero, List.take_nil, true_and, and_true, Int.ofNat_eq_natCast, neg_one, Int.toNat_natCast, Int.natCast_zero, Int.natCast_one, Int.cast_ofNat_Int, List.append_nil, List.nil_append, hf, hp, kval, kv]
  refine (s52 hN (fun n hn => by simp (disch := omega) only [get_ne, hf]) x y).use (fun n hn => hp n (by omega)) fun h1 s1 hs1 g1 => ?_
  simp (disch := omega) only [tys, bindJ_eq, logJ_eq, wp_box, wp_load, wp_cells, wp_aput, wp_anew, wp_cond, wp_guard, gd_true, gd_false, pick_eq, add_eq, sub_eq, eq_eq, ne_eq, lt_eq, le_eq, gt_eq, ge_eq, shr_eq, shl_eq, quo_eq, rem_eq, not_eq, wp_log_load, wp_log_cells, wp_log_ret, wp_log_anew, ext0, ext1, ext2, nil_eq, get_ne, get_eq, nth_0, nth_s, cells_agg, cells_int, cells_bool, cells_slice, cells_ptr, ro_zero, one_int, one_bool, one_slice, one_ptr, arr_size, overL, Nat.zero_add, Nat.reduceAdd, Nat.add_zero, List.length_cons, List.length_nil, List.all_cons, List.all_nil, Nat.reduceLeDiff, Nat.ble_eq, Bool.and_true, Bool.not_false, Bool.and_self, decide_true, List.drop_zero, List.drop_succ_cons, List.take_succ_cons, List.take_zero, List.take_nil, true_and, and_true, Int.ofNat_eq_natCast, neg_one, Int.toNat_natCast, Int.natCast_zero, Int.natCast_one, Int.cast_ofNat_Int, List.append_nil, List.nil_append]
  rw [ordK_lt]
  exact hk _ _ (by omega) ⟨fun n hn => by simp (disch := omega) only [get_ne, hf, g1.keep, g1.fresh], fun n hn => by simp (disch := omega) only [get_ne, hf, g1.keep, g1.fresh]⟩
omit hN
theorem s18 (x y : K3) : ValS (D N (d + 1)) 18 [kval x, kval y] h s (.bool (lessK x y)) := by
  refine ValS.mk fun K pw Z hp hk => ?_
  rw [D_18]; unfold F18; rw [app2_eq]
  simp (disch := omega) only [tys, bindJ_eq, logJ_eq, wp_box, wp_load, wp_cells, wp_aput, wp_anew, wp_cond, wp_guard, gd_true, gd_false, pick_eq, add_eq, sub_eq, eq_eq, ne_eq, lt_eq, le_eq, gt_eq, ge_eq, shr_eq, shl_eq, quo_eq, rem_eq, not_eq, wp_log_load, wp_log_cells, wp_log_ret, wp_log_anew, ext0, ext1, ext2, nil_eq, get_ne, get_eq, nth_0, nth_s, cells_agg, cells_int, cells_bool, cells_slice, cells_ptr, ro_zero, one_int, one_bool, one_slice, one_ptr, arr_size, overL, Nat.zero_add, Nat.reduceAdd, Nat.add_zero, List.length_cons, List.length_nil, List.all_cons, List.all_nil, Nat.reduceLeDiff, Nat.ble_eq, Bool.and_true, Bool.not_false, Bool.and_self, decide_true, List.drop_zero, List.drop_succ_cons, List.take_succ_cons, List.take_zero, List.take_nil, true_and, and_true, Int.ofNat_eq_natCast, neg_one, Int.toNat_natCast, Int.natCast_zero, Int.natCast_one, Int.cast_ofNat_Int, List.append_nil, List.nil_append, hf, hp, kval, kv, X18_1]
  have hk := fun h1 g => hk h1 (s + 1 + 1) (by omega) g
  unfold lessK at hk
  by_cases h1 : x.a = y.a
  · simp only [h1, decide_true, Bool.not_true, Bool.false_eq_true, if_false, if_true] at hk ⊢
    by_cases h2 : x.b = y.b
    · simp only [h2, decide_true, Bool.not_true, Bool.false_eq_true, if_false, if_true] at hk ⊢
      exact hk _ ⟨fun n hn => by simp (disch := omega) only [get_ne, hf], fun n hn => by simp (disch := omega) only [get_ne, hf]⟩
    · simp only [h2, decide_false, Bool.not_false, if_true, if_false] at hk ⊢
      exact hk _ ⟨fun n hn => by simp (disch := omega) only [get_ne, hf], fun n hn => by simp (disch := omega) only [get_ne, hf]⟩
  · simp only [h1, decide_false, Bool.not_false, if_true, if_false] at hk ⊢
    exact hk _ ⟨fun n hn => by simp (disch := omega) only [get_ne, hf], fun n hn => by simp (disch := omega) only [get_ne, hf]⟩
theorem s56 (x y : K3) : ValS (D N (d + 1)) 56 [kval x, kval y] h s (.bool (sameK x y)) := by
  refine ValS.mk fun K pw Z hp hk => ?_
  rw [D_56]; unfold F56; rw [app2_eq]
  simp (disch := omega) only [tys, bindJ_eq, logJ_eq, wp_box, wp_load, wp_cells, wp_aput, wp_anew, wp_cond, wp_guard, gd_true, gd_false, pick_eq, add_eq, sub_eq, eq_eq, ne_eq, lt_eq, le_eq, gt_eq, ge_eq, shr_eq, shl_eq, quo_eq, rem_eq, not_eq, wp_log_load, wp_log_cells, wp_log_ret, wp_log_anew, ext0, ext1, ext2, nil_eq, get_ne, get_eq, nth_0, nth_s, cells_agg, cells_int, cells_bool, cells_slice, cells_ptr, ro_zero, one_int, one_bool, one_slice, one_ptr, arr_size, overL, Nat.zero_add, Nat.reduceAdd, Nat.add_zero, List.length_cons, List.length_nil, List.all_cons, List.all_nil, Nat.reduceLeDiff, Nat.ble_eq, Bool.and_true, Bool.not_false, Bool.and_self, decide_true, List.drop_zero, List.drop_succ_cons, List.take_succ_cons, List.take_zero, List.take_nil, true_and, and_true, Int.ofNat_eq_natCast, neg_one, Int.toNat_natCast, Int.natCast_zero, Int.natCast_one, Int.cast_ofNat_Int, List.append_nil, List.nil_append, hf, hp, kval, kv]
  exact hk _ _ (by omega) ⟨fun n hn => by simp (disch := omega) only [get_ne, hf], fun n hn => by simp (disch := omega) only [get_ne, hf]⟩
end
end Go.Ev.R
namespace Go.Ev.R
open Go Go.RowKit
/-- Whether none of the places below n falls. -/
def upTo (p : K3 → K3 → Bool) (l : List K3) : Nat → Bool
  | 0 => true
  | n + 1 => upTo p l n && (match l[n]?, l[n + 1]? with | some x, some y => p x y | _, _ => true)
def sortedK (l : List K3) : Bool := upTo (fun x y => !lessK y x) l (l.length - 1)
theorem row3 {h : T} {p : Option Addr} {len : Nat} {l : List K3} (r : Row EK h p len l) {i : Nat} {x : K3} (hx : l[i]? = some x) {pw : Nat → Prop} {Z : Value → T → Prop} (k : List Value → Nat → AM) (s : Nat) :
    (acells (blk p) (off p + i * 3) 3 k s).wp pw Z h = (k (kv x) s).wp pw Z h := r.ld hx k s
theorem row3L {h : T} {p : Option Addr} {len : Nat} {l : List K3} (r : Row EK h p len l) {i : Nat} {x : K3} (hx : l[i]? = some x) {pw : Nat → Prop} {Z : Value → T → Prop} (q : List Value → Value) (k : LogT) (s : Nat) :
    (AM.log (acells (blk p) (off p + i * 3) 3 (fun l s => .ret (pk (q l) s)) s) (logU k)).wp pw Z h = (k (q (kv x)) [blk p] [] s).wp pw Z h := r.ldL hx q k s
theorem xa3 {h : T} {p : Option Addr} {len : Nat} {l : List K3} (r : Row EK h p len l) {j : Int} (hj0 : 0 ≤ j) (hj : j < (len : Int)) (cap : Nat) (kd : IntKind) (k : Value → Nat → AM) (s : Nat) :
    M.opt (aindexAt P 24 (.slice p len cap) (.int kd j)) k s = k (.pointer (some ⟨blk p, off p + j.toNat * 3, none⟩)) s := r.2.xa (z := 3) xa0_24 (by decide) hj0 hj cap kd k s
section
variable {N d : Nat} (hN : 100000 ≤ N) {h : T} {s : Nat} (hf : ∀ n, s ≤ n → h.get n = none)
include hN hf
theorem s53 {p : Option Addr} {len cap : Nat} {l : List K3} (r : Row EK h p len l) (hl : len ≤ 10000) : ValS (D N (d + 4)) 53 [.slice p len cap, .func (.func 52) ⟨[]⟩ ⟨[]⟩] h s (.bool (sortedK l)) := by
  refine ValS.mk fun K pw Z hp hk => ?_
  rw [D_53]; unfold F53; rw [app2_eq]
  simp (disch := omega) only [tys, bindJ_eq, logJ_eq, wp_box, wp_load, wp_cells, wp_aput, wp_anew, wp_cond, wp_guard, gd_true, gd_false, pick_eq, add_eq, sub_eq, eq_eq, ne_eq, lt_eq, le_eq, gt_eq, ge_eq, shr_eq, shl_eq, quo_eq, rem_eq, not_eq, wp_log_load, wp_log_cells, wp_log_ret, wp_log_anew, ext0, ext1, ext2, nil_eq, get_ne, get_eq, nth_0, nth_s, cells_agg, cells_int, cells_bool, cells_slice, cells_ptr, ro_zero, one_int, one_bool, one_slice, one_ptr, arr_size, overL, Nat.zero_add, Nat.reduceAdd, Nat.add_zero, List.length_cons, List.length_nil, List.all_cons, List.all_nil, Nat.reduceLeDiff, Nat.ble_eq, Bool.and_true, Bool.not_false, Bool.and_self, decide_true, List.drop_zero, List.drop_succ_cons, List.take_succ_cons, List.take_zero, List.take_nil, true_and, and_true, Int.ofNat_eq_natCast, neg_one, Int.toNat_natCast, Int.natCast_zero, Int.natCast_one, Int.cast_ofNat_Int, List.append_nil, List.nil_append]
  rw [wrap_id (by omega) (by omega)]
  have loop : ∀ (m i : Nat) (u : Value) (h1 : T) (s1 : Nat), i < m → (i < len ∨ i = 0) → upTo (fun x y => !lessK y x) l (l.length - 1) = upTo (fun x y => !lessK y x) l i → s ≤ s1 → Grow s h h1 s1 → ((loopJ m 2 (fun _ _ _ => AM.fail) (X53_2 N (D N (d + 3)) K (.slice p len cap) (.func (.func 52) ⟨[]⟩ ⟨[]⟩) (fun s => K (.bool true) s)) : Value → Value → Nat → AM) u (.int .i64 (i : Int)) s1).wp pw Z h1 := by
    intro m
    induction m with
    | zero => intro i u h1 s1 h2; omega
    | succ m ih =>
      intro i u h1 s1 h2 h3 h4 hs1 g1
      rw [loopJ_succ]
      unfold X53_2
      simp (disch := omega) only [tys, bindJ_eq, logJ_eq, wp_box, wp_load, wp_cells, wp_aput, wp_anew, wp_cond, wp_guard, gd_true, gd_false, pick_eq, add_eq, sub_eq, eq_eq, ne_eq, lt_eq, le_eq, gt_eq, ge_eq, shr_eq, shl_eq, quo_eq, rem_eq, not_eq, wp_log_load, wp_log_cells, wp_log_ret, wp_log_anew, ext0, ext1, ext2, nil_eq, get_ne, get_eq, nth_0, nth_s, cells_agg, cells_int, cells_bool, cells_slice, cells_ptr, ro_zero, one_int, one_bool, one_slice, one_ptr, arr_size, overL, Nat.zero_add, Nat.reduceAdd, Nat.add_zero, List.length_cons, List.length_nil, List.all_cons, List.all_nil, Nat.reduceLeDiff, Nat.ble_eq, Bool.and_true, Bool.not_false, Bool.and_self, decide_true, List.drop_zero, List.drop_succ_cons, List.take_succ_cons, List.take_zero, List.take_nil, true_and, and_true, Int.ofNat_eq_natCast, neg_one, Int.toNat_natCast, Int.natCast_zero, Int.natCast_one, Int.cast_ofNat_Int, List.append_nil, List.nil_append]
      by_cases hi : 0 < i
      · obtain ⟨i, rfl⟩ : ∃ j, i = j + 1 := ⟨i - 1, by omega⟩
        obtain ⟨x, hx⟩ := get_some (l := l) (i := i) (by rw [r.1]; omega)
        obtain ⟨y, hy⟩ := get_some (l := l) (i := i + 1) (by rw [r.1]; omega)
        have r1 := r.grow hf g1
        have e1 : ((i + 1 : Nat) : Int) - ((1 : Nat) : Int) = (i : Int) := by omega
        have e2 : ((i + 1 : Nat) : Int) - 1 = (i : Int) := by omega
        simp (disch := omega) only [tys, bindJ_eq, logJ_eq, wp_box, wp_load, wp_cells, wp_aput, wp_anew, wp_cond, wp_guard, gd_true, gd_false, pick_eq, add_eq, sub_eq, eq_eq, ne_eq, lt_eq, le_eq, gt_eq, ge_eq, shr_eq, shl_eq, quo_eq, rem_eq, not_eq, wp_log_load, wp_log_cells, wp_log_ret, wp_log_anew, ext0, ext1, ext2, nil_eq, get_ne, get_eq, nth_0, nth_s, cells_agg, cells_int, cells_bool, cells_slice, cells_ptr, ro_zero, one_int, one_bool, one_slice, one_ptr, arr_size, overL, Nat.zero_add, Nat.reduceAdd, Nat.add_zero, List.length_cons, List.length_nil, List.all_cons, List.all_nil, Nat.reduceLeDiff, Nat.ble_eq, Bool.and_true, Bool.not_false, Bool.and_self, decide_true, List.drop_zero, List.drop_succ_cons, List.take_succ_cons, List.take_zero, List.take_nil, true_and, and_true, Int.ofNat_eq_natCast, neg_one, Int.toNat_natCast, Int.natCast_zero, Int.natCast_one, Int.cast_ofNat_Int, List.append_nil, List.nil_append, show (0 : Int) < ((i + 1 : Nat) : Int) by omega, if_true, xa3 r1 (j := ((i + 1 : Nat) : Int)) (by omega) (by omega), xa3 r1 (j := (i : Int)) (by omega) (by omega), row3L r1 hx, row3L r1 hy, X53_1, e1, e2, wrap_id (a := (i : Int)) (by omega) (by omega), iv_52, List.cons_append]
        refine (s52 hN g1.fresh y x).log (fun n hn => hp n (by omega)) fun h2 s2 ts2 ws2 hs2 g2 hw2 => ?_
        simp (disch := omega) only [tys, bindJ_eq, logJ_eq, wp_box, wp_load, wp_cells, wp_aput, wp_anew, wp_cond, wp_guard, gd_true, gd_false, pick_eq, add_eq, sub_eq, eq_eq, ne_eq, lt_eq, le_eq, gt_eq, ge_eq, shr_eq, shl_eq, quo_eq, rem_eq, not_eq, wp_log_load, wp_log_cells, wp_log_ret, wp_log_anew, ext0, ext1, ext2, nil_eq, get_ne, get_eq, nth_0, nth_s, cells_agg, cells_int, cells_bool, cells_slice, cells_ptr, ro_zero, one_int, one_bool, one_slice, one_ptr, arr_size, overL, Nat.zero_add, Nat.reduceAdd, Nat.add_zero, List.length_cons, List.length_nil, List.all_cons, List.all_nil, Nat.reduceLeDiff, Nat.ble_eq, Bool.and_true, Bool.not_false, Bool.and_self, decide_true, List.drop_zero, List.drop_succ_cons, List.take_succ_cons, List.take_zero, List.take_nil, true_and, and_true, Int.ofNat_eq_natCast, neg_one, Int.toNat_natCast, Int.natCast_zero, Int.natCast_one, Int.cast_ofNat_Int, List.append_nil, List.nil_append, ordK_lt, e1, e2, wrap_id (a := (i : Int)) (by omega) (by omega)]
        have h5 : upTo (fun x y => !lessK y x) l (i + 1) = (upTo (fun x y => !lessK y x) l i && !lessK y x) := by
          show (upTo _ l i && _) = _
          rw [hx, hy]
        rw [h5] at h4
        cases hyx : lessK y x with
        | true =>
          rw [hyx] at h4
          simp only [Bool.not_true, Bool.and_false] at h4
          simp only [if_true]
          have := hk h2 s2 (by omega) (g1.trans hs1 g2)
          unfold sortedK at this
          rw [h4] at this; exact this
        | false =>
          rw [hyx] at h4
          simp only [Bool.not_false, Bool.and_true] at h4
          simp only [Bool.false_eq_true, if_false]
          exact ih i u h2 s2 (by omega) (.inl (by omega)) h4 (by omega) (g1.trans hs1 g2)
      · have : i = 0 := by omega
        subst this
        simp (disch := omega) only [tys, bindJ_eq, logJ_eq, wp_box, wp_load, wp_cells, wp_aput, wp_anew, wp_cond, wp_guard, gd_true, gd_false, pick_eq, add_eq, sub_eq, eq_eq, ne_eq, lt_eq, le_eq, gt_eq, ge_eq, shr_eq, shl_eq, quo_eq, rem_eq, not_eq, wp_log_load, wp_log_cells, wp_log_ret, wp_log_anew, ext0, ext1, ext2, nil_eq, get_ne, get_eq, nth_0, nth_s, cells_agg, cells_int, cells_bool, cells_slice, cells_ptr, ro_zero, one_int, one_bool, one_slice, one_ptr, arr_size, overL, Nat.zero_add, Nat.reduceAdd, Nat.add_zero, List.length_cons, List.length_nil, List.all_cons, List.all_nil, Nat.reduceLeDiff, Nat.ble_eq, Bool.and_true, Bool.not_false, Bool.and_self, decide_true, List.drop_zero, List.drop_succ_cons, List.take_succ_cons, List.take_zero, List.take_nil, true_and, and_true, Int.ofNat_eq_natCast, neg_one, Int.toNat_natCast, Int.natCast_zero, Int.natCast_one, Int.cast_ofNat_Int, List.append_nil, List.nil_append, show ¬ (0 : Int) < ((0 : Nat) : Int) by omega, decide_false, Bool.false_eq_true, if_false, Int.lt_irrefl]
        have := hk h1 s1 hs1 g1
        unfold sortedK at this
        rw [h4] at this; exact this
  rcases Nat.eq_zero_or_pos len with h0 | h0
  · subst h0
    obtain ⟨m, rfl⟩ : ∃ m, N = m + 1 := ⟨N - 1, by omega⟩
    rw [loopJ_succ]
    unfold X53_2
    simp (disch := omega) only [tys, bindJ_eq, logJ_eq, wp_box, wp_load, wp_cells, wp_aput, wp_anew, wp_cond, wp_guard, gd_true, gd_false, pick_eq, add_eq, sub_eq, eq_eq, ne_eq, lt_eq, le_eq, gt_eq, ge_eq, shr_eq, shl_eq, quo_eq, rem_eq, not_eq, wp_log_load, wp_log_cells, wp_log_ret, wp_log_anew, ext0, ext1, ext2, nil_eq, get_ne, get_eq, nth_0, nth_s, cells_agg, cells_int, cells_bool, cells_slice, cells_ptr, ro_zero, one_int, one_bool, one_slice, one_ptr, arr_size, overL, Nat.zero_add, Nat.reduceAdd, Nat.add_zero, List.length_cons, List.length_nil, List.all_cons, List.all_nil, Nat.reduceLeDiff, Nat.ble_eq, Bool.and_true, Bool.not_false, Bool.and_self, decide_true, List.drop_zero, List.drop_succ_cons, List.take_succ_cons, List.take_zero, List.take_nil, true_and, and_true, Int.ofNat_eq_natCast, neg_one, Int.toNat_natCast, Int.natCast_zero, Int.natCast_one, Int.cast_ofNat_Int, List.append_nil, List.nil_append, Int.reduceNeg, Int.reduceSub, Int.zero_sub, show ¬ (0 : Int) < -1 by omega, decide_false, Bool.false_eq_true, if_false]
    have hl0 : l = [] := List.eq_nil_of_length_eq_zero r.1
    subst hl0
    exact hk h s (Nat.le_refl _) (.refl hf)
  · have := loop N (len - 1) (.bool false) h s (by omega) (.inl (by omega)) (by rw [r.1]) (Nat.le_refl _) (.refl hf)
    rw [show ((len - 1 : Nat) : Int) = (len : Int) - 1 by omega] at this
    exact this
end
end Go.Ev.R
namespace Go.Ev.R
open Go Go.RowKit
/-- A row of keys that was made not ahead of s. -/
def OwnK (h : T) (s : Nat) (p : Option Addr) (len : Nat) (l : List K3) : Prop :=
  Row EK h p len l ∧ (len ≠ 0 → ∃ n, p = some ⟨n, 0, none⟩ ∧ s ≤ n ∧ h.get n = some (.cells ⟨l.flatMap kv⟩ 23 (4, 0)))
theorem one_kv (l : List K3) : (l.flatMap kv).all Value.oneCell' = true := by
  induction l with
  | nil => rfl
  | cons x l ih => rw [List.flatMap_cons, List.all_append, ih]; rfl
section
variable {N d : Nat} (hN : 100000 ≤ N) {h : T} {s : Nat} (hf : ∀ n, s ≤ n → h.get n = none)
include hf
/-- The copy of a row. -/
theorem copyK {p : Option Addr} {len cap : Nat} {l : List K3} (r : Row EK h p len l) (hl : len ≤ 100000) {K : Value → Nat → AM} {pw : Nat → Prop} {Z : Value → T → Prop} (hp : ∀ n, s ≤ n → pw n)
    (hk : ∀ p' h' s', s ≤ s' → Grow s h h' s' → OwnK h' s p' len l → (K (.slice p' len len) s').wp pw Z h') :
    (abuildSlice P 24 0 [] (fun v2 s => aappend P ⟨[24, 24]⟩ v2 (.slice p len cap) (fun v3 s => K v3 s) s) s).wp pw Z h := by
  simp (disch := omega) only [tys, bindJ_eq, logJ_eq, wp_box, wp_load, wp_cells, wp_aput, wp_anew, wp_cond, wp_guard, gd_true, gd_false, pick_eq, add_eq, sub_eq, eq_eq, ne_eq, lt_eq, le_eq, gt_eq, ge_eq, shr_eq, shl_eq, quo_eq, rem_eq, not_eq, wp_log_load, wp_log_cells, wp_log_ret, wp_log_anew, ext0, ext1, ext2, nil_eq, get_ne, get_eq, nth_0, nth_s, cells_agg, cells_int, cells_bool, cells_slice, cells_ptr, ro_zero, one_int, one_bool, one_slice, one_ptr, arr_size, overL, Nat.zero_add, Nat.reduceAdd, Nat.add_zero, List.length_cons, List.length_nil, List.all_cons, List.all_nil, Nat.reduceLeDiff, Nat.ble_eq, Bool.and_true, Bool.not_false, Bool.and_self, decide_true, List.drop_zero, List.drop_succ_cons, List.take_succ_cons, List.take_zero, List.take_nil, true_and, and_true, Int.ofNat_eq_natCast, neg_one, Int.toNat_natCast, Int.natCast_zero, Int.natCast_one, Int.cast_ofNat_Int, List.append_nil, List.nil_append, hf, hp]
  by_cases h0 : len = 0
  · subst h0
    refine wp_ap_none (by omega) (by omega) (hk _ _ _ (by omega) ⟨fun n hn => by simp (disch := omega) only [get_ne, hf], fun n hn => by simp (disch := omega) only [get_ne, hf]⟩ ⟨?_, fun hne => absurd rfl hne⟩)
    obtain rfl := List.eq_nil_of_length_eq_zero r.1
    exact .nil _ _
  · refine wp_ap_own (by decide) h0 (by omega) (m := s) (t := 23) (f := 0) (g := 0) (old := []) (by simp (disch := omega) only [get_eq]) rfl (.inl rfl) ((r.set hf (Nat.le_refl _)).2) (by exact one_kv l) (by simp (disch := omega) only [get_ne, hf]) (by omega) (hp _ (by omega)) (hp _ (by omega)) fun h2 h2a h2b => ?_
    rw [Nat.zero_add]
    refine hk _ _ _ (by omega) ⟨fun n hn => by rw [h2b n (by omega) (by omega)]; simp (disch := omega) only [get_ne], fun n hn => by rw [h2b n (by omega) (by omega)]; simp (disch := omega) only [get_ne, hf]⟩ ⟨.of_cells h2a r.1, fun _ => ⟨_, rfl, by omega, h2a⟩⟩
theorem s55 {p : Option Addr} {len cap : Nat} {l : List K3} (r : Row EK h p len l) (hl : len ≤ 100000) (h0 : p = none → len = 0 ∧ cap = 0) : PureS (D N (d + 1)) 55 [.slice p len cap] h s (fun v h' s' => ∃ p', v = .slice p' len len ∧ OwnK h' s p' len l) := by
  refine PureS.mk fun K pw Z hp hk => ?_
  rw [D_55]; unfold F55; rw [app1_eq]
  cases p with
  | none =>
    obtain ⟨rfl, rfl⟩ := h0 rfl
    simp (disch := omega) only [tys, bindJ_eq, logJ_eq, wp_box, wp_load, wp_cells, wp_aput, wp_anew, wp_cond, wp_guard, gd_true, gd_false, pick_eq, add_eq, sub_eq, eq_eq, ne_eq, lt_eq, le_eq, gt_eq, ge_eq, shr_eq, shl_eq, quo_eq, rem_eq, not_eq, wp_log_load, wp_log_cells, wp_log_ret, wp_log_anew, ext0, ext1, ext2, nil_eq, get_ne, get_eq, nth_0, nth_s, cells_agg, cells_int, cells_bool, cells_slice, cells_ptr, ro_zero, one_int, one_bool, one_slice, one_ptr, arr_size, overL, Nat.zero_add, Nat.reduceAdd, Nat.add_zero, List.length_cons, List.length_nil, List.all_cons, List.all_nil, Nat.reduceLeDiff, Nat.ble_eq, Bool.and_true, Bool.not_false, Bool.and_self, decide_true, List.drop_zero, List.drop_succ_cons, List.take_succ_cons, List.take_zero, List.take_nil, true_and, and_true, Int.ofNat_eq_natCast, neg_one, Int.toNat_natCast, Int.natCast_zero, Int.natCast_one, Int.cast_ofNat_Int, List.append_nil, List.nil_append, if_true]
    exact hk _ _ _ (Nat.le_refl _) (.refl hf) ⟨_, rfl, r, fun hne => absurd rfl hne⟩
  | some a =>
    rw [eqn_24]
    rw [wp_cond]
    simp only [Bool.false_eq_true, if_false]
    exact copyK hf r hl hp fun p' h' s' hs hg ho => hk _ h' s' hs hg ⟨p', rfl, ho⟩
end
end Go.Ev.R
namespace Go.Ev.R
open Go Go.RowKit
theorem cl_24 (a : Addr) (n c : Nat) (k : Value → Nat → AM) (s : Nat) : aclear P ⟨[24]⟩ (.slice (some a) (n + 1) c) k s = aput a.block a.off (replL [.int .i64 0, .int .i64 0, .int .i64 0] (n + 1)) (fun _ => k (.tuple #[])) s := by kernel_rfl
def apartK (l : List K3) : Bool := upTo (fun x y => !sameK y x) l (l.length - 1)
theorem upTo_stay {p : K3 → K3 → Bool} {l : List K3} : ∀ {n m : Nat}, n ≤ m → upTo p l n = false → upTo p l m = false
  | n, 0, h, e => by obtain rfl : n = 0 := by omega
                     exact e
  | n, m + 1, h, e => by
    rcases Nat.lt_or_ge n (m + 1) with h1 | h1
    · show (upTo p l m && _) = false
      rw [upTo_stay (Nat.le_of_lt_succ h1) e]; rfl
    · obtain rfl : n = m + 1 := by omega
      exact e
theorem rep_one (n : Nat) : (replL [.int .i64 0, .int .i64 0, .int .i64 0] n).all Value.oneCell' = true := by
  induction n with
  | zero => rfl
  | succ n ih => simp only [replL, List.all_append, ih]; rfl
/-- But a row is as it was. -/
structure But (n s : Nat) (h h' : T) (s' : Nat) : Prop where
  keep : ∀ i, i < s → i ≠ n → h'.get i = h.get i
  fresh : ∀ i, s' ≤ i → h'.get i = none
section
variable {N d : Nat} (hN : 100000 ≤ N) {h : T} {s : Nat} (hf : ∀ n, s ≤ n → h.get n = none)
include hN hf
theorem s54 {n len : Nat} {l : List K3} (hlen : l.length = len) (hl : len ≤ 10000) (hg : len ≠ 0 → h.get n = some (.cells ⟨l.flatMap kv⟩ 23 (4, 0))) (p : Option Addr) (hpn : len ≠ 0 → p = some ⟨n, 0, none⟩) :
    CallS (D N (d + 2)) 54 [.slice p len len, .func (.func 56) ⟨[]⟩ ⟨[]⟩] h s (fun i => i = n) (fun v h' s' => But n s h h' s' ∧ ∃ p' m c', v = .slice p' m c' ∧ decide (m = len) = apartK l) := by
  intro K pw Z hpw hp hk
  have hpn' : len ≠ 0 → pw n := fun _ => hpw n rfl
  rw [D_54]; unfold F54; rw [app2_eq]
  simp (disch := omega) only [tys, bindJ_eq, logJ_eq, wp_box, wp_load, wp_cells, wp_aput, wp_anew, wp_cond, wp_guard, gd_true, gd_false, pick_eq, add_eq, sub_eq, eq_eq, ne_eq, lt_eq, le_eq, gt_eq, ge_eq, shr_eq, shl_eq, quo_eq, rem_eq, not_eq, wp_log_load, wp_log_cells, wp_log_ret, wp_log_anew, ext0, ext1, ext2, nil_eq, get_ne, get_eq, nth_0, nth_s, cells_agg, cells_int, cells_bool, cells_slice, cells_ptr, ro_zero, one_int, one_bool, one_slice, one_ptr, arr_size, overL, Nat.zero_add, Nat.reduceAdd, Nat.add_zero, List.length_cons, List.length_nil, List.all_cons, List.all_nil, Nat.reduceLeDiff, Nat.ble_eq, Bool.and_true, Bool.not_false, Bool.and_self, decide_true, List.drop_zero, List.drop_succ_cons, List.take_succ_cons, List.take_zero, List.take_nil, true_and, and_true, Int.ofNat_eq_natCast, neg_one, Int.toNat_natCast, Int.natCast_zero, Int.natCast_one, Int.cast_ofNat_Int, List.append_nil, List.nil_append]
  by_cases h2 : len < 2
  · simp (disch := omega) only [tys, bindJ_eq, logJ_eq, wp_box, wp_load, wp_cells, wp_aput, wp_anew, wp_cond, wp_guard, gd_true, gd_false, pick_eq, add_eq, sub_eq, eq_eq, ne_eq, lt_eq, le_eq, gt_eq, ge_eq, shr_eq, shl_eq, quo_eq, rem_eq, not_eq, wp_log_load, wp_log_cells, wp_log_ret, wp_log_anew, ext0, ext1, ext2, nil_eq, get_ne, get_eq, nth_0, nth_s, cells_agg, cells_int, cells_bool, cells_slice, cells_ptr, ro_zero, one_int, one_bool, one_slice, one_ptr, arr_size, overL, Nat.zero_add, Nat.reduceAdd, Nat.add_zero, List.length_cons, List.length_nil, List.all_cons, List.all_nil, Nat.reduceLeDiff, Nat.ble_eq, Bool.and_true, Bool.not_false, Bool.and_self, decide_true, List.drop_zero, List.drop_succ_cons, List.take_succ_cons, List.take_zero, List.take_nil, true_and, and_true, Int.ofNat_eq_natCast, neg_one, Int.toNat_natCast, Int.natCast_zero, Int.natCast_one, Int.cast_ofNat_Int, List.append_nil, List.nil_append, show (len : Int) < (2 : Int) by omega, show ((len : Int) < ((2 : Nat) : Int)) by omega, if_true]
    refine hk _ h s (Nat.le_refl _) ⟨⟨fun _ _ _ => rfl, hf⟩, _, _, _, rfl, ?_⟩
    unfold apartK
    rw [hlen, show len - 1 = 0 by omega]
    simp [upTo]
  · have hn0 : len ≠ 0 := by omega
    obtain rfl := hpn hn0
    have hg := hg hn0
    have hns : n < s := by
      rcases Nat.lt_or_ge n s with h3 | h3
      · exact h3
      · rw [hf n h3] at hg; cases hg
    have r : Row EK h (some ⟨n, 0, none⟩) len l := .of_cells hg hlen
    simp (disch := omega) only [tys, bindJ_eq, logJ_eq, wp_box, wp_load, wp_cells, wp_aput, wp_anew, wp_cond, wp_guard, gd_true, gd_false, pick_eq, add_eq, sub_eq, eq_eq, ne_eq, lt_eq, le_eq, gt_eq, ge_eq, shr_eq, shl_eq, quo_eq, rem_eq, not_eq, wp_log_load, wp_log_cells, wp_log_ret, wp_log_anew, ext0, ext1, ext2, nil_eq, get_ne, get_eq, nth_0, nth_s, cells_agg, cells_int, cells_bool, cells_slice, cells_ptr, ro_zero, one_int, one_bool, one_slice, one_ptr, arr_size, overL, Nat.zero_add, Nat.reduceAdd, Nat.add_zero, List.length_cons, List.length_nil, List.all_cons, List.all_nil, Nat.reduceLeDiff, Nat.ble_eq, Bool.and_true, Bool.not_false, Bool.and_self, decide_true, List.drop_zero, List.drop_succ_cons, List.take_succ_cons, List.take_zero, List.take_nil, true_and, and_true, Int.ofNat_eq_natCast, neg_one, Int.toNat_natCast, Int.natCast_zero, Int.natCast_one, Int.cast_ofNat_Int, List.append_nil, List.nil_append, show ¬ (len : Int) < (2 : Int) by omega, show ¬ ((len : Int) < ((2 : Nat) : Int)) by omega, decide_false, Bool.false_eq_true, if_false]
    -- behind the first two that are the same
    have inner : ∀ (k : Nat) (B : (Value → Value → Nat → AM) → Value → Value → Nat → AM) (hB : ∀ H u i s, B H u i s = X54_2 N (D N (d + 1)) K (.slice (some ⟨n, k * 3, none⟩) (len - k) (len - k)) (.func (.func 56) ⟨[]⟩ ⟨[]⟩) (.slice (some ⟨n, 0, none⟩) len len) (fun v22 s => slS 3 (some ⟨n, 0, none⟩) len len (some v22) none none (fun v23 s => aclear P ⟨[24]⟩ v23 (fun v24 s => slS 3 (some ⟨n, 0, none⟩) len len none (some v22) none (fun v25 s => K v25 s) s) s) s) H u i s) (i : Nat) (m j : Nat) (l' : List K3) (h1 : T) (s1 : Nat), upTo (fun x y => !sameK y x) l (len - 1) = false → 1 ≤ k → k < len → len - k - j < m → 1 ≤ j → j ≤ len - k → i < k + j → l'.length = len → s ≤ s1 → (∀ x, x < s → x ≠ n → h1.get x = h.get x) → (∀ x, s1 ≤ x → h1.get x = none) → h1.get n = some (.cells ⟨l'.flatMap kv⟩ 23 (4, 0)) →
        (loopJ m 2 (fun _ _ _ => AM.fail) B (.int .i64 (i : Int)) (.int .i64 (j : Int)) s1).wp pw Z h1 := by
      intro k B hB i m
      induction m generalizing i with
      | zero => intro j; omega
      | succ m ih =>
        intro j l' h1 s1 hdup hk1 hk2 hm hj1 hj2 hi hl' hs1 hk1' hf1 hg1
        have r1 : Row EK h1 (some ⟨n, 0, none⟩) len l' := .of_cells hg1 hl'
        have r2 : Row EK h1 (some ⟨n, k * 3, none⟩) (len - k) (l'.drop k) := by
          have := r1.drop (q' := none) k
          rwa [Nat.zero_add] at this
        have hnow : n < s1 := by omega
        rw [loopJ_succ, hB]
        unfold X54_2
        simp (disch := omega) only [tys, bindJ_eq, logJ_eq, wp_box, wp_load, wp_cells, wp_aput, wp_anew, wp_cond, wp_guard, gd_true, gd_false, pick_eq, add_eq, sub_eq, eq_eq, ne_eq, lt_eq, le_eq, gt_eq, ge_eq, shr_eq, shl_eq, quo_eq, rem_eq, not_eq, wp_log_load, wp_log_cells, wp_log_ret, wp_log_anew, ext0, ext1, ext2, nil_eq, get_ne, get_eq, nth_0, nth_s, cells_agg, cells_int, cells_bool, cells_slice, cells_ptr, ro_zero, one_int, one_bool, one_slice, one_ptr, arr_size, overL, Nat.zero_add, Nat.reduceAdd, Nat.add_zero, List.length_cons, List.length_nil, List.all_cons, List.all_nil, Nat.reduceLeDiff, Nat.ble_eq, Bool.and_true, Bool.not_false, Bool.and_self, decide_true, List.drop_zero, List.drop_succ_cons, List.take_succ_cons, List.take_zero, List.take_nil, true_and, and_true, Int.ofNat_eq_natCast, neg_one, Int.toNat_natCast, Int.natCast_zero, Int.natCast_one, Int.cast_ofNat_Int, List.append_nil, List.nil_append]
        by_cases hj : j < len - k
        · obtain ⟨x, hx⟩ := get_some (l := l'.drop k) (i := j) (by rw [r2.1]; omega)
          obtain ⟨j, rfl⟩ : ∃ j', j = j' + 1 := ⟨j - 1, by omega⟩
          obtain ⟨y, hy⟩ := get_some (l := l'.drop k) (i := j) (by rw [r2.1]; omega)
          have e2 : ((j + 1 : Nat) : Int) - 1 = (j : Int) := by omega
          have e3 : ((j + 1 : Nat) : Int) + 1 = ((j + 1 + 1 : Nat) : Int) := by omega
          have e4 : (i : Int) + 1 = ((i + 1 : Nat) : Int) := by omega
          simp (disch := omega) only [tys, bindJ_eq, logJ_eq, wp_box, wp_aput, wp_anew, wp_cond, wp_guard, gd_true, gd_false, pick_eq, add_eq, sub_eq, eq_eq, ne_eq, lt_eq, le_eq, gt_eq, ge_eq, shr_eq, shl_eq, quo_eq, rem_eq, not_eq, wp_log_ret, wp_log_anew, ext0, ext1, ext2, nil_eq, get_ne, get_eq, nth_0, nth_s, cells_agg, cells_int, cells_bool, cells_slice, cells_ptr, ro_zero, one_int, one_bool, one_slice, one_ptr, arr_size, overL, Nat.zero_add, Nat.reduceAdd, Nat.add_zero, List.length_cons, List.length_nil, List.all_cons, List.all_nil, Nat.reduceLeDiff, Nat.ble_eq, Bool.and_true, Bool.not_false, Bool.and_self, decide_true, List.drop_zero, List.drop_succ_cons, List.take_succ_cons, List.take_zero, List.take_nil, true_and, and_true, Int.ofNat_eq_natCast, neg_one, Int.toNat_natCast, Int.natCast_zero, Int.natCast_one, Int.cast_ofNat_Int, List.append_nil, List.nil_append, show ((j + 1 : Nat) : Int) < ((len - k : Nat) : Int) by omega, if_true, xa3 r2 (j := ((j + 1 : Nat) : Int)) (by omega) (by omega), xa3 r2 (j := (j : Int)) (by omega) (by omega), row3L r2 hx, row3L r2 hy, X54_1, e2, wrap_id (a := (j : Int)) (by omega) (by omega), iv_56, List.cons_append]
          refine PureS.log (s56 hf1 x y) (fun n hn => hp n (by omega)) fun v h2 s2 ts2 ws2 hs2 g2 hv hw2 => ?_
          subst hv
          simp (disch := omega) only [tys, bindJ_eq, logJ_eq, wp_box, wp_aput, wp_anew, wp_cond, wp_guard, gd_true, gd_false, pick_eq, add_eq, sub_eq, eq_eq, ne_eq, lt_eq, le_eq, gt_eq, ge_eq, shr_eq, shl_eq, quo_eq, rem_eq, not_eq, wp_log_ret, wp_log_anew, ext0, ext1, ext2, nil_eq, get_ne, get_eq, nth_0, nth_s, cells_agg, cells_int, cells_bool, cells_slice, cells_ptr, ro_zero, one_int, one_bool, one_slice, one_ptr, arr_size, overL, Nat.zero_add, Nat.reduceAdd, Nat.add_zero, List.length_cons, List.length_nil, List.all_cons, List.all_nil, Nat.reduceLeDiff, Nat.ble_eq, Bool.and_true, Bool.not_false, Bool.and_self, decide_true, List.drop_zero, List.drop_succ_cons, List.take_succ_cons, List.take_zero, List.take_nil, true_and, and_true, Int.ofNat_eq_natCast, neg_one, Int.toNat_natCast, Int.natCast_zero, Int.natCast_one, Int.cast_ofNat_Int, List.append_nil, List.nil_append, e2, e3, e4, wrap_id (a := (j : Int)) (by omega) (by omega), wrap_id (a := ((j + 1 + 1 : Nat) : Int)) (by omega) (by omega), wrap_id (a := ((i + 1 : Nat) : Int)) (by omega) (by omega)]
          have hg2 : h2.get n = some (.cells ⟨l'.flatMap kv⟩ 23 (4, 0)) := by rw [g2.keep n hnow]; exact hg1
          have hk2' : ∀ x, x < s → x ≠ n → h2.get x = h.get x := fun x h1 h2 => by rw [g2.keep x (by omega)]; exact hk1' x h1 h2
          have r3 := r2.grow hf1 g2
          have r4 := r1.grow hf1 g2
          cases sameK x y with
          | true =>
            simp only [Bool.not_true, Bool.false_eq_true, if_false]
            exact ih i (j + 1 + 1) l' h2 s2 hdup hk1 hk2 (by omega) (by omega) (by omega) (by omega) hl' (by omega) hk2' g2.fresh hg2
          | false =>
            simp only [Bool.not_false, if_true]
            simp (disch := omega) only [tys, bindJ_eq, logJ_eq, wp_box, wp_aput, wp_anew, wp_cond, wp_guard, gd_true, gd_false, pick_eq, add_eq, sub_eq, eq_eq, ne_eq, lt_eq, le_eq, gt_eq, ge_eq, shr_eq, shl_eq, quo_eq, rem_eq, not_eq, wp_log_ret, wp_log_anew, ext0, ext1, ext2, nil_eq, get_ne, get_eq, nth_0, nth_s, cells_agg, cells_int, cells_bool, cells_slice, cells_ptr, ro_zero, one_int, one_bool, one_slice, one_ptr, arr_size, overL, Nat.zero_add, Nat.reduceAdd, Nat.add_zero, List.length_cons, List.length_nil, List.all_cons, List.all_nil, Nat.reduceLeDiff, Nat.ble_eq, Bool.and_true, Bool.not_false, Bool.and_self, decide_true, List.drop_zero, List.drop_succ_cons, List.take_succ_cons, List.take_zero, List.take_nil, true_and, and_true, Int.ofNat_eq_natCast, neg_one, Int.toNat_natCast, Int.natCast_zero, Int.natCast_one, Int.cast_ofNat_Int, List.append_nil, List.nil_append, xa3 r3 (j := ((j + 1 : Nat) : Int)) (by omega) (by omega), row3 r3 hx, xa3 r4 (j := (i : Int)) (by omega) (by omega), kv]
            simp only [show blk (some ⟨n, 0, none⟩) = n from rfl, show off (some ⟨n, 0, none⟩) = 0 from rfl, hg2]
            have hov : overL (l'.flatMap kv) (0 + i * 3) [.int .i64 x.a, .int .i64 x.b, .int .i64 x.c] = (l'.set i x).flatMap kv := by
              rw [Nat.zero_add]; exact EK.over x l' i (by omega)
            rw [hov]
            refine ⟨?_, hpn' (by omega), ?_⟩
            · have : (l'.flatMap kv).length = len * 3 := by rw [← hl']; exact EK.flat_length l'
              simp only [Bool.and_eq_true, Nat.ble_eq, List.length_cons, List.length_nil]
              exact ⟨by show _ ≤ (l'.flatMap kv).length; omega, trivial, rfl⟩
            · exact ih (i + 1) (j + 1 + 1) (l'.set i x) _ s2 hdup hk1 hk2 (by omega) (by omega) (by omega) (by omega) (by simpa using hl') (by omega) (fun x h1 h2 => by rw [get_ne (Ne.symm h2)]; exact hk2' x h1 h2) (fun x hx => by rw [get_ne (by omega)]; exact g2.fresh x hx) get_eq
        · have hj : j = len - k := by omega
          subst hj
          simp only [Int.lt_irrefl, decide_false, Bool.false_eq_true, if_false]
          rw [wp_sl_from hg1 (.inr rfl) (by omega) (by omega) (by omega)]
          obtain ⟨w, hw⟩ : ∃ w, len - i = w + 1 := ⟨len - i - 1, by omega⟩
          rw [hw, cl_24, wp_aput, hg1]
          dsimp only
          refine ⟨?_, hpn' (by omega), ?_⟩
          · have : (l'.flatMap kv).length = len * 3 := by rw [← hl']; exact EK.flat_length l'
            simp only [Bool.and_eq_true, Nat.ble_eq, rep_one, replL_length, List.length_cons, List.length_nil]
            refine ⟨?_, trivial, rfl⟩
            show _ ≤ (l'.flatMap kv).length
            omega
          · simp (disch := omega) only [tys, bindJ_eq, logJ_eq, wp_box, wp_load, wp_cells, wp_aput, wp_anew, wp_cond, wp_guard, gd_true, gd_false, pick_eq, add_eq, sub_eq, eq_eq, ne_eq, lt_eq, le_eq, gt_eq, ge_eq, shr_eq, shl_eq, quo_eq, rem_eq, not_eq, wp_log_load, wp_log_cells, wp_log_ret, wp_log_anew, ext0, ext1, ext2, nil_eq, get_ne, get_eq, nth_0, nth_s, cells_agg, cells_int, cells_bool, cells_slice, cells_ptr, ro_zero, one_int, one_bool, one_slice, one_ptr, arr_size, overL, Nat.zero_add, Nat.reduceAdd, Nat.add_zero, List.length_cons, List.length_nil, List.all_cons, List.all_nil, Nat.reduceLeDiff, Nat.ble_eq, Bool.and_true, Bool.not_false, Bool.and_self, decide_true, List.drop_zero, List.drop_succ_cons, List.take_succ_cons, List.take_zero, List.take_nil, true_and, and_true, Int.ofNat_eq_natCast, neg_one, Int.toNat_natCast, Int.natCast_zero, Int.natCast_one, Int.cast_ofNat_Int, List.append_nil, List.nil_append]
            rw [wp_sl_to (get_eq) (.inr rfl) (by omega) (by omega)]
            refine hk _ _ _ (by omega) ⟨⟨fun x h1 h2 => by rw [get_ne (Ne.symm h2)]; exact hk1' x h1 h2, fun x hx => by rw [get_ne (by omega)]; exact hf1 x hx⟩, _, _, _, rfl, ?_⟩
            unfold apartK
            rw [hlen, hdup]
            simp; omega
    have outer : ∀ (B : (Value → Value → Nat → AM) → Value → Value → Nat → AM) (hB : ∀ H u i s, B H u i s = X54_4 N (D N (d + 1)) K (.slice (some ⟨n, 0, none⟩) len len) (.func (.func 56) ⟨[]⟩ ⟨[]⟩) (fun s => K (.slice (some ⟨n, 0, none⟩) len len) s) H u i s) (m k : Nat) (u : Value) (h1 : T) (s1 : Nat), len - k < m → 1 ≤ k → k ≤ len → upTo (fun x y => !sameK y x) l (k - 1) = true → s ≤ s1 → Grow s h h1 s1 →
        (loopJ m 2 (fun _ _ _ => AM.fail) B u (.int .i64 (k : Int)) s1).wp pw Z h1 := by
      intro B hB m
      induction m with
      | zero => intro k u h1 s1 h3; omega
      | succ m ih =>
        intro k u h1 s1 hm hk1 hk2 hup hs1 g1
        have r1 := r.grow hf g1
        rw [loopJ_succ, hB]
        unfold X54_4
        simp (disch := omega) only [tys, bindJ_eq, logJ_eq, wp_box, wp_load, wp_cells, wp_aput, wp_anew, wp_cond, wp_guard, gd_true, gd_false, pick_eq, add_eq, sub_eq, eq_eq, ne_eq, lt_eq, le_eq, gt_eq, ge_eq, shr_eq, shl_eq, quo_eq, rem_eq, not_eq, wp_log_load, wp_log_cells, wp_log_ret, wp_log_anew, ext0, ext1, ext2, nil_eq, get_ne, get_eq, nth_0, nth_s, cells_agg, cells_int, cells_bool, cells_slice, cells_ptr, ro_zero, one_int, one_bool, one_slice, one_ptr, arr_size, overL, Nat.zero_add, Nat.reduceAdd, Nat.add_zero, List.length_cons, List.length_nil, List.all_cons, List.all_nil, Nat.reduceLeDiff, Nat.ble_eq, Bool.and_true, Bool.not_false, Bool.and_self, decide_true, List.drop_zero, List.drop_succ_cons, List.take_succ_cons, List.take_zero, List.take_nil, true_and, and_true, Int.ofNat_eq_natCast, neg_one, Int.toNat_natCast, Int.natCast_zero, Int.natCast_one, Int.cast_ofNat_Int, List.append_nil, List.nil_append]
        by_cases hkl : k < len
        · obtain ⟨k, rfl⟩ : ∃ k', k = k' + 1 := ⟨k - 1, by omega⟩
          obtain ⟨x, hx⟩ := get_some (l := l) (i := k) (by omega)
          obtain ⟨y, hy⟩ := get_some (l := l) (i := k + 1) (by omega)
          have e2 : ((k + 1 : Nat) : Int) - 1 = (k : Int) := by omega
          have e3 : ((k + 1 : Nat) : Int) + 1 = ((k + 1 + 1 : Nat) : Int) := by omega
          simp (disch := omega) only [tys, bindJ_eq, logJ_eq, wp_box, wp_aput, wp_anew, wp_cond, wp_guard, gd_true, gd_false, pick_eq, add_eq, sub_eq, eq_eq, ne_eq, lt_eq, le_eq, gt_eq, ge_eq, shr_eq, shl_eq, quo_eq, rem_eq, not_eq, wp_log_ret, wp_log_anew, ext0, ext1, ext2, nil_eq, get_ne, get_eq, nth_0, nth_s, cells_agg, cells_int, cells_bool, cells_slice, cells_ptr, ro_zero, one_int, one_bool, one_slice, one_ptr, arr_size, overL, Nat.zero_add, Nat.reduceAdd, Nat.add_zero, List.length_cons, List.length_nil, List.all_cons, List.all_nil, Nat.reduceLeDiff, Nat.ble_eq, Bool.and_true, Bool.not_false, Bool.and_self, decide_true, List.drop_zero, List.drop_succ_cons, List.take_succ_cons, List.take_zero, List.take_nil, true_and, and_true, Int.ofNat_eq_natCast, neg_one, Int.toNat_natCast, Int.natCast_zero, Int.natCast_one, Int.cast_ofNat_Int, List.append_nil, List.nil_append, show ((k + 1 : Nat) : Int) < (len : Int) by omega, if_true, xa3 r1 (j := ((k + 1 : Nat) : Int)) (by omega) (by omega), xa3 r1 (j := (k : Int)) (by omega) (by omega), row3L r1 hx, row3L r1 hy, X54_3, e2, wrap_id (a := (k : Int)) (by omega) (by omega), iv_56, List.cons_append]
          refine PureS.log (s56 g1.fresh y x) (fun n hn => hp n (by omega)) fun v h2 s2 ts2 ws2 hs2 g2 hv hw2 => ?_
          subst hv
          have g3 := g1.trans hs1 g2
          have h5 : upTo (fun x y => !sameK y x) l (k + 1) = (upTo (fun x y => !sameK y x) l k && !sameK y x) := by
            show (upTo _ l k && _) = _
            rw [hx, hy]
          have hg2 : h2.get n = some (.cells ⟨l.flatMap kv⟩ 23 (4, 0)) := by rw [g3.keep n hns]; exact hg
          cases hyx : sameK y x with
          | true =>
            rw [hyx] at h5
            simp (disch := omega) only [tys, bindJ_eq, logJ_eq, wp_box, wp_load, wp_cells, wp_aput, wp_anew, wp_cond, wp_guard, gd_true, gd_false, pick_eq, add_eq, sub_eq, eq_eq, ne_eq, lt_eq, le_eq, gt_eq, ge_eq, shr_eq, shl_eq, quo_eq, rem_eq, not_eq, wp_log_load, wp_log_cells, wp_log_ret, wp_log_anew, ext0, ext1, ext2, nil_eq, get_ne, get_eq, nth_0, nth_s, cells_agg, cells_int, cells_bool, cells_slice, cells_ptr, ro_zero, one_int, one_bool, one_slice, one_ptr, arr_size, overL, Nat.zero_add, Nat.reduceAdd, Nat.add_zero, List.length_cons, List.length_nil, List.all_cons, List.all_nil, Nat.reduceLeDiff, Nat.ble_eq, Bool.and_true, Bool.not_false, Bool.and_self, decide_true, List.drop_zero, List.drop_succ_cons, List.take_succ_cons, List.take_zero, List.take_nil, true_and, and_true, Int.ofNat_eq_natCast, neg_one, Int.toNat_natCast, Int.natCast_zero, Int.natCast_one, Int.cast_ofNat_Int, List.append_nil, List.nil_append, if_true]
            rw [wp_sl_from hg2 (.inr rfl) (by omega) (by omega) (by omega)]
            simp (disch := omega) only [tys, bindJ_eq, logJ_eq, wp_box, wp_load, wp_cells, wp_aput, wp_anew, wp_cond, wp_guard, gd_true, gd_false, pick_eq, add_eq, sub_eq, eq_eq, ne_eq, lt_eq, le_eq, gt_eq, ge_eq, shr_eq, shl_eq, quo_eq, rem_eq, not_eq, wp_log_load, wp_log_cells, wp_log_ret, wp_log_anew, ext0, ext1, ext2, nil_eq, get_ne, get_eq, nth_0, nth_s, cells_agg, cells_int, cells_bool, cells_slice, cells_ptr, ro_zero, one_int, one_bool, one_slice, one_ptr, arr_size, overL, Nat.zero_add, Nat.reduceAdd, Nat.add_zero, List.length_cons, List.length_nil, List.all_cons, List.all_nil, Nat.reduceLeDiff, Nat.ble_eq, Bool.and_true, Bool.not_false, Bool.and_self, decide_true, List.drop_zero, List.drop_succ_cons, List.take_succ_cons, List.take_zero, List.take_nil, true_and, and_true, Int.ofNat_eq_natCast, neg_one, Int.toNat_natCast, Int.natCast_zero, Int.natCast_one, Int.cast_ofNat_Int, List.append_nil, List.nil_append]
            exact inner (k + 1) _ (fun _ _ _ _ => rfl) (k + 1) N 1 l h2 s2 (upTo_stay (show k + 1 ≤ len - 1 by omega) (by rw [h5]; simp)) (by omega) (by omega) (by omega) (by omega) (by omega) (by omega) hlen (by omega) (fun x hx _ => g3.keep x hx) g3.fresh hg2
          | false =>
            rw [hyx] at h5
            simp (disch := omega) only [tys, bindJ_eq, logJ_eq, wp_box, wp_load, wp_cells, wp_aput, wp_anew, wp_cond, wp_guard, gd_true, gd_false, pick_eq, add_eq, sub_eq, eq_eq, ne_eq, lt_eq, le_eq, gt_eq, ge_eq, shr_eq, shl_eq, quo_eq, rem_eq, not_eq, wp_log_load, wp_log_cells, wp_log_ret, wp_log_anew, ext0, ext1, ext2, nil_eq, get_ne, get_eq, nth_0, nth_s, cells_agg, cells_int, cells_bool, cells_slice, cells_ptr, ro_zero, one_int, one_bool, one_slice, one_ptr, arr_size, overL, Nat.zero_add, Nat.reduceAdd, Nat.add_zero, List.length_cons, List.length_nil, List.all_cons, List.all_nil, Nat.reduceLeDiff, Nat.ble_eq, Bool.and_true, Bool.not_false, Bool.and_self, decide_true, List.drop_zero, List.drop_succ_cons, List.take_succ_cons, List.take_zero, List.take_nil, true_and, and_true, Int.ofNat_eq_natCast, neg_one, Int.toNat_natCast, Int.natCast_zero, Int.natCast_one, Int.cast_ofNat_Int, List.append_nil, List.nil_append, Bool.false_eq_true, if_false, e3, wrap_id (a := ((k + 1 + 1 : Nat) : Int)) (by omega) (by omega)]
            exact ih (k + 1 + 1) u h2 s2 (by omega) (by omega) (by omega) (by
              show upTo _ l (k + 1) = true
              rw [h5]; simpa using hup) (by omega) g3
        · have : k = len := by omega
          subst this
          simp (disch := omega) only [tys, bindJ_eq, logJ_eq, wp_box, wp_load, wp_cells, wp_aput, wp_anew, wp_cond, wp_guard, gd_true, gd_false, pick_eq, add_eq, sub_eq, eq_eq, ne_eq, lt_eq, le_eq, gt_eq, ge_eq, shr_eq, shl_eq, quo_eq, rem_eq, not_eq, wp_log_load, wp_log_cells, wp_log_ret, wp_log_anew, ext0, ext1, ext2, nil_eq, get_ne, get_eq, nth_0, nth_s, cells_agg, cells_int, cells_bool, cells_slice, cells_ptr, ro_zero, one_int, one_bool, one_slice, one_ptr, arr_size, overL, Nat.zero_add, Nat.reduceAdd, Nat.add_zero, List.length_cons, List.length_nil, List.all_cons, List.all_nil, Nat.reduceLeDiff, Nat.ble_eq, Bool.and_true, Bool.not_false, Bool.and_self, decide_true, List.drop_zero, List.drop_succ_cons, List.take_succ_cons, List.take_zero, List.take_nil, true_and, and_true, Int.ofNat_eq_natCast, neg_one, Int.toNat_natCast, Int.natCast_zero, Int.natCast_one, Int.cast_ofNat_Int, List.append_nil, List.nil_append, Int.lt_irrefl, decide_false, Bool.false_eq_true, if_false]
          refine hk _ _ _ hs1 ⟨⟨fun x hx _ => g1.keep x hx, g1.fresh⟩, _, _, _, rfl, ?_⟩
          unfold apartK
          rw [hlen, hup]; simp
    exact outer _ (fun _ _ _ _ => rfl) N 1 (.slice none 0 0) h s (by omega) (by omega) (by omega) rfl (Nat.le_refl _) (.refl hf)
end
end Go.Ev.R
namespace Go.Ev.R
open Go Go.RowKit
theorem nat_dec (m n : Nat) : decide ((m : Int) = (n : Int)) = decide (m = n) := by
  by_cases h : m = n
  · subst h; simp
  · have : ¬ ((m : Int) = (n : Int)) := by omega
    rw [decide_eq_false h, decide_eq_false this]
def risingK (l : List K3) : Bool := upTo lessK l (l.length - 1)
theorem upTo_and (p q : K3 → K3 → Bool) (l : List K3) : ∀ n, (upTo p l n && upTo q l n) = upTo (fun x y => p x y && q x y) l n
  | 0 => rfl
  | n + 1 => by
    simp only [upTo]
    rw [← upTo_and p q l n]
    cases l[n]? with
    | none => simp
    | some x => cases l[n + 1]? with
      | none => simp
      | some y =>
        dsimp only
        cases upTo p l n <;> cases upTo q l n <;> cases p x y <;> cases q x y <;> rfl
theorem less_iff (x y : K3) : (!lessK y x && !sameK y x) = lessK x y := by
  obtain ⟨a, b, c⟩ := x
  obtain ⟨a', b', c'⟩ := y
  simp only [lessK, sameK]
  rcases Int.lt_trichotomy a a' with h1 | h1 | h1
  · simp [show ¬ a' = a by omega, show ¬ a = a' by omega, show ¬ a' < a by omega, h1]
  · subst h1
    rcases Int.lt_trichotomy b b' with h2 | h2 | h2
    · simp [show ¬ b' = b by omega, show ¬ b = b' by omega, show ¬ b' < b by omega, h2]
    · subst h2
      rcases Int.lt_trichotomy c c' with h3 | h3 | h3
      · simp [show ¬ c' = c by omega, show ¬ c' < c by omega, h3]
      · subst h3; simp
      · simp [h3]; omega
    · simp [show ¬ b' = b by omega, show ¬ b = b' by omega, show ¬ b < b' by omega, h2]
  · simp [show ¬ a' = a by omega, show ¬ a = a' by omega, show ¬ a < a' by omega, h1]
theorem rising_of (l : List K3) : (sortedK l && apartK l) = risingK l := by
  unfold sortedK apartK risingK
  rw [upTo_and]
  congr 1
  funext x y
  exact less_iff x y
section
variable {N d : Nat} (hN : 100000 ≤ N) {h : T} {s : Nat} (hf : ∀ n, s ≤ n → h.get n = none)
include hN hf
theorem s21 {p : Option Addr} {len cap : Nat} {l : List K3} (r : Row EK h p len l) (hl : len ≤ 10000) (h0 : p = none → len = 0 ∧ cap = 0) : ValS (D N (d + 5)) 21 [.slice p len cap] h s (.bool (risingK l)) := by
  refine ValS.mk fun K pw Z hp hk => ?_
  rw [D_21]; unfold F21; rw [app1_eq]
  refine (s53 hN hf r hl).use hp fun h1 s1 hs1 g1 => ?_
  rw [← rising_of] at hk
  simp (disch := omega) only [tys, bindJ_eq, logJ_eq, wp_box, wp_load, wp_cells, wp_aput, wp_anew, wp_cond, wp_guard, gd_true, gd_false, pick_eq, add_eq, sub_eq, eq_eq, ne_eq, lt_eq, le_eq, gt_eq, ge_eq, shr_eq, shl_eq, quo_eq, rem_eq, not_eq, wp_log_load, wp_log_cells, wp_log_ret, wp_log_anew, ext0, ext1, ext2, nil_eq, get_ne, get_eq, nth_0, nth_s, cells_agg, cells_int, cells_bool, cells_slice, cells_ptr, ro_zero, one_int, one_bool, one_slice, one_ptr, arr_size, overL, Nat.zero_add, Nat.reduceAdd, Nat.add_zero, List.length_cons, List.length_nil, List.all_cons, List.all_nil, Nat.reduceLeDiff, Nat.ble_eq, Bool.and_true, Bool.not_false, Bool.and_self, decide_true, List.drop_zero, List.drop_succ_cons, List.take_succ_cons, List.take_zero, List.take_nil, true_and, and_true, Int.ofNat_eq_natCast, neg_one, Int.toNat_natCast, Int.natCast_zero, Int.natCast_one, Int.cast_ofNat_Int, List.append_nil, List.nil_append]
  cases hso : sortedK l with
  | false =>
    rw [hso] at hk
    simp only [Bool.false_eq_true, if_false, Bool.false_and] at hk ⊢
    exact hk _ _ hs1 g1
  | true =>
    rw [hso] at hk
    simp only [if_true, Bool.true_and] at hk ⊢
    refine (s55 g1.fresh (r.grow hf g1) (by omega) h0).use (fun n hn => hp n (by omega)) fun v h2 s2 hs2 g2 hv => ?_
    obtain ⟨p', rfl, ho⟩ := hv
    obtain ⟨n, hn⟩ : ∃ n, len ≠ 0 → p' = some ⟨n, 0, none⟩ ∧ s1 ≤ n ∧ h2.get n = some (.cells ⟨l.flatMap kv⟩ 23 (4, 0)) := by
      by_cases h0 : len = 0
      · exact ⟨0, fun h => absurd h0 h⟩
      · obtain ⟨n, hn⟩ := ho.2 h0
        exact ⟨n, fun _ => hn⟩
    by_cases hz : len = 0
    · subst hz
      refine s54 (n := s2) hN g2.fresh r.1 hl (fun h => absurd rfl h) p' (fun h => absurd rfl h) _ pw Z (fun n hn => hp n (by omega)) (fun n hn => hp n (by omega)) fun v h3 s3 hs3 hv => ?_
      obtain ⟨hb, q, m, c', rfl, hm⟩ := hv
      simp (disch := omega) only [tys, bindJ_eq, logJ_eq, wp_box, wp_load, wp_cells, wp_aput, wp_anew, wp_cond, wp_guard, gd_true, gd_false, pick_eq, add_eq, sub_eq, eq_eq, ne_eq, lt_eq, le_eq, gt_eq, ge_eq, shr_eq, shl_eq, quo_eq, rem_eq, not_eq, wp_log_load, wp_log_cells, wp_log_ret, wp_log_anew, ext0, ext1, ext2, nil_eq, get_ne, get_eq, nth_0, nth_s, cells_agg, cells_int, cells_bool, cells_slice, cells_ptr, ro_zero, one_int, one_bool, one_slice, one_ptr, arr_size, overL, Nat.zero_add, Nat.reduceAdd, Nat.add_zero, List.length_cons, List.length_nil, List.all_cons, List.all_nil, Nat.reduceLeDiff, Nat.ble_eq, Bool.and_true, Bool.not_false, Bool.and_self, decide_true, List.drop_zero, List.drop_succ_cons, List.take_succ_cons, List.take_zero, List.take_nil, true_and, and_true, Int.ofNat_eq_natCast, neg_one, Int.toNat_natCast, Int.natCast_zero, Int.natCast_one, Int.cast_ofNat_Int, List.append_nil, List.nil_append]
      rw [← hm] at hk
      have hd : decide ((m : Int) = 0) = decide (m = 0) := by by_cases h : m = 0 <;> simp [h]
      rw [hd]
      exact hk _ _ (by omega) ⟨fun x hx => by rw [hb.keep x (by omega) (by omega), g2.keep x (by omega), g1.keep x hx], hb.fresh⟩
    · obtain ⟨hn1, hn2, hn3⟩ := hn hz
      refine s54 (n := n) hN g2.fresh r.1 hl (fun _ => hn3) p' (fun _ => hn1) _ pw Z (fun x hx => hp x (by omega)) (fun n hn => hp n (by omega)) fun v h3 s3 hs3 hv => ?_
      obtain ⟨hb, q, m, c', rfl, hm⟩ := hv
      simp (disch := omega) only [tys, bindJ_eq, logJ_eq, wp_box, wp_load, wp_cells, wp_aput, wp_anew, wp_cond, wp_guard, gd_true, gd_false, pick_eq, add_eq, sub_eq, eq_eq, ne_eq, lt_eq, le_eq, gt_eq, ge_eq, shr_eq, shl_eq, quo_eq, rem_eq, not_eq, wp_log_load, wp_log_cells, wp_log_ret, wp_log_anew, ext0, ext1, ext2, nil_eq, get_ne, get_eq, nth_0, nth_s, cells_agg, cells_int, cells_bool, cells_slice, cells_ptr, ro_zero, one_int, one_bool, one_slice, one_ptr, arr_size, overL, Nat.zero_add, Nat.reduceAdd, Nat.add_zero, List.length_cons, List.length_nil, List.all_cons, List.all_nil, Nat.reduceLeDiff, Nat.ble_eq, Bool.and_true, Bool.not_false, Bool.and_self, decide_true, List.drop_zero, List.drop_succ_cons, List.take_succ_cons, List.take_zero, List.take_nil, true_and, and_true, Int.ofNat_eq_natCast, neg_one, Int.toNat_natCast, Int.natCast_zero, Int.natCast_one, Int.cast_ofNat_Int, List.append_nil, List.nil_append]
      rw [← hm] at hk
      have hd : decide ((m : Int) = (len : Int)) = decide (m = len) := nat_dec m len
      rw [hd]
      exact hk _ _ (by omega) ⟨fun x hx => by rw [hb.keep x (by omega) (by omega), g2.keep x (by omega), g1.keep x hx], hb.fresh⟩
end
end Go.Ev.R
namespace Go.Ev.R
open Go Go.RowKit
def plK (x : K3) : List K3 → Nat
  | [] => 0
  | y :: l => if lessK y x = true then plK x l + 1 else 0
theorem pl_eq {x : K3} : ∀ {l : List K3} {i : Nat}, i ≤ l.length → (∀ k y, k < i → l[k]? = some y → lessK y x = true) → (∀ y, l[i]? = some y → lessK y x = false) → plK x l = i
  | [], i, h, _, _ => by obtain rfl : i = 0 := by simpa using h
                         rfl
  | y :: l, 0, _, _, h => by
    have := h y rfl
    simp [plK, this]
  | y :: l, i + 1, h0, h1, h2 => by
    have a := h1 0 y (by omega) rfl
    have b := pl_eq (x := x) (l := l) (i := i) (by simpa using h0) (fun k z hk hz => h1 (k + 1) z (by omega) hz) (fun z hz => h2 z hz)
    simp [plK, a, b]
def atK (x : K3) (l : List K3) : Bool := match l[plK x l]? with
  | some y => sameK y x
  | none => false
theorem less_trans {x y z : K3} (h1 : lessK x y = true) (h2 : lessK y z = true) : lessK x z = true := by
  obtain ⟨a, b, c⟩ := x
  obtain ⟨a', b', c'⟩ := y
  obtain ⟨a'', b'', c''⟩ := z
  simp only [lessK] at *
  by_cases e1 : a = a'
  · subst e1
    by_cases e2 : a = a''
    · subst e2
      simp only [if_true] at *
      by_cases e3 : b = b'
      · subst e3
        by_cases e4 : b = b''
        · subst e4
          simp only [if_true, decide_eq_true_eq] at *; omega
        · simp only [if_true, e4, if_false, decide_eq_true_eq] at *; omega
      · by_cases e4 : b' = b''
        · subst e4
          simp only [if_true, e3, if_false, decide_eq_true_eq] at *; omega
        · simp only [e3, e4, if_false, decide_eq_true_eq] at *
          rw [if_neg (by omega)]; simp; omega
    · simp only [e2, if_true, if_false, decide_eq_true_eq] at *; omega
  · by_cases e2 : a' = a''
    · subst e2
      simp only [e1, if_true, if_false, decide_eq_true_eq] at *; omega
    · simp only [e1, e2, if_false, decide_eq_true_eq] at *
      rw [if_neg (by omega)]; simp; omega
theorem upTo_get {p : K3 → K3 → Bool} {l : List K3} : ∀ {n i : Nat} {x y : K3}, upTo p l n = true → i < n → l[i]? = some x → l[i + 1]? = some y → p x y = true
  | n + 1, i, x, y, h, hi, hx, hy => by
    have h : (upTo p l n && (match l[n]?, l[n + 1]? with | some x, some y => p x y | _, _ => true)) = true := h
    rw [Bool.and_eq_true] at h
    rcases Nat.lt_or_ge i n with h1 | h1
    · exact upTo_get h.1 h1 hx hy
    · obtain rfl : i = n := by omega
      have := h.2
      rw [hx, hy] at this
      exact this
theorem rise_lt {l : List K3} (h : risingK l = true) {i : Nat} {x : K3} (hx : l[i]? = some x) : ∀ {j : Nat} {y : K3}, i < j → l[j]? = some y → lessK x y = true
  | j + 1, y, hij, hy => by
    have hj : j + 1 < l.length := (List.getElem?_eq_some_iff.1 hy).1
    obtain ⟨z, hz⟩ := get_some (l := l) (i := j) (by omega)
    have h1 : lessK z y = true := upTo_get (n := l.length - 1) h (by omega) hz hy
    rcases Nat.lt_or_ge i j with h2 | h2
    · exact less_trans (rise_lt h hx h2 hz) h1
    · obtain rfl : i = j := by omega
      rw [hx] at hz
      cases hz; exact h1
theorem pl_rise {l : List K3} (h : risingK l = true) {x : K3} {i : Nat} (hi : i ≤ l.length) (h1 : ∀ k y, k + 1 = i → l[k]? = some y → lessK y x = true) (h2 : ∀ y, l[i]? = some y → lessK y x = false) : plK x l = i := by
  refine pl_eq hi (fun k y hk hy => ?_) h2
  obtain ⟨j, rfl⟩ : ∃ j, i = j + 1 := ⟨i - 1, by omega⟩
  obtain ⟨z, hz⟩ := get_some (l := l) (i := j) (by omega)
  have h3 := h1 j z rfl hz
  rcases Nat.lt_or_ge k j with h4 | h4
  · exact less_trans (rise_lt h hy h4 hz) h3
  · obtain rfl : k = j := by omega
    rw [hy] at hz
    cases hz; exact h3
theorem ordK_eq (x y : K3) : decide (ordK x y = 0) = sameK x y := by
  obtain ⟨a, b, c⟩ := x
  obtain ⟨a', b', c'⟩ := y
  simp only [ordK, firstNZ, cmpI, sameK]
  rcases Int.lt_trichotomy a a' with h1 | h1 | h1
  · simp [h1, show ¬ a = a' by omega]
  · subst h1
    rcases Int.lt_trichotomy b b' with h2 | h2 | h2
    · simp [h2, show ¬ b = b' by omega]
    · subst h2
      rcases Int.lt_trichotomy c c' with h3 | h3 | h3
      · simp [h3, show ¬ c = c' by omega]
      · subst h3; simp
      · simp [h3, show ¬ c < c' by omega, show ¬ c = c' by omega]
    · simp [h2, show ¬ b < b' by omega, show ¬ b = b' by omega]
  · simp [h1, show ¬ a < a' by omega, show ¬ a = a' by omega]
theorem box3 {h : T} {n : Nat} {x : K3} {t : TypeId} {f : Nat × Nat} (hg : h.get n = some (.cells ⟨kv x⟩ t f)) {pw : Nat → Prop} {Z : Value → T → Prop} (k : List Value → Nat → AM) (s : Nat) :
    (acells n 0 3 k s).wp pw Z h = (k (kv x) s).wp pw Z h := by
  have r : Row EK h (some ⟨n, 0, none⟩) 1 [x] := .of_cells (t := t) (f := f) (by rw [hg]; simp [EK]) rfl
  have := row3 r (i := 0) (x := x) rfl (pw := pw) (Z := Z) k s
  exact this
theorem box3L {h : T} {n : Nat} {x : K3} {t : TypeId} {f : Nat × Nat} (hg : h.get n = some (.cells ⟨kv x⟩ t f)) {pw : Nat → Prop} {Z : Value → T → Prop} (q : List Value → Value) (k : LogT) (s : Nat) :
    (AM.log (acells n 0 3 (fun l s => .ret (pk (q l) s)) s) (logU k)).wp pw Z h = (k (q (kv x)) [n] [] s).wp pw Z h := by
  have r : Row EK h (some ⟨n, 0, none⟩) 1 [x] := .of_cells (t := t) (f := f) (by rw [hg]; simp [EK]) rfl
  exact row3L r (i := 0) (x := x) rfl q k s
theorem half (a : Int) (h0 : 0 ≤ a) (h1 : a < 1000000) : IntKind.wrap .i64 ((IntKind.wrap .u64 a).fdiv (2 ^ (min 1 (IntKind.bits .u64)))) = a / 2 := by
  rw [wrap_in .u64 a (.inr ⟨rfl, by omega, by omega⟩)]
  have : (2 : Int) ^ (min 1 (IntKind.bits .u64)) = 2 := by rfl
  rw [this, Int.fdiv_eq_ediv_of_nonneg _ (by omega), wrap_id (by omega) (by omega)]
end Go.Ev.R
namespace Go.Ev.R
open Go Go.RowKit
theorem shr1 {P : Program} (t yt : TypeId) (cx cy : Bool) (k1 k2 : IntKind) (a : Int) (k : Value → Nat → AM) (s : Nat) : shrX P t yt cx cy (.int k1 a) (.int k2 1) k s = k (.int k1 (a.fdiv (2 ^ (min 1 k1.bits)))) s := shr_eq t yt cx cy k1 k2 a 1 k s
section
variable {N d : Nat} (hN : 100000 ≤ N) {h : T} {s : Nat} (hf : ∀ n, s ≤ n → h.get n = none)
include hN hf
end
end Go.Ev.R
namespace Go.Ev.R
open Go Go.RowKit
def findK (x : K3) (l : List K3) : List Value := if risingK l = true then [.int .i64 (plK x l : Int), .bool (atK x l)] else [.int .i64 0, .bool false]
section
variable {N d : Nat} (hN : 100000 ≤ N) {h : T} {s : Nat} (hf : ∀ n, s ≤ n → h.get n = none)
include hN hf
end
end Go.Ev.R
namespace Go.Ev.R
open Go Go.RowKit
theorem eqb_4 (a b : Bool) (k : Value → Nat → AM) (s : Nat) : eqX P 4 4 false false (.bool a) (.bool b) k s = k (.bool (a == b)) s := by cases a <;> cases b <;> kernel_rfl
section
variable {N d : Nat} (hN : 100000 ≤ N) {h : T} {s : Nat} (hf : ∀ n, s ≤ n → h.get n = none)
include hN hf
theorem s23 {p q : Option Addr} {len cap cap' : Nat} {l : List K3} (r : Row EK h p len l) (r' : Row EK h q len l) (hl : len ≤ 10000) : ValS (D N (d + 1)) 23 [.slice p len cap, .slice q len cap'] h s (.bool true) := by
  refine ValS.mk fun K pw Z hp hk => ?_
  rw [D_23]; unfold F23; rw [app2_eq]
  simp (disch := omega) only [tys, bindJ_eq, logJ_eq, wp_box, wp_aput, wp_anew, wp_cond, wp_guard, gd_true, gd_false, pick_eq, add_eq, sub_eq, eq_eq, ne_eq, lt_eq, le_eq, gt_eq, ge_eq, shr_eq, shl_eq, quo_eq, rem_eq, not_eq, wp_log_ret, wp_log_anew, ext0, ext1, ext2, nil_eq, get_ne, get_eq, nth_0, nth_s, cells_agg, cells_int, cells_bool, cells_slice, cells_ptr, ro_zero, one_int, one_bool, one_slice, one_ptr, arr_size, overL, Nat.zero_add, Nat.reduceAdd, Nat.add_zero, List.length_cons, List.length_nil, List.all_cons, List.all_nil, Nat.reduceLeDiff, Nat.ble_eq, Bool.and_true, Bool.not_false, Bool.and_self, decide_true, List.drop_zero, List.drop_succ_cons, List.take_succ_cons, List.take_zero, List.take_nil, true_and, and_true, Int.ofNat_eq_natCast, neg_one, Int.toNat_natCast, Int.natCast_zero, Int.natCast_one, Int.cast_ofNat_Int, List.append_nil, List.nil_append]
  have loop : ∀ (B : (Value → Value → Nat → AM) → Value → Value → Nat → AM) (hB : ∀ H u i s, B H u i s = X23_2 N (D N d) K (.slice p len cap) (.slice q len cap') (fun v s => K v s) H u i s) (m i : Nat), len - i < m → i ≤ len →
      (loopJ m 2 (fun _ _ _ => AM.fail) B (.bool true) (.int .i64 (i : Int)) s).wp pw Z h := by
    intro B hB m
    induction m with
    | zero => intro i hm; omega
    | succ m ih =>
      intro i hm hil
      rw [loopJ_succ, hB]
      unfold X23_2
      simp (disch := omega) only [tys, bindJ_eq, logJ_eq, wp_box, wp_aput, wp_anew, wp_cond, wp_guard, gd_true, gd_false, pick_eq, add_eq, sub_eq, eq_eq, ne_eq, lt_eq, le_eq, gt_eq, ge_eq, shr_eq, shl_eq, quo_eq, rem_eq, not_eq, wp_log_ret, wp_log_anew, ext0, ext1, ext2, nil_eq, get_ne, get_eq, nth_0, nth_s, cells_agg, cells_int, cells_bool, cells_slice, cells_ptr, ro_zero, one_int, one_bool, one_slice, one_ptr, arr_size, overL, Nat.zero_add, Nat.reduceAdd, Nat.add_zero, List.length_cons, List.length_nil, List.all_cons, List.all_nil, Nat.reduceLeDiff, Nat.ble_eq, Bool.and_true, Bool.not_false, Bool.and_self, decide_true, List.drop_zero, List.drop_succ_cons, List.take_succ_cons, List.take_zero, List.take_nil, true_and, and_true, Int.ofNat_eq_natCast, neg_one, Int.toNat_natCast, Int.natCast_zero, Int.natCast_one, Int.cast_ofNat_Int, List.append_nil, List.nil_append, if_true]
      unfold X23_1
      by_cases hi : i < len
      · obtain ⟨x, hx⟩ := get_some (l := l) (i := i) (by rw [r.1]; omega)
        have e3 : (i : Int) + 1 = ((i + 1 : Nat) : Int) := by omega
        simp (disch := omega) only [tys, bindJ_eq, logJ_eq, wp_box, wp_aput, wp_anew, wp_cond, wp_guard, gd_true, gd_false, pick_eq, add_eq, sub_eq, eq_eq, ne_eq, lt_eq, le_eq, gt_eq, ge_eq, shr_eq, shl_eq, quo_eq, rem_eq, not_eq, wp_log_ret, wp_log_anew, ext0, ext1, ext2, nil_eq, get_ne, get_eq, nth_0, nth_s, cells_agg, cells_int, cells_bool, cells_slice, cells_ptr, ro_zero, one_int, one_bool, one_slice, one_ptr, arr_size, overL, Nat.zero_add, Nat.reduceAdd, Nat.add_zero, List.length_cons, List.length_nil, List.all_cons, List.all_nil, Nat.reduceLeDiff, Nat.ble_eq, Bool.and_true, Bool.not_false, Bool.and_self, decide_true, List.drop_zero, List.drop_succ_cons, List.take_succ_cons, List.take_zero, List.take_nil, true_and, and_true, Int.ofNat_eq_natCast, neg_one, Int.toNat_natCast, Int.natCast_zero, Int.natCast_one, Int.cast_ofNat_Int, List.append_nil, List.nil_append, show (i : Int) < (len : Int) by omega, if_true, xa3 r (j := (i : Int)) (by omega) (by omega), xa3 r' (j := (i : Int)) (by omega) (by omega), row3L r hx, row3L r' hx, kv, e3, wrap_id (a := ((i + 1 : Nat) : Int)) (by omega) (by omega)]
        exact ih (i + 1) (by omega) (by omega)
      · simp (disch := omega) only [tys, bindJ_eq, logJ_eq, wp_box, wp_aput, wp_anew, wp_cond, wp_guard, gd_true, gd_false, pick_eq, add_eq, sub_eq, eq_eq, ne_eq, lt_eq, le_eq, gt_eq, ge_eq, shr_eq, shl_eq, quo_eq, rem_eq, not_eq, wp_log_ret, wp_log_anew, ext0, ext1, ext2, nil_eq, get_ne, get_eq, nth_0, nth_s, cells_agg, cells_int, cells_bool, cells_slice, cells_ptr, ro_zero, one_int, one_bool, one_slice, one_ptr, arr_size, overL, Nat.zero_add, Nat.reduceAdd, Nat.add_zero, List.length_cons, List.length_nil, List.all_cons, List.all_nil, Nat.reduceLeDiff, Nat.ble_eq, Bool.and_true, Bool.not_false, Bool.and_self, decide_true, List.drop_zero, List.drop_succ_cons, List.take_succ_cons, List.take_zero, List.take_nil, true_and, and_true, Int.ofNat_eq_natCast, neg_one, Int.toNat_natCast, Int.natCast_zero, Int.natCast_one, Int.cast_ofNat_Int, List.append_nil, List.nil_append, show ¬ (i : Int) < (len : Int) by omega, decide_false, if_true, Bool.false_eq_true, if_false]
        exact hk h s (Nat.le_refl _) (.refl hf)
  exact loop _ (fun _ _ _ _ => rfl) N 0 (by omega) (by omega)
end
end Go.Ev.R
namespace Go.Ev.R
open Go Go.RowKit
def insK (x : K3) (m : List K3) : List K3 := m.take (plK x m) ++ x :: m.drop (plK x m)
end Go.Ev.R
namespace Go.Ev.R
open Go Go.RowKit
theorem same_iff {x y : K3} : sameK x y = true ↔ x = y := by
  obtain ⟨a, b, c⟩ := x
  obtain ⟨a', b', c'⟩ := y
  simp [sameK]
theorem less_self (x : K3) : lessK x x = false := by simp [lessK]
theorem pl_le (x : K3) : ∀ l : List K3, plK x l ≤ l.length
  | [] => Nat.le_refl _
  | y :: l => by
    have := pl_le x l
    unfold plK
    split
    · simp; omega
    · simp
theorem pl_lt {x : K3} : ∀ {l : List K3} {k : Nat} {y : K3}, k < plK x l → l[k]? = some y → lessK y x = true
  | z :: l, k, y, h, hy => by
    unfold plK at h
    split at h
    · rename_i hz
      cases k with
      | zero => simp at hy; subst hy; exact hz
      | succ k => exact pl_lt (l := l) (k := k) (by omega) (by simpa using hy)
    · omega
theorem pl_at {x : K3} : ∀ {l : List K3} {y : K3}, l[plK x l]? = some y → lessK y x = false
  | z :: l, y, hy => by
    unfold plK at hy
    split at hy
    · exact pl_at (l := l) (by simpa using hy)
    · rename_i hz
      simp at hy; subst hy; simpa using hz
theorem upTo_of {p : K3 → K3 → Bool} {l : List K3} (h : ∀ i x y, l[i]? = some x → l[i + 1]? = some y → p x y = true) : ∀ n, upTo p l n = true
  | 0 => rfl
  | n + 1 => by
    show (upTo p l n && _) = true
    rw [upTo_of h n]
    cases hx : l[n]? with
    | none => rfl
    | some x =>
      cases hy : l[n + 1]? with
      | none => rfl
      | some y => exact h n x y hx hy
theorem ins_at (x : K3) (m : List K3) (i : Nat) : (insK x m)[i]? = if i < plK x m then m[i]? else if i = plK x m then some x else m[i - 1]? := by
  have hk := pl_le x m
  unfold insK
  generalize plK x m = k at *
  have htk : (m.take k).length = k := by rw [List.length_take]; omega
  by_cases h1 : i < k
  · rw [if_pos h1, List.getElem?_append_left (by omega), List.getElem?_take, if_pos h1]
  · rw [if_neg h1, List.getElem?_append_right (by omega), htk]
    by_cases h2 : i = k
    · subst h2; rw [if_pos rfl, Nat.sub_self]; rfl
    · rw [if_neg h2]
      obtain ⟨j, hj⟩ : ∃ j, i - k = j + 1 := ⟨i - k - 1, by omega⟩
      rw [hj, List.getElem?_cons_succ, List.getElem?_drop]
      congr 1; omega
theorem ins_rise {x : K3} {m : List K3} (h : risingK m = true) (hn : atK x m = false) : risingK (insK x m) = true := by
  refine upTo_of (fun i a b ha hb => ?_) _
  rw [ins_at] at ha hb
  by_cases h1 : i < plK x m
  · rw [if_pos h1] at ha
    by_cases h2 : i + 1 < plK x m
    · rw [if_pos h2] at hb
      exact rise_lt h ha (Nat.lt_succ_self i) hb
    · rw [if_neg h2, if_pos (by omega)] at hb
      cases hb
      exact pl_lt h1 ha
  · rw [if_neg h1] at ha
    rw [if_neg (by omega), if_neg (by omega), Nat.add_sub_cancel] at hb
    by_cases h2 : i = plK x m
    · rw [if_pos h2] at ha
      cases ha
      subst h2
      have h3 := pl_at hb
      unfold atK at hn
      rw [hb] at hn
      rw [← less_iff, h3]
      simpa using hn
    · rw [if_neg h2] at ha
      exact rise_lt h ha (by omega) hb
theorem ins_mem {x y : K3} {m : List K3} (h : y = x ∨ y ∈ m) : y ∈ insK x m := by
  unfold insK
  rcases h with rfl | h
  · simp
  · have := List.take_append_drop (plK x m) m
    rw [← this] at h
    rcases List.mem_append.1 h with h | h
    · exact List.mem_append.2 (.inl h)
    · exact List.mem_append.2 (.inr (List.mem_cons_of_mem _ h))
theorem found {x : K3} {m : List K3} (h : risingK m = true) (hm : x ∈ m) : atK x m = true := by
  obtain ⟨j, hj⟩ := List.getElem?_of_mem hm
  have hl := (List.getElem?_eq_some_iff.1 hj).1
  have : plK x m = j := pl_eq (by omega) (fun k y hk hy => rise_lt h hy hk hj) (fun y hy => by rw [hj] at hy; cases hy; exact less_self x)
  unfold atK
  rw [this, hj]
  exact same_iff.2 rfl
theorem at_is {x : K3} {m : List K3} (h : atK x m = true) : m[plK x m]? = some x := by
  unfold atK at h
  split at h
  · rename_i y hy
    rw [hy, same_iff.1 h]
  · cases h
end Go.Ev.R

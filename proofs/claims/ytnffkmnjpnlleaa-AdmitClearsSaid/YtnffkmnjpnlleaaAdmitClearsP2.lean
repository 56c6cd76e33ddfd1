/- The law AdmitClears, part 2: what the functions answer, by their terms. No condition. -/
import Derived.Test.YtnffkmnjpnlleaaAdmitClearsP1
set_option linter.unusedVariables false
set_option linter.unusedSimpArgs false
set_option maxRecDepth 100000
namespace Go.Ev.R
open Go Go.RowKit
abbrev vi (n : Int) : Value := .int .i64 n
def suv (x : SU) : List Value := [vi x.keep, vi x.horizon, vi x.ahead, vi x.budget, vi x.window]
abbrev suval (x : SU) : Value := .agg ⟨suv x⟩
def errI (ok : Bool) : Int := if ok = true then 0 else 2
theorem blt_max {C : CallT} (ts : Array TypeId) (t : TypeId) (cs : Array Bool) (a b : Int) (k : Value → Nat → AM) (s : Nat) : blt0 P C .max ts t cs [vi a, vi b] k s = k (vi (max a b)) s := by
  have h : pureRun P (builtin .max ts t cs ⟨[vi a, vi b]⟩) = some (.value (vi (max a b))) := by
    have h1 : Builtin.max_ ts t ⟨[vi a, vi b]⟩ = pure (.int .i64 (if b > a then b else a)) := rfl
    have h2 : (if b > a then b else a) = max a b := by split <;> omega
    rw [h2] at h1
    have : builtin .max ts t cs ⟨[vi a, vi b]⟩ = (do pure (Next.value (← Builtin.max_ ts t ⟨[vi a, vi b]⟩))) := rfl
    rw [this, h1]
    rfl
  unfold blt0 abuiltin
  dsimp only
  rw [h]
  rfl
section
variable {N d : Nat} (hN : 100000 ≤ N) {h : T} {s : Nat} (hf : ∀ n, s ≤ n → h.get n = none)
include hf
theorem s100 (n lo hi : Int) : ValS (D N (d + 1)) 100 [vi n, vi lo, vi hi] h s (.bool (wI n lo hi)) := by
  refine ValS.of hf fun K pw Z g hp hk => ?_
  rw [D_100]; unfold F100; rw [app3_eq]
  simp (disch := omega) only [tys, bindJ_eq, logJ_eq, wp_cond, wp_guard, gd_true, gd_false, pick_eq, add_eq, sub_eq, eq_eq, ne_eq, lt_eq, le_eq, gt_eq, ge_eq, shr_eq, shl_eq, quo_eq, rem_eq, not_eq, wp_log_ret, ext0, ext1, ext2, nil_eq, get_ne, get_eq, nth_0, nth_s, cells_agg, cells_int, cells_bool, cells_slice, cells_ptr, ro_zero, one_int, one_bool, one_slice, one_ptr, arr_size, overL, Nat.zero_add, Nat.reduceAdd, Nat.add_zero, List.length_cons, List.length_nil, List.all_cons, List.all_nil, Nat.reduceLeDiff, Nat.ble_eq, Bool.and_true, Bool.not_false, Bool.and_self, decide_true, List.drop_zero, List.drop_succ_cons, List.take_succ_cons, List.take_zero, List.take_nil, true_and, and_true, Int.ofNat_eq_natCast, neg_one, Int.toNat_natCast, Int.natCast_zero, Int.natCast_one, Int.cast_ofNat_Int, List.append_nil, List.nil_append, funX_eq, if_true, if_false, Bool.false_eq_true, Bool.not_true, Bool.not_false]
  unfold wI at hk
  by_cases h1 : lo ≤ n
  · simp (disch := omega) only [tys, bindJ_eq, logJ_eq, wp_cond, wp_guard, gd_true, gd_false, pick_eq, add_eq, sub_eq, eq_eq, ne_eq, lt_eq, le_eq, gt_eq, ge_eq, shr_eq, shl_eq, quo_eq, rem_eq, not_eq, wp_log_ret, ext0, ext1, ext2, nil_eq, get_ne, get_eq, nth_0, nth_s, cells_agg, cells_int, cells_bool, cells_slice, cells_ptr, ro_zero, one_int, one_bool, one_slice, one_ptr, arr_size, overL, Nat.zero_add, Nat.reduceAdd, Nat.add_zero, List.length_cons, List.length_nil, List.all_cons, List.all_nil, Nat.reduceLeDiff, Nat.ble_eq, Bool.and_true, Bool.not_false, Bool.and_self, decide_true, List.drop_zero, List.drop_succ_cons, List.take_succ_cons, List.take_zero, List.take_nil, true_and, and_true, Int.ofNat_eq_natCast, neg_one, Int.toNat_natCast, Int.natCast_zero, Int.natCast_one, Int.cast_ofNat_Int, List.append_nil, List.nil_append, funX_eq, if_true, if_false, Bool.false_eq_true, Bool.not_true, Bool.not_false, h1]
    simp only [h1, decide_true, Bool.true_and] at hk
    exact hk _ _ g
  · simp (disch := omega) only [tys, bindJ_eq, logJ_eq, wp_cond, wp_guard, gd_true, gd_false, pick_eq, add_eq, sub_eq, eq_eq, ne_eq, lt_eq, le_eq, gt_eq, ge_eq, shr_eq, shl_eq, quo_eq, rem_eq, not_eq, wp_log_ret, ext0, ext1, ext2, nil_eq, get_ne, get_eq, nth_0, nth_s, cells_agg, cells_int, cells_bool, cells_slice, cells_ptr, ro_zero, one_int, one_bool, one_slice, one_ptr, arr_size, overL, Nat.zero_add, Nat.reduceAdd, Nat.add_zero, List.length_cons, List.length_nil, List.all_cons, List.all_nil, Nat.reduceLeDiff, Nat.ble_eq, Bool.and_true, Bool.not_false, Bool.and_self, decide_true, List.drop_zero, List.drop_succ_cons, List.take_succ_cons, List.take_zero, List.take_nil, true_and, and_true, Int.ofNat_eq_natCast, neg_one, Int.toNat_natCast, Int.natCast_zero, Int.natCast_one, Int.cast_ofNat_Int, List.append_nil, List.nil_append, funX_eq, if_true, if_false, Bool.false_eq_true, Bool.not_true, Bool.not_false, h1, decide_false]
    simp only [h1, decide_false, Bool.false_and] at hk
    exact hk _ _ g
theorem s46 (x : SU) : ValS (D N (d + 2)) 46 [suval x] h s (vi (errI (chkS x))) := by
  refine ValS.of hf fun K pw Z g hp hk => ?_
  rw [D_46]; unfold F46; rw [app1_eq]
  refine wp_boxA g hp fun h1 g1 _ b1 => ?_
  replace hk := fun h' s' (g' : From (s + 1) h1 h' s') => hk h' s' (g1.trans g'); replace hp := fun n (hn : s + 1 ≤ n) => hp n (by omega); have g0 := From.refl g1.fresh
  unfold suv at b1
  simp (disch := omega) only [tys, bindJ_eq, logJ_eq, wp_cond, wp_guard, gd_true, gd_false, pick_eq, add_eq, sub_eq, eq_eq, ne_eq, lt_eq, le_eq, gt_eq, ge_eq, shr_eq, shl_eq, quo_eq, rem_eq, not_eq, wp_log_ret, ext0, ext1, ext2, nil_eq, get_ne, get_eq, nth_0, nth_s, cells_agg, cells_int, cells_bool, cells_slice, cells_ptr, ro_zero, one_int, one_bool, one_slice, one_ptr, arr_size, overL, Nat.zero_add, Nat.reduceAdd, Nat.add_zero, List.length_cons, List.length_nil, List.all_cons, List.all_nil, Nat.reduceLeDiff, Nat.ble_eq, Bool.and_true, Bool.not_false, Bool.and_self, decide_true, List.drop_zero, List.drop_succ_cons, List.take_succ_cons, List.take_zero, List.take_nil, true_and, and_true, Int.ofNat_eq_natCast, neg_one, Int.toNat_natCast, Int.natCast_zero, Int.natCast_one, Int.cast_ofNat_Int, List.append_nil, List.nil_append, ldB b1, clB b1, ldBL b1, clBL b1, funX_eq, if_true, if_false, Bool.false_eq_true, Bool.not_true, Bool.not_false]
  refine ValS.go g0 hp (s100 g0.fresh _ _ _) fun k1 s1 u1 _ => ?_
  cases e1 : wI x.keep 1 200 with
  | false =>
    simp (disch := omega) only [tys, bindJ_eq, logJ_eq, wp_cond, wp_guard, gd_true, gd_false, pick_eq, add_eq, sub_eq, eq_eq, ne_eq, lt_eq, le_eq, gt_eq, ge_eq, shr_eq, shl_eq, quo_eq, rem_eq, not_eq, wp_log_ret, ext0, ext1, ext2, nil_eq, get_ne, get_eq, nth_0, nth_s, cells_agg, cells_int, cells_bool, cells_slice, cells_ptr, ro_zero, one_int, one_bool, one_slice, one_ptr, arr_size, overL, Nat.zero_add, Nat.reduceAdd, Nat.add_zero, List.length_cons, List.length_nil, List.all_cons, List.all_nil, Nat.reduceLeDiff, Nat.ble_eq, Bool.and_true, Bool.not_false, Bool.and_self, decide_true, List.drop_zero, List.drop_succ_cons, List.take_succ_cons, List.take_zero, List.take_nil, true_and, and_true, Int.ofNat_eq_natCast, neg_one, Int.toNat_natCast, Int.natCast_zero, Int.natCast_one, Int.cast_ofNat_Int, List.append_nil, List.nil_append, ldB (u1.box b1 (by omega)), clB (u1.box b1 (by omega)), ldBL (u1.box b1 (by omega)), clBL (u1.box b1 (by omega)), funX_eq, if_true, if_false, Bool.false_eq_true, Bool.not_true, Bool.not_false, X46_1]
    have := hk _ _ u1
    simp only [errI, chkS, e1, Bool.true_and, Bool.false_and, Bool.and_self, Bool.false_eq_true, if_false] at this
    exact this
  | true =>
  simp (disch := omega) only [tys, bindJ_eq, logJ_eq, wp_cond, wp_guard, gd_true, gd_false, pick_eq, add_eq, sub_eq, eq_eq, ne_eq, lt_eq, le_eq, gt_eq, ge_eq, shr_eq, shl_eq, quo_eq, rem_eq, not_eq, wp_log_ret, ext0, ext1, ext2, nil_eq, get_ne, get_eq, nth_0, nth_s, cells_agg, cells_int, cells_bool, cells_slice, cells_ptr, ro_zero, one_int, one_bool, one_slice, one_ptr, arr_size, overL, Nat.zero_add, Nat.reduceAdd, Nat.add_zero, List.length_cons, List.length_nil, List.all_cons, List.all_nil, Nat.reduceLeDiff, Nat.ble_eq, Bool.and_true, Bool.not_false, Bool.and_self, decide_true, List.drop_zero, List.drop_succ_cons, List.take_succ_cons, List.take_zero, List.take_nil, true_and, and_true, Int.ofNat_eq_natCast, neg_one, Int.toNat_natCast, Int.natCast_zero, Int.natCast_one, Int.cast_ofNat_Int, List.append_nil, List.nil_append, ldB (u1.box b1 (by omega)), clB (u1.box b1 (by omega)), ldBL (u1.box b1 (by omega)), clBL (u1.box b1 (by omega)), funX_eq, if_true, if_false, Bool.false_eq_true, Bool.not_true, Bool.not_false, X46_1]
  refine ValS.go u1 hp (s100 u1.fresh _ _ _) fun k2 s2 u2 _ => ?_
  cases e2 : wI x.horizon 0 1099511627776 with
  | false =>
    simp (disch := omega) only [tys, bindJ_eq, logJ_eq, wp_cond, wp_guard, gd_true, gd_false, pick_eq, add_eq, sub_eq, eq_eq, ne_eq, lt_eq, le_eq, gt_eq, ge_eq, shr_eq, shl_eq, quo_eq, rem_eq, not_eq, wp_log_ret, ext0, ext1, ext2, nil_eq, get_ne, get_eq, nth_0, nth_s, cells_agg, cells_int, cells_bool, cells_slice, cells_ptr, ro_zero, one_int, one_bool, one_slice, one_ptr, arr_size, overL, Nat.zero_add, Nat.reduceAdd, Nat.add_zero, List.length_cons, List.length_nil, List.all_cons, List.all_nil, Nat.reduceLeDiff, Nat.ble_eq, Bool.and_true, Bool.not_false, Bool.and_self, decide_true, List.drop_zero, List.drop_succ_cons, List.take_succ_cons, List.take_zero, List.take_nil, true_and, and_true, Int.ofNat_eq_natCast, neg_one, Int.toNat_natCast, Int.natCast_zero, Int.natCast_one, Int.cast_ofNat_Int, List.append_nil, List.nil_append, ldB (u2.box b1 (by omega)), clB (u2.box b1 (by omega)), ldBL (u2.box b1 (by omega)), clBL (u2.box b1 (by omega)), funX_eq, if_true, if_false, Bool.false_eq_true, Bool.not_true, Bool.not_false, X46_1]
    have := hk _ _ u2
    simp only [errI, chkS, e1, e2, Bool.true_and, Bool.false_and, Bool.and_self, Bool.false_eq_true, if_false] at this
    exact this
  | true =>
  simp (disch := omega) only [tys, bindJ_eq, logJ_eq, wp_cond, wp_guard, gd_true, gd_false, pick_eq, add_eq, sub_eq, eq_eq, ne_eq, lt_eq, le_eq, gt_eq, ge_eq, shr_eq, shl_eq, quo_eq, rem_eq, not_eq, wp_log_ret, ext0, ext1, ext2, nil_eq, get_ne, get_eq, nth_0, nth_s, cells_agg, cells_int, cells_bool, cells_slice, cells_ptr, ro_zero, one_int, one_bool, one_slice, one_ptr, arr_size, overL, Nat.zero_add, Nat.reduceAdd, Nat.add_zero, List.length_cons, List.length_nil, List.all_cons, List.all_nil, Nat.reduceLeDiff, Nat.ble_eq, Bool.and_true, Bool.not_false, Bool.and_self, decide_true, List.drop_zero, List.drop_succ_cons, List.take_succ_cons, List.take_zero, List.take_nil, true_and, and_true, Int.ofNat_eq_natCast, neg_one, Int.toNat_natCast, Int.natCast_zero, Int.natCast_one, Int.cast_ofNat_Int, List.append_nil, List.nil_append, ldB (u2.box b1 (by omega)), clB (u2.box b1 (by omega)), ldBL (u2.box b1 (by omega)), clBL (u2.box b1 (by omega)), funX_eq, if_true, if_false, Bool.false_eq_true, Bool.not_true, Bool.not_false, X46_1]
  refine ValS.go u2 hp (s100 u2.fresh _ _ _) fun k3 s3 u3 _ => ?_
  cases e3 : wI x.ahead 0 1073741824 with
  | false =>
    simp (disch := omega) only [tys, bindJ_eq, logJ_eq, wp_cond, wp_guard, gd_true, gd_false, pick_eq, add_eq, sub_eq, eq_eq, ne_eq, lt_eq, le_eq, gt_eq, ge_eq, shr_eq, shl_eq, quo_eq, rem_eq, not_eq, wp_log_ret, ext0, ext1, ext2, nil_eq, get_ne, get_eq, nth_0, nth_s, cells_agg, cells_int, cells_bool, cells_slice, cells_ptr, ro_zero, one_int, one_bool, one_slice, one_ptr, arr_size, overL, Nat.zero_add, Nat.reduceAdd, Nat.add_zero, List.length_cons, List.length_nil, List.all_cons, List.all_nil, Nat.reduceLeDiff, Nat.ble_eq, Bool.and_true, Bool.not_false, Bool.and_self, decide_true, List.drop_zero, List.drop_succ_cons, List.take_succ_cons, List.take_zero, List.take_nil, true_and, and_true, Int.ofNat_eq_natCast, neg_one, Int.toNat_natCast, Int.natCast_zero, Int.natCast_one, Int.cast_ofNat_Int, List.append_nil, List.nil_append, ldB (u3.box b1 (by omega)), clB (u3.box b1 (by omega)), ldBL (u3.box b1 (by omega)), clBL (u3.box b1 (by omega)), funX_eq, if_true, if_false, Bool.false_eq_true, Bool.not_true, Bool.not_false, X46_1]
    have := hk _ _ u3
    simp only [errI, chkS, e1, e2, e3, Bool.true_and, Bool.false_and, Bool.and_self, Bool.false_eq_true, if_false] at this
    exact this
  | true =>
  simp (disch := omega) only [tys, bindJ_eq, logJ_eq, wp_cond, wp_guard, gd_true, gd_false, pick_eq, add_eq, sub_eq, eq_eq, ne_eq, lt_eq, le_eq, gt_eq, ge_eq, shr_eq, shl_eq, quo_eq, rem_eq, not_eq, wp_log_ret, ext0, ext1, ext2, nil_eq, get_ne, get_eq, nth_0, nth_s, cells_agg, cells_int, cells_bool, cells_slice, cells_ptr, ro_zero, one_int, one_bool, one_slice, one_ptr, arr_size, overL, Nat.zero_add, Nat.reduceAdd, Nat.add_zero, List.length_cons, List.length_nil, List.all_cons, List.all_nil, Nat.reduceLeDiff, Nat.ble_eq, Bool.and_true, Bool.not_false, Bool.and_self, decide_true, List.drop_zero, List.drop_succ_cons, List.take_succ_cons, List.take_zero, List.take_nil, true_and, and_true, Int.ofNat_eq_natCast, neg_one, Int.toNat_natCast, Int.natCast_zero, Int.natCast_one, Int.cast_ofNat_Int, List.append_nil, List.nil_append, ldB (u3.box b1 (by omega)), clB (u3.box b1 (by omega)), ldBL (u3.box b1 (by omega)), clBL (u3.box b1 (by omega)), funX_eq, if_true, if_false, Bool.false_eq_true, Bool.not_true, Bool.not_false, X46_1]
  refine ValS.go u3 hp (s100 u3.fresh _ _ _) fun k4 s4 u4 _ => ?_
  cases e4 : wI x.budget 1 200 with
  | false =>
    simp (disch := omega) only [tys, bindJ_eq, logJ_eq, wp_cond, wp_guard, gd_true, gd_false, pick_eq, add_eq, sub_eq, eq_eq, ne_eq, lt_eq, le_eq, gt_eq, ge_eq, shr_eq, shl_eq, quo_eq, rem_eq, not_eq, wp_log_ret, ext0, ext1, ext2, nil_eq, get_ne, get_eq, nth_0, nth_s, cells_agg, cells_int, cells_bool, cells_slice, cells_ptr, ro_zero, one_int, one_bool, one_slice, one_ptr, arr_size, overL, Nat.zero_add, Nat.reduceAdd, Nat.add_zero, List.length_cons, List.length_nil, List.all_cons, List.all_nil, Nat.reduceLeDiff, Nat.ble_eq, Bool.and_true, Bool.not_false, Bool.and_self, decide_true, List.drop_zero, List.drop_succ_cons, List.take_succ_cons, List.take_zero, List.take_nil, true_and, and_true, Int.ofNat_eq_natCast, neg_one, Int.toNat_natCast, Int.natCast_zero, Int.natCast_one, Int.cast_ofNat_Int, List.append_nil, List.nil_append, ldB (u4.box b1 (by omega)), clB (u4.box b1 (by omega)), ldBL (u4.box b1 (by omega)), clBL (u4.box b1 (by omega)), funX_eq, if_true, if_false, Bool.false_eq_true, Bool.not_true, Bool.not_false, X46_1]
    have := hk _ _ u4
    simp only [errI, chkS, e1, e2, e3, e4, Bool.true_and, Bool.false_and, Bool.and_self, Bool.false_eq_true, if_false] at this
    exact this
  | true =>
  simp (disch := omega) only [tys, bindJ_eq, logJ_eq, wp_cond, wp_guard, gd_true, gd_false, pick_eq, add_eq, sub_eq, eq_eq, ne_eq, lt_eq, le_eq, gt_eq, ge_eq, shr_eq, shl_eq, quo_eq, rem_eq, not_eq, wp_log_ret, ext0, ext1, ext2, nil_eq, get_ne, get_eq, nth_0, nth_s, cells_agg, cells_int, cells_bool, cells_slice, cells_ptr, ro_zero, one_int, one_bool, one_slice, one_ptr, arr_size, overL, Nat.zero_add, Nat.reduceAdd, Nat.add_zero, List.length_cons, List.length_nil, List.all_cons, List.all_nil, Nat.reduceLeDiff, Nat.ble_eq, Bool.and_true, Bool.not_false, Bool.and_self, decide_true, List.drop_zero, List.drop_succ_cons, List.take_succ_cons, List.take_zero, List.take_nil, true_and, and_true, Int.ofNat_eq_natCast, neg_one, Int.toNat_natCast, Int.natCast_zero, Int.natCast_one, Int.cast_ofNat_Int, List.append_nil, List.nil_append, ldB (u4.box b1 (by omega)), clB (u4.box b1 (by omega)), ldBL (u4.box b1 (by omega)), clBL (u4.box b1 (by omega)), funX_eq, if_true, if_false, Bool.false_eq_true, Bool.not_true, Bool.not_false, X46_1]
  refine ValS.go u4 hp (s100 u4.fresh _ _ _) fun k5 s5 u5 _ => ?_
  cases e5 : wI x.window 1 32 with
  | false =>
    simp (disch := omega) only [tys, bindJ_eq, logJ_eq, wp_cond, wp_guard, gd_true, gd_false, pick_eq, add_eq, sub_eq, eq_eq, ne_eq, lt_eq, le_eq, gt_eq, ge_eq, shr_eq, shl_eq, quo_eq, rem_eq, not_eq, wp_log_ret, ext0, ext1, ext2, nil_eq, get_ne, get_eq, nth_0, nth_s, cells_agg, cells_int, cells_bool, cells_slice, cells_ptr, ro_zero, one_int, one_bool, one_slice, one_ptr, arr_size, overL, Nat.zero_add, Nat.reduceAdd, Nat.add_zero, List.length_cons, List.length_nil, List.all_cons, List.all_nil, Nat.reduceLeDiff, Nat.ble_eq, Bool.and_true, Bool.not_false, Bool.and_self, decide_true, List.drop_zero, List.drop_succ_cons, List.take_succ_cons, List.take_zero, List.take_nil, true_and, and_true, Int.ofNat_eq_natCast, neg_one, Int.toNat_natCast, Int.natCast_zero, Int.natCast_one, Int.cast_ofNat_Int, List.append_nil, List.nil_append, ldB (u5.box b1 (by omega)), clB (u5.box b1 (by omega)), ldBL (u5.box b1 (by omega)), clBL (u5.box b1 (by omega)), funX_eq, if_true, if_false, Bool.false_eq_true, Bool.not_true, Bool.not_false, X46_1]
    have := hk _ _ u5
    simp only [errI, chkS, e1, e2, e3, e4, e5, Bool.true_and, Bool.false_and, Bool.and_self, Bool.false_eq_true, if_false] at this
    exact this
  | true =>
    simp (disch := omega) only [tys, bindJ_eq, logJ_eq, wp_cond, wp_guard, gd_true, gd_false, pick_eq, add_eq, sub_eq, eq_eq, ne_eq, lt_eq, le_eq, gt_eq, ge_eq, shr_eq, shl_eq, quo_eq, rem_eq, not_eq, wp_log_ret, ext0, ext1, ext2, nil_eq, get_ne, get_eq, nth_0, nth_s, cells_agg, cells_int, cells_bool, cells_slice, cells_ptr, ro_zero, one_int, one_bool, one_slice, one_ptr, arr_size, overL, Nat.zero_add, Nat.reduceAdd, Nat.add_zero, List.length_cons, List.length_nil, List.all_cons, List.all_nil, Nat.reduceLeDiff, Nat.ble_eq, Bool.and_true, Bool.not_false, Bool.and_self, decide_true, List.drop_zero, List.drop_succ_cons, List.take_succ_cons, List.take_zero, List.take_nil, true_and, and_true, Int.ofNat_eq_natCast, neg_one, Int.toNat_natCast, Int.natCast_zero, Int.natCast_one, Int.cast_ofNat_Int, List.append_nil, List.nil_append, ldB (u5.box b1 (by omega)), clB (u5.box b1 (by omega)), ldBL (u5.box b1 (by omega)), clBL (u5.box b1 (by omega)), funX_eq, if_true, if_false, Bool.false_eq_true, Bool.not_true, Bool.not_false, X46_1]
    have := hk _ _ u5
    simp only [errI, chkS, e1, e2, e3, e4, e5, Bool.and_self, if_true] at this
    exact this
end
end Go.Ev.R
namespace Go.Ev.R
open Go Go.RowKit
def shv (base : Int) (p : Option Addr) (len cap : Nat) (clean : Int) : List Value := [vi base, .slice p len cap, vi clean]
abbrev shval (base : Int) (p : Option Addr) (len cap : Nat) (clean : Int) : Value := .agg ⟨shv base p len cap clean⟩
theorem twinAny_take {l : List K3} {i : Nat} {x k : K3} (hx : l[i]? = some x) (h : twinAny (l.take i) k = false) (ht : twinK x k = false) : twinAny (l.take (i + 1)) k = false := by
  unfold twinAny at *
  rw [List.take_add_one, List.any_append, h, hx]
  simp [ht]
theorem twinAny_at {l : List K3} {i : Nat} {x k : K3} (hx : l[i]? = some x) (ht : twinK x k = true) : twinAny l k = true := by
  unfold twinAny
  rw [List.any_eq_true]
  exact ⟨x, List.mem_of_getElem? hx, ht⟩
theorem Row.fld {α : Type} {E : Enc α} {l : List α} {i j : Nat} {x : α} {v : Value} (hx : l[i]? = some x) (hj : (E.f x)[j]? = some v) : (l.flatMap E.f)[i * E.z + j]? = some v := by
  have h1 := E.flat_at l i x hx
  have hlt : j < E.z := by rw [← E.len x]; exact (List.getElem?_eq_some_iff.1 hj).1
  rw [← h1, List.getElem?_take, if_pos hlt, List.getElem?_drop] at hj
  exact hj
section
variable {h : T} {p : Option Addr} {len : Nat} {l : List K3} (r : Row EK h p len l) {i : Nat} {x : K3} (hx : l[i]? = some x) {pw : Nat → Prop} {Z : Value → T → Prop} (k : Value → Nat → AM) (j : LogT) (s : Nat)
include r hx
theorem rowA : (aload (blk p) (off p + i * 3) k s).wp pw Z h = (k (vi x.a) s).wp pw Z h := r.2.one (Row.fld (E := EK) (j := 0) hx rfl) k s
theorem rowB : (aload (blk p) (off p + i * 3 + 1) k s).wp pw Z h = (k (vi x.b) s).wp pw Z h := by
  have := r.2.one (Row.fld (E := EK) (j := 1) hx rfl) k s (pw := pw) (Z := Z)
  rw [← Nat.add_assoc] at this; exact this
theorem rowC : (aload (blk p) (off p + i * 3 + 2) k s).wp pw Z h = (k (vi x.c) s).wp pw Z h := by
  have := r.2.one (Row.fld (E := EK) (j := 2) hx rfl) k s (pw := pw) (Z := Z)
  rw [← Nat.add_assoc] at this; exact this
theorem rowAL : (AM.log (aload (blk p) (off p + i * 3) (fun v s => .ret (pk v s)) s) (logU j)).wp pw Z h = (j (vi x.a) [blk p] [] s).wp pw Z h := r.2.oneL (Row.fld (E := EK) (j := 0) hx rfl) j s
theorem rowBL : (AM.log (aload (blk p) (off p + i * 3 + 1) (fun v s => .ret (pk v s)) s) (logU j)).wp pw Z h = (j (vi x.b) [blk p] [] s).wp pw Z h := by
  have := r.2.oneL (Row.fld (E := EK) (j := 1) hx rfl) j s (pw := pw) (Z := Z)
  rw [← Nat.add_assoc] at this; exact this
theorem rowCL : (AM.log (aload (blk p) (off p + i * 3 + 2) (fun v s => .ret (pk v s)) s) (logU j)).wp pw Z h = (j (vi x.c) [blk p] [] s).wp pw Z h := by
  have := r.2.oneL (Row.fld (E := EK) (j := 2) hx rfl) j s (pw := pw) (Z := Z)
  rw [← Nat.add_assoc] at this; exact this
end
section
variable {h : T} {p : Option Addr} {len : Nat} {l : List K3} (r : Row EK h p len l) {x : K3} (hx : l[0]? = some x) {pw : Nat → Prop} {Z : Value → T → Prop} (k : Value → Nat → AM) (j : LogT) (s : Nat)
include r hx
theorem rowA0 : (aload (blk p) (off p) k s).wp pw Z h = (k (vi x.a) s).wp pw Z h := by
  have := rowA r hx (pw := pw) (Z := Z) k s
  rwa [Nat.zero_mul, Nat.add_zero] at this
theorem rowA0L : (AM.log (aload (blk p) (off p) (fun v s => .ret (pk v s)) s) (logU j)).wp pw Z h = (j (vi x.a) [blk p] [] s).wp pw Z h := by
  have := rowAL r hx (pw := pw) (Z := Z) j s
  rwa [Nat.zero_mul, Nat.add_zero] at this
theorem row30L (q : List Value → Value) : (AM.log (acells (blk p) (off p) 3 (fun l s => .ret (pk (q l) s)) s) (logU j)).wp pw Z h = (j (q (kv x)) [blk p] [] s).wp pw Z h := by
  have := row3L r hx (pw := pw) (Z := Z) q j s
  rwa [Nat.zero_mul, Nat.add_zero] at this
theorem row30 (q : List Value → Nat → AM) : (acells (blk p) (off p) 3 q s).wp pw Z h = (q (kv x) s).wp pw Z h := by
  have := row3 r hx (pw := pw) (Z := Z) q s
  rwa [Nat.zero_mul, Nat.add_zero] at this
end
section
variable {N d : Nat} (hN : 100000 ≤ N) {h : T} {s : Nat} (hf : ∀ n, s ≤ n → h.get n = none)
include hf
theorem s151 (x k : K3) {b : Nat} (hb : h.get b = some (.cells ⟨kv k⟩ 48 (0, 0))) (hbs : b < s) : ValS (D N (d + 2)) 151 [kval x, .pointer (some ⟨b, 0, none⟩)] h s (.bool (twinK x k)) := by
  refine ValS.of hf fun K pw Z g hp hk => ?_
  rw [D_151]; unfold F151; rw [app2_eq]
  refine wp_boxA g hp fun h1 g1 c1 b1 => ?_
  replace hk := fun h' s' (g' : From (s + 1) h1 h' s') => hk h' s' (g1.trans g'); replace hp := fun n (hn : s + 1 ≤ n) => hp n (by omega); have g0 := From.refl g1.fresh
  have hb1 := c1.box hb hbs
  simp only [kv] at b1 hb1
  simp (disch := omega) only [tys, bindJ_eq, logJ_eq, wp_cond, wp_guard, gd_true, gd_false, pick_eq, add_eq, sub_eq, eq_eq, ne_eq, lt_eq, le_eq, gt_eq, ge_eq, shr_eq, shl_eq, quo_eq, rem_eq, not_eq, wp_log_ret, ext0, ext1, ext2, nil_eq, get_ne, get_eq, nth_0, nth_s, cells_agg, cells_int, cells_bool, cells_slice, cells_ptr, ro_zero, one_int, one_bool, one_slice, one_ptr, arr_size, overL, Nat.zero_add, Nat.reduceAdd, Nat.add_zero, List.length_cons, List.length_nil, List.all_cons, List.all_nil, Nat.reduceLeDiff, Nat.ble_eq, Bool.and_true, Bool.not_false, Bool.and_self, decide_true, List.drop_zero, List.drop_succ_cons, List.take_succ_cons, List.take_zero, List.take_nil, true_and, and_true, Int.ofNat_eq_natCast, neg_one, Int.toNat_natCast, Int.natCast_zero, Int.natCast_one, Int.cast_ofNat_Int, List.append_nil, List.nil_append, ldB b1, clB b1, ldBL b1, clBL b1, ldB hb1, clB hb1, ldBL hb1, clBL hb1, funX_eq, if_true, if_false, Bool.false_eq_true, Bool.not_true, Bool.not_false]
  exact ValS.go g0 hp (s32 g0.fresh x k) fun h2 s2 u2 _ => hk _ _ u2
include hN
theorem s172 {p : Option Addr} {len cap : Nat} {l : List K3} (r : Row EK h p len l) (hl : len ≤ 10000) (k : K3) {b : Nat} (hb : h.get b = some (.cells ⟨kv k⟩ 48 (0, 0))) (hbs : b < s) :
    PureS (D N (d + 3)) 172 [.slice p len cap, .func (.func 151) ⟨[]⟩ ⟨[.pointer (some ⟨b, 0, none⟩)]⟩] h s (fun v _ _ => ∃ n : Int, v = vi n ∧ decide (0 ≤ n) = twinAny l k) := by
  refine PureS.of hf fun K pw Z g hp hk => ?_
  rw [D_172]; unfold F172; rw [app2_eq]
  simp (disch := omega) only [tys, bindJ_eq, logJ_eq, wp_cond, wp_guard, gd_true, gd_false, pick_eq, add_eq, sub_eq, eq_eq, ne_eq, lt_eq, le_eq, gt_eq, ge_eq, shr_eq, shl_eq, quo_eq, rem_eq, not_eq, wp_log_ret, ext0, ext1, ext2, nil_eq, get_ne, get_eq, nth_0, nth_s, cells_agg, cells_int, cells_bool, cells_slice, cells_ptr, ro_zero, one_int, one_bool, one_slice, one_ptr, arr_size, overL, Nat.zero_add, Nat.reduceAdd, Nat.add_zero, List.length_cons, List.length_nil, List.all_cons, List.all_nil, Nat.reduceLeDiff, Nat.ble_eq, Bool.and_true, Bool.not_false, Bool.and_self, decide_true, List.drop_zero, List.drop_succ_cons, List.take_succ_cons, List.take_zero, List.take_nil, true_and, and_true, Int.ofNat_eq_natCast, neg_one, Int.toNat_natCast, Int.natCast_zero, Int.natCast_one, Int.cast_ofNat_Int, List.append_nil, List.nil_append, funX_eq, if_true, if_false, Bool.false_eq_true, Bool.not_true, Bool.not_false]
  have loop : ∀ (B : (Value → Value → Nat → AM) → Value → Value → Nat → AM) (hB : ∀ H u i s, B H u i s = X172_1 N (D N (d + 2)) K (vi len) (.slice p len cap) (.func (.func 151) ⟨[]⟩ ⟨[.pointer (some ⟨b, 0, none⟩)]⟩) (fun s => K (vi (-1)) s) H u i s) (m i : Nat) (u : Value) (h1 : T) (s1 : Nat), len - i < m → i ≤ len → twinAny (l.take i) k = false → From s h h1 s1 →
      (loopJ m 2 (fun _ _ _ => AM.fail) B u (vi i) s1).wp pw Z h1 := by
    intro B hB m
    induction m with
    | zero => intro i u h1 s1 hm; omega
    | succ m ih =>
      intro i u h1 s1 hm hil ht g1
      have r1 := g1.row hf r
      rw [loopJ_succ, hB]
      unfold X172_1
      by_cases hlt : i < len
      · obtain ⟨x, hx⟩ := get_some (l := l) (i := i) (by rw [r.1]; omega)
        simp (disch := omega) only [tys, bindJ_eq, logJ_eq, wp_cond, wp_guard, gd_true, gd_false, pick_eq, add_eq, sub_eq, eq_eq, ne_eq, lt_eq, le_eq, gt_eq, ge_eq, shr_eq, shl_eq, quo_eq, rem_eq, not_eq, wp_log_ret, ext0, ext1, ext2, nil_eq, get_ne, get_eq, nth_0, nth_s, cells_agg, cells_int, cells_bool, cells_slice, cells_ptr, ro_zero, one_int, one_bool, one_slice, one_ptr, arr_size, overL, Nat.zero_add, Nat.reduceAdd, Nat.add_zero, List.length_cons, List.length_nil, List.all_cons, List.all_nil, Nat.reduceLeDiff, Nat.ble_eq, Bool.and_true, Bool.not_false, Bool.and_self, decide_true, List.drop_zero, List.drop_succ_cons, List.take_succ_cons, List.take_zero, List.take_nil, true_and, and_true, Int.ofNat_eq_natCast, neg_one, Int.toNat_natCast, Int.natCast_zero, Int.natCast_one, Int.cast_ofNat_Int, List.append_nil, List.nil_append, funX_eq, if_true, if_false, Bool.false_eq_true, Bool.not_true, Bool.not_false, show (i : Int) < (len : Int) by omega, xa3 r1 (j := (i : Int)) (by omega) (by omega), row3 r1 hx, iv_151, List.cons_append]
        refine ValS.go g1 hp (s151 g1.fresh x k (g1.box hb hbs) (by have := g1.le; omega)) fun h2 s2 g2 _ => ?_
        cases e : twinK x k with
        | true =>
          simp (disch := omega) only [tys, bindJ_eq, logJ_eq, wp_cond, wp_guard, gd_true, gd_false, pick_eq, add_eq, sub_eq, eq_eq, ne_eq, lt_eq, le_eq, gt_eq, ge_eq, shr_eq, shl_eq, quo_eq, rem_eq, not_eq, wp_log_ret, ext0, ext1, ext2, nil_eq, get_ne, get_eq, nth_0, nth_s, cells_agg, cells_int, cells_bool, cells_slice, cells_ptr, ro_zero, one_int, one_bool, one_slice, one_ptr, arr_size, overL, Nat.zero_add, Nat.reduceAdd, Nat.add_zero, List.length_cons, List.length_nil, List.all_cons, List.all_nil, Nat.reduceLeDiff, Nat.ble_eq, Bool.and_true, Bool.not_false, Bool.and_self, decide_true, List.drop_zero, List.drop_succ_cons, List.take_succ_cons, List.take_zero, List.take_nil, true_and, and_true, Int.ofNat_eq_natCast, neg_one, Int.toNat_natCast, Int.natCast_zero, Int.natCast_one, Int.cast_ofNat_Int, List.append_nil, List.nil_append, funX_eq, if_true, if_false, Bool.false_eq_true, Bool.not_true, Bool.not_false]
          exact hk _ _ _ g2 ⟨(i : Int), rfl, by rw [twinAny_at hx e]; simp⟩
        | false =>
          simp (disch := omega) only [tys, bindJ_eq, logJ_eq, wp_cond, wp_guard, gd_true, gd_false, pick_eq, add_eq, sub_eq, eq_eq, ne_eq, lt_eq, le_eq, gt_eq, ge_eq, shr_eq, shl_eq, quo_eq, rem_eq, not_eq, wp_log_ret, ext0, ext1, ext2, nil_eq, get_ne, get_eq, nth_0, nth_s, cells_agg, cells_int, cells_bool, cells_slice, cells_ptr, ro_zero, one_int, one_bool, one_slice, one_ptr, arr_size, overL, Nat.zero_add, Nat.reduceAdd, Nat.add_zero, List.length_cons, List.length_nil, List.all_cons, List.all_nil, Nat.reduceLeDiff, Nat.ble_eq, Bool.and_true, Bool.not_false, Bool.and_self, decide_true, List.drop_zero, List.drop_succ_cons, List.take_succ_cons, List.take_zero, List.take_nil, true_and, and_true, Int.ofNat_eq_natCast, neg_one, Int.toNat_natCast, Int.natCast_zero, Int.natCast_one, Int.cast_ofNat_Int, List.append_nil, List.nil_append, funX_eq, if_true, if_false, Bool.false_eq_true, Bool.not_true, Bool.not_false, wrapS (i := i) (by omega)]
          exact ih (i + 1) u h2 s2 (by omega) (by omega) (twinAny_take hx ht e) g2
      · obtain rfl : i = len := by omega
        simp (disch := omega) only [tys, bindJ_eq, logJ_eq, wp_cond, wp_guard, gd_true, gd_false, pick_eq, add_eq, sub_eq, eq_eq, ne_eq, lt_eq, le_eq, gt_eq, ge_eq, shr_eq, shl_eq, quo_eq, rem_eq, not_eq, wp_log_ret, ext0, ext1, ext2, nil_eq, get_ne, get_eq, nth_0, nth_s, cells_agg, cells_int, cells_bool, cells_slice, cells_ptr, ro_zero, one_int, one_bool, one_slice, one_ptr, arr_size, overL, Nat.zero_add, Nat.reduceAdd, Nat.add_zero, List.length_cons, List.length_nil, List.all_cons, List.all_nil, Nat.reduceLeDiff, Nat.ble_eq, Bool.and_true, Bool.not_false, Bool.and_self, decide_true, List.drop_zero, List.drop_succ_cons, List.take_succ_cons, List.take_zero, List.take_nil, true_and, and_true, Int.ofNat_eq_natCast, neg_one, Int.toNat_natCast, Int.natCast_zero, Int.natCast_one, Int.cast_ofNat_Int, List.append_nil, List.nil_append, funX_eq, if_true, if_false, Bool.false_eq_true, Bool.not_true, Bool.not_false, Int.lt_irrefl, decide_false]
        rw [List.take_of_length_le (by rw [r.1]; exact Nat.le_refl _)] at ht
        exact hk _ _ _ g1 ⟨-1, rfl, by rw [ht]; rfl⟩
  exact loop _ (fun _ _ _ _ => rfl) N 0 _ h s (by omega) (by omega) rfl g
theorem s102 {p : Option Addr} {len cap : Nat} {l : List K3} (r : Row EK h p len l) (hl : len ≤ 10000) (k : K3) : ValS (D N (d + 5)) 102 [.slice p len cap, kval k] h s (.bool (twinAny l k)) := by
  refine ValS.of hf fun K pw Z g hp hk => ?_
  rw [D_102]; unfold F102; rw [app2_eq]
  refine wp_boxA g hp fun h1 g1 c1 b1 => ?_
  replace hk := fun h' s' (g' : From (s + 1) h1 h' s') => hk h' s' (g1.trans g'); replace hp := fun n (hn : s + 1 ≤ n) => hp n (by omega); have g0 := From.refl g1.fresh
  simp (disch := omega) only [tys, bindJ_eq, logJ_eq, wp_cond, wp_guard, gd_true, gd_false, pick_eq, add_eq, sub_eq, eq_eq, ne_eq, lt_eq, le_eq, gt_eq, ge_eq, shr_eq, shl_eq, quo_eq, rem_eq, not_eq, wp_log_ret, ext0, ext1, ext2, nil_eq, get_ne, get_eq, nth_0, nth_s, cells_agg, cells_int, cells_bool, cells_slice, cells_ptr, ro_zero, one_int, one_bool, one_slice, one_ptr, arr_size, overL, Nat.zero_add, Nat.reduceAdd, Nat.add_zero, List.length_cons, List.length_nil, List.all_cons, List.all_nil, Nat.reduceLeDiff, Nat.ble_eq, Bool.and_true, Bool.not_false, Bool.and_self, decide_true, List.drop_zero, List.drop_succ_cons, List.take_succ_cons, List.take_zero, List.take_nil, true_and, and_true, Int.ofNat_eq_natCast, neg_one, Int.toNat_natCast, Int.natCast_zero, Int.natCast_one, Int.cast_ofNat_Int, List.append_nil, List.nil_append, funX_eq, if_true, if_false, Bool.false_eq_true, Bool.not_true, Bool.not_false, D_150, F150, app2_eq]
  refine PureS.go g0 hp (s172 hN g0.fresh (g1.row hf r) hl k b1 (by omega)) fun v h2 s2 g2 _ hv => ?_
  obtain ⟨n, rfl, hn⟩ := hv
  simp (disch := omega) only [tys, bindJ_eq, logJ_eq, wp_cond, wp_guard, gd_true, gd_false, pick_eq, add_eq, sub_eq, eq_eq, ne_eq, lt_eq, le_eq, gt_eq, ge_eq, shr_eq, shl_eq, quo_eq, rem_eq, not_eq, wp_log_ret, ext0, ext1, ext2, nil_eq, get_ne, get_eq, nth_0, nth_s, cells_agg, cells_int, cells_bool, cells_slice, cells_ptr, ro_zero, one_int, one_bool, one_slice, one_ptr, arr_size, overL, Nat.zero_add, Nat.reduceAdd, Nat.add_zero, List.length_cons, List.length_nil, List.all_cons, List.all_nil, Nat.reduceLeDiff, Nat.ble_eq, Bool.and_true, Bool.not_false, Bool.and_self, decide_true, List.drop_zero, List.drop_succ_cons, List.take_succ_cons, List.take_zero, List.take_nil, true_and, and_true, Int.ofNat_eq_natCast, neg_one, Int.toNat_natCast, Int.natCast_zero, Int.natCast_one, Int.cast_ofNat_Int, List.append_nil, List.nil_append, funX_eq, if_true, if_false, Bool.false_eq_true, Bool.not_true, Bool.not_false]
  rw [hn]
  exact hk _ _ g2
omit hN
end
end Go.Ev.R
namespace Go.Ev.R
open Go Go.RowKit
theorem good_step {base : Int} {l : List K3} {i : Nat} {x : K3} (hx : l[i]? = some x) : goodFrom base l i ↔ (wI x.a base maxT = true ∧ twinAny (l.take i) x = false) ∧ goodFrom base l (i + 1) := by
  constructor
  · exact fun h => ⟨h i x (Nat.le_refl _) hx, fun j k hj hk => h j k (by omega) hk⟩
  · rintro ⟨h1, h2⟩ j k hj hk
    rcases Nat.lt_or_ge i j with h3 | h3
    · exact h2 j k h3 hk
    · obtain rfl : i = j := by omega
      rw [hx] at hk; cases hk; exact h1
theorem good_end (base : Int) (l : List K3) : goodFrom base l l.length := fun j k hj hk => by
  have := (List.getElem?_eq_some_iff.1 hk).1
  omega
theorem xa30 {h : T} {p : Option Addr} {len : Nat} {l : List K3} (r : Row EK h p len l) (hl : 0 < len) (cap : Nat) (k : Value → Nat → AM) (s : Nat) :
    M.opt (aindexAt P 44 (.slice p len cap) (i64 0)) k s = k (.pointer (some ⟨blk p, off p + 0 * 3, none⟩)) s := xa3 r (j := ((0 : Nat) : Int)) (by omega) (by omega) cap .i64 k s
section
variable {N d : Nat} (hN : 100000 ≤ N) {h : T} {s : Nat} (hf : ∀ n, s ≤ n → h.get n = none)
include hN hf
theorem s31 (x : SU) (base clean : Int) {p : Option Addr} {len cap : Nat} {l : List K3} (r : Sl EK h p len cap l) (hl : len ≤ 10000) : ValS (D N (d + 6)) 31 [suval x, shval base p len cap clean] h s (vi (errI (fitsK x base clean l))) := by
  refine ValS.of hf fun K pw Z g hp hk => ?_
  rw [D_31]; unfold F31; rw [app2_eq]
  refine wp_boxA g hp fun h1 g1 c1 b1 => ?_
  refine wp_boxA g1 hp fun h2 g2 c2 b2 => ?_
  replace hk := fun h' s' (g' : From (s + 1 + 1) h2 h' s') => hk h' s' (g2.trans g'); replace hp := fun n (hn : s + 1 + 1 ≤ n) => hp n (by omega); have g0 := From.refl g2.fresh
  replace b1 := c2.box b1 (by omega)
  have r0 := r.from hf g2
  simp only [suv, shv] at b1 b2
  have hlen := r.row.1
  have bad : ∀ h' s', From (s + 1 + 1) h2 h' s' → fitsK x base clean l = false → (K (i64 2) s').wp pw Z h' := fun h' s' g' e => by
    have := hk _ _ g'
    simp only [errI, e, Bool.false_eq_true, if_false] at this
    exact this
  have fin : ∀ h' s', From (s + 1 + 1) h2 h' s' → fitsK x base clean l = true → (K (i64 0) s').wp pw Z h' := fun h' s' g' e => by
    have := hk _ _ g'
    simp only [errI, e, if_true] at this
    exact this
  simp (disch := omega) only [tys, bindJ_eq, logJ_eq, wp_cond, wp_guard, gd_true, gd_false, pick_eq, add_eq, sub_eq, eq_eq, ne_eq, lt_eq, le_eq, gt_eq, ge_eq, shr_eq, shl_eq, quo_eq, rem_eq, not_eq, wp_log_ret, ext0, ext1, ext2, nil_eq, get_ne, get_eq, nth_0, nth_s, cells_agg, cells_int, cells_bool, cells_slice, cells_ptr, ro_zero, one_int, one_bool, one_slice, one_ptr, arr_size, overL, Nat.zero_add, Nat.reduceAdd, Nat.add_zero, List.length_cons, List.length_nil, List.all_cons, List.all_nil, Nat.reduceLeDiff, Nat.ble_eq, Bool.and_true, Bool.not_false, Bool.and_self, decide_true, List.drop_zero, List.drop_succ_cons, List.take_succ_cons, List.take_zero, List.take_nil, true_and, and_true, Int.ofNat_eq_natCast, neg_one, Int.toNat_natCast, Int.natCast_zero, Int.natCast_one, Int.cast_ofNat_Int, List.append_nil, List.nil_append, ldB b1, clB b1, ldBL b1, clBL b1, ldB b2, clB b2, ldBL b2, clBL b2, funX_eq, if_true, if_false, Bool.false_eq_true, Bool.not_true, Bool.not_false]
  refine ValS.go g0 hp (s46 g0.fresh x) fun k1 s1 u1 _ => ?_
  cases e1 : chkS x with
  | false =>
    simp (disch := omega) only [tys, bindJ_eq, logJ_eq, wp_cond, wp_guard, gd_true, gd_false, pick_eq, add_eq, sub_eq, eq_eq, ne_eq, lt_eq, le_eq, gt_eq, ge_eq, shr_eq, shl_eq, quo_eq, rem_eq, not_eq, wp_log_ret, ext0, ext1, ext2, nil_eq, get_ne, get_eq, nth_0, nth_s, cells_agg, cells_int, cells_bool, cells_slice, cells_ptr, ro_zero, one_int, one_bool, one_slice, one_ptr, arr_size, overL, Nat.zero_add, Nat.reduceAdd, Nat.add_zero, List.length_cons, List.length_nil, List.all_cons, List.all_nil, Nat.reduceLeDiff, Nat.ble_eq, Bool.and_true, Bool.not_false, Bool.and_self, decide_true, List.drop_zero, List.drop_succ_cons, List.take_succ_cons, List.take_zero, List.take_nil, true_and, and_true, Int.ofNat_eq_natCast, neg_one, Int.toNat_natCast, Int.natCast_zero, Int.natCast_one, Int.cast_ofNat_Int, List.append_nil, List.nil_append, funX_eq, if_true, if_false, Bool.false_eq_true, Bool.not_true, Bool.not_false, errI, X31_6, X31_5]
    exact bad _ _ u1 (by simp only [fitsK, e1, Bool.false_and])
  | true =>
  simp (disch := omega) only [tys, bindJ_eq, logJ_eq, wp_cond, wp_guard, gd_true, gd_false, pick_eq, add_eq, sub_eq, eq_eq, ne_eq, lt_eq, le_eq, gt_eq, ge_eq, shr_eq, shl_eq, quo_eq, rem_eq, not_eq, wp_log_ret, ext0, ext1, ext2, nil_eq, get_ne, get_eq, nth_0, nth_s, cells_agg, cells_int, cells_bool, cells_slice, cells_ptr, ro_zero, one_int, one_bool, one_slice, one_ptr, arr_size, overL, Nat.zero_add, Nat.reduceAdd, Nat.add_zero, List.length_cons, List.length_nil, List.all_cons, List.all_nil, Nat.reduceLeDiff, Nat.ble_eq, Bool.and_true, Bool.not_false, Bool.and_self, decide_true, List.drop_zero, List.drop_succ_cons, List.take_succ_cons, List.take_zero, List.take_nil, true_and, and_true, Int.ofNat_eq_natCast, neg_one, Int.toNat_natCast, Int.natCast_zero, Int.natCast_one, Int.cast_ofNat_Int, List.append_nil, List.nil_append, ldB (u1.box b1 (by omega)), clB (u1.box b1 (by omega)), ldBL (u1.box b1 (by omega)), clBL (u1.box b1 (by omega)), ldB (u1.box b2 (by omega)), clB (u1.box b2 (by omega)), ldBL (u1.box b2 (by omega)), clBL (u1.box b2 (by omega)), funX_eq, if_true, if_false, Bool.false_eq_true, Bool.not_true, Bool.not_false, errI]
  refine ValS.go u1 hp (s100 u1.fresh _ _ _) fun k2 s2 u2 _ => ?_
  cases e2 : wI base 0 1099511627776 with
  | false =>
    simp (disch := omega) only [tys, bindJ_eq, logJ_eq, wp_cond, wp_guard, gd_true, gd_false, pick_eq, add_eq, sub_eq, eq_eq, ne_eq, lt_eq, le_eq, gt_eq, ge_eq, shr_eq, shl_eq, quo_eq, rem_eq, not_eq, wp_log_ret, ext0, ext1, ext2, nil_eq, get_ne, get_eq, nth_0, nth_s, cells_agg, cells_int, cells_bool, cells_slice, cells_ptr, ro_zero, one_int, one_bool, one_slice, one_ptr, arr_size, overL, Nat.zero_add, Nat.reduceAdd, Nat.add_zero, List.length_cons, List.length_nil, List.all_cons, List.all_nil, Nat.reduceLeDiff, Nat.ble_eq, Bool.and_true, Bool.not_false, Bool.and_self, decide_true, List.drop_zero, List.drop_succ_cons, List.take_succ_cons, List.take_zero, List.take_nil, true_and, and_true, Int.ofNat_eq_natCast, neg_one, Int.toNat_natCast, Int.natCast_zero, Int.natCast_one, Int.cast_ofNat_Int, List.append_nil, List.nil_append, funX_eq, if_true, if_false, Bool.false_eq_true, Bool.not_true, Bool.not_false, X31_6, X31_5]
    exact bad _ _ u2 (by simp only [fitsK, maxT, e1, e2, Bool.false_and, Bool.and_false])
  | true =>
  simp (disch := omega) only [tys, bindJ_eq, logJ_eq, wp_cond, wp_guard, gd_true, gd_false, pick_eq, add_eq, sub_eq, eq_eq, ne_eq, lt_eq, le_eq, gt_eq, ge_eq, shr_eq, shl_eq, quo_eq, rem_eq, not_eq, wp_log_ret, ext0, ext1, ext2, nil_eq, get_ne, get_eq, nth_0, nth_s, cells_agg, cells_int, cells_bool, cells_slice, cells_ptr, ro_zero, one_int, one_bool, one_slice, one_ptr, arr_size, overL, Nat.zero_add, Nat.reduceAdd, Nat.add_zero, List.length_cons, List.length_nil, List.all_cons, List.all_nil, Nat.reduceLeDiff, Nat.ble_eq, Bool.and_true, Bool.not_false, Bool.and_self, decide_true, List.drop_zero, List.drop_succ_cons, List.take_succ_cons, List.take_zero, List.take_nil, true_and, and_true, Int.ofNat_eq_natCast, neg_one, Int.toNat_natCast, Int.natCast_zero, Int.natCast_one, Int.cast_ofNat_Int, List.append_nil, List.nil_append, ldB (u2.box b1 (by omega)), clB (u2.box b1 (by omega)), ldBL (u2.box b1 (by omega)), clBL (u2.box b1 (by omega)), ldB (u2.box b2 (by omega)), clB (u2.box b2 (by omega)), ldBL (u2.box b2 (by omega)), clBL (u2.box b2 (by omega)), funX_eq, if_true, if_false, Bool.false_eq_true, Bool.not_true, Bool.not_false, X31_6]
  by_cases e3 : (len : Int) ≤ x.keep
  case neg =>
    simp (disch := omega) only [tys, bindJ_eq, logJ_eq, wp_cond, wp_guard, gd_true, gd_false, pick_eq, add_eq, sub_eq, eq_eq, ne_eq, lt_eq, le_eq, gt_eq, ge_eq, shr_eq, shl_eq, quo_eq, rem_eq, not_eq, wp_log_ret, ext0, ext1, ext2, nil_eq, get_ne, get_eq, nth_0, nth_s, cells_agg, cells_int, cells_bool, cells_slice, cells_ptr, ro_zero, one_int, one_bool, one_slice, one_ptr, arr_size, overL, Nat.zero_add, Nat.reduceAdd, Nat.add_zero, List.length_cons, List.length_nil, List.all_cons, List.all_nil, Nat.reduceLeDiff, Nat.ble_eq, Bool.and_true, Bool.not_false, Bool.and_self, decide_true, List.drop_zero, List.drop_succ_cons, List.take_succ_cons, List.take_zero, List.take_nil, true_and, and_true, Int.ofNat_eq_natCast, neg_one, Int.toNat_natCast, Int.natCast_zero, Int.natCast_one, Int.cast_ofNat_Int, List.append_nil, List.nil_append, ldB (u2.box b1 (by omega)), clB (u2.box b1 (by omega)), ldBL (u2.box b1 (by omega)), clBL (u2.box b1 (by omega)), ldB (u2.box b2 (by omega)), clB (u2.box b2 (by omega)), ldBL (u2.box b2 (by omega)), clBL (u2.box b2 (by omega)), funX_eq, if_true, if_false, Bool.false_eq_true, Bool.not_true, Bool.not_false, show x.keep < (len : Int) by omega, X31_5]
    exact bad _ _ u2 (by simp only [fitsK, hlen, e1, e2, e3, decide_false, Bool.false_and, Bool.and_false])
  simp (disch := omega) only [tys, bindJ_eq, logJ_eq, wp_cond, wp_guard, gd_true, gd_false, pick_eq, add_eq, sub_eq, eq_eq, ne_eq, lt_eq, le_eq, gt_eq, ge_eq, shr_eq, shl_eq, quo_eq, rem_eq, not_eq, wp_log_ret, ext0, ext1, ext2, nil_eq, get_ne, get_eq, nth_0, nth_s, cells_agg, cells_int, cells_bool, cells_slice, cells_ptr, ro_zero, one_int, one_bool, one_slice, one_ptr, arr_size, overL, Nat.zero_add, Nat.reduceAdd, Nat.add_zero, List.length_cons, List.length_nil, List.all_cons, List.all_nil, Nat.reduceLeDiff, Nat.ble_eq, Bool.and_true, Bool.not_false, Bool.and_self, decide_true, List.drop_zero, List.drop_succ_cons, List.take_succ_cons, List.take_zero, List.take_nil, true_and, and_true, Int.ofNat_eq_natCast, neg_one, Int.toNat_natCast, Int.natCast_zero, Int.natCast_one, Int.cast_ofNat_Int, List.append_nil, List.nil_append, ldB (u2.box b1 (by omega)), clB (u2.box b1 (by omega)), ldBL (u2.box b1 (by omega)), clBL (u2.box b1 (by omega)), ldB (u2.box b2 (by omega)), clB (u2.box b2 (by omega)), ldBL (u2.box b2 (by omega)), clBL (u2.box b2 (by omega)), funX_eq, if_true, if_false, Bool.false_eq_true, Bool.not_true, Bool.not_false, show ¬ x.keep < (len : Int) by omega, decide_false]
  refine ValS.go u2 hp (s106 (d := d) hN u2.fresh (r0.from g0.fresh u2).row hl r.emp) fun k3 s3 u3 _ => ?_
  cases e4 : risingK l with
  | false =>
    simp (disch := omega) only [tys, bindJ_eq, logJ_eq, wp_cond, wp_guard, gd_true, gd_false, pick_eq, add_eq, sub_eq, eq_eq, ne_eq, lt_eq, le_eq, gt_eq, ge_eq, shr_eq, shl_eq, quo_eq, rem_eq, not_eq, wp_log_ret, ext0, ext1, ext2, nil_eq, get_ne, get_eq, nth_0, nth_s, cells_agg, cells_int, cells_bool, cells_slice, cells_ptr, ro_zero, one_int, one_bool, one_slice, one_ptr, arr_size, overL, Nat.zero_add, Nat.reduceAdd, Nat.add_zero, List.length_cons, List.length_nil, List.all_cons, List.all_nil, Nat.reduceLeDiff, Nat.ble_eq, Bool.and_true, Bool.not_false, Bool.and_self, decide_true, List.drop_zero, List.drop_succ_cons, List.take_succ_cons, List.take_zero, List.take_nil, true_and, and_true, Int.ofNat_eq_natCast, neg_one, Int.toNat_natCast, Int.natCast_zero, Int.natCast_one, Int.cast_ofNat_Int, List.append_nil, List.nil_append, funX_eq, if_true, if_false, Bool.false_eq_true, Bool.not_true, Bool.not_false, X31_5]
    exact bad _ _ u3 (by simp only [fitsK, e4, Bool.false_and, Bool.and_false])
  | true =>
  simp (disch := omega) only [tys, bindJ_eq, logJ_eq, wp_cond, wp_guard, gd_true, gd_false, pick_eq, add_eq, sub_eq, eq_eq, ne_eq, lt_eq, le_eq, gt_eq, ge_eq, shr_eq, shl_eq, quo_eq, rem_eq, not_eq, wp_log_ret, ext0, ext1, ext2, nil_eq, get_ne, get_eq, nth_0, nth_s, cells_agg, cells_int, cells_bool, cells_slice, cells_ptr, ro_zero, one_int, one_bool, one_slice, one_ptr, arr_size, overL, Nat.zero_add, Nat.reduceAdd, Nat.add_zero, List.length_cons, List.length_nil, List.all_cons, List.all_nil, Nat.reduceLeDiff, Nat.ble_eq, Bool.and_true, Bool.not_false, Bool.and_self, decide_true, List.drop_zero, List.drop_succ_cons, List.take_succ_cons, List.take_zero, List.take_nil, true_and, and_true, Int.ofNat_eq_natCast, neg_one, Int.toNat_natCast, Int.natCast_zero, Int.natCast_one, Int.cast_ofNat_Int, List.append_nil, List.nil_append, ldB (u3.box b1 (by omega)), clB (u3.box b1 (by omega)), ldBL (u3.box b1 (by omega)), clBL (u3.box b1 (by omega)), ldB (u3.box b2 (by omega)), clB (u3.box b2 (by omega)), ldBL (u3.box b2 (by omega)), clBL (u3.box b2 (by omega)), funX_eq, if_true, if_false, Bool.false_eq_true, Bool.not_true, Bool.not_false, X31_5]
  refine ValS.go u3 hp (s100 u3.fresh _ _ _) fun k4 s4 u4 _ => ?_
  cases e5 : wI clean 0 (len : Int) with
  | false =>
    simp (disch := omega) only [tys, bindJ_eq, logJ_eq, wp_cond, wp_guard, gd_true, gd_false, pick_eq, add_eq, sub_eq, eq_eq, ne_eq, lt_eq, le_eq, gt_eq, ge_eq, shr_eq, shl_eq, quo_eq, rem_eq, not_eq, wp_log_ret, ext0, ext1, ext2, nil_eq, get_ne, get_eq, nth_0, nth_s, cells_agg, cells_int, cells_bool, cells_slice, cells_ptr, ro_zero, one_int, one_bool, one_slice, one_ptr, arr_size, overL, Nat.zero_add, Nat.reduceAdd, Nat.add_zero, List.length_cons, List.length_nil, List.all_cons, List.all_nil, Nat.reduceLeDiff, Nat.ble_eq, Bool.and_true, Bool.not_false, Bool.and_self, decide_true, List.drop_zero, List.drop_succ_cons, List.take_succ_cons, List.take_zero, List.take_nil, true_and, and_true, Int.ofNat_eq_natCast, neg_one, Int.toNat_natCast, Int.natCast_zero, Int.natCast_one, Int.cast_ofNat_Int, List.append_nil, List.nil_append, funX_eq, if_true, if_false, Bool.false_eq_true, Bool.not_true, Bool.not_false]
    exact bad _ _ u4 (by simp only [fitsK, hlen, e5, Bool.false_and, Bool.and_false])
  | true =>
  simp (disch := omega) only [tys, bindJ_eq, logJ_eq, wp_cond, wp_guard, gd_true, gd_false, pick_eq, add_eq, sub_eq, eq_eq, ne_eq, lt_eq, le_eq, gt_eq, ge_eq, shr_eq, shl_eq, quo_eq, rem_eq, not_eq, wp_log_ret, ext0, ext1, ext2, nil_eq, get_ne, get_eq, nth_0, nth_s, cells_agg, cells_int, cells_bool, cells_slice, cells_ptr, ro_zero, one_int, one_bool, one_slice, one_ptr, arr_size, overL, Nat.zero_add, Nat.reduceAdd, Nat.add_zero, List.length_cons, List.length_nil, List.all_cons, List.all_nil, Nat.reduceLeDiff, Nat.ble_eq, Bool.and_true, Bool.not_false, Bool.and_self, decide_true, List.drop_zero, List.drop_succ_cons, List.take_succ_cons, List.take_zero, List.take_nil, true_and, and_true, Int.ofNat_eq_natCast, neg_one, Int.toNat_natCast, Int.natCast_zero, Int.natCast_one, Int.cast_ofNat_Int, List.append_nil, List.nil_append, ldB (u4.box b1 (by omega)), clB (u4.box b1 (by omega)), ldBL (u4.box b1 (by omega)), clBL (u4.box b1 (by omega)), ldB (u4.box b2 (by omega)), clB (u4.box b2 (by omega)), ldBL (u4.box b2 (by omega)), clBL (u4.box b2 (by omega)), funX_eq, if_true, if_false, Bool.false_eq_true, Bool.not_true, Bool.not_false]
  have e0 : fitsK x base clean l = decide (goodFrom base l 0) := by
    simp only [fitsK, maxT, hlen, e1, e2, e3, e4, e5, decide_true, Bool.true_and]
  have loop : ∀ (B : (Value → Value → Nat → AM) → Value → Value → Nat → AM) (hB : ∀ H u i s', B H u i s' = X31_4 N (D N (d + 5)) K (vi len) (.slice p len cap) (.pointer (some ⟨s + 1, 0, none⟩)) (fun s => K (i64 0) s) H u i s') (m i : Nat) (u : Value) (h1 : T) (s1 : Nat), len - i < m → i ≤ len → (goodFrom base l 0 ↔ goodFrom base l i) → From (s + 1 + 1) h2 h1 s1 →
      (loopJ m 2 (fun _ _ _ => AM.fail) B u (vi i) s1).wp pw Z h1 := by
    intro B hB m
    induction m with
    | zero => intro i u h1 s1 hm; omega
    | succ m ih =>
      intro i u h1 s1 hm hil hgi g1
      have r1 := r0.from g0.fresh g1
      rw [loopJ_succ, hB]
      unfold X31_4
      by_cases hlt : i < len
      · obtain ⟨y, hy⟩ := get_some (l := l) (i := i) (by omega)
        simp (disch := omega) only [tys, bindJ_eq, logJ_eq, wp_cond, wp_guard, gd_true, gd_false, pick_eq, add_eq, sub_eq, eq_eq, ne_eq, lt_eq, le_eq, gt_eq, ge_eq, shr_eq, shl_eq, quo_eq, rem_eq, not_eq, wp_log_ret, ext0, ext1, ext2, nil_eq, get_ne, get_eq, nth_0, nth_s, cells_agg, cells_int, cells_bool, cells_slice, cells_ptr, ro_zero, one_int, one_bool, one_slice, one_ptr, arr_size, overL, Nat.zero_add, Nat.reduceAdd, Nat.add_zero, List.length_cons, List.length_nil, List.all_cons, List.all_nil, Nat.reduceLeDiff, Nat.ble_eq, Bool.and_true, Bool.not_false, Bool.and_self, decide_true, List.drop_zero, List.drop_succ_cons, List.take_succ_cons, List.take_zero, List.take_nil, true_and, and_true, Int.ofNat_eq_natCast, neg_one, Int.toNat_natCast, Int.natCast_zero, Int.natCast_one, Int.cast_ofNat_Int, List.append_nil, List.nil_append, funX_eq, if_true, if_false, Bool.false_eq_true, Bool.not_true, Bool.not_false, show (i : Int) < (len : Int) by omega, xa3 r1.row (j := (i : Int)) (by omega) (by omega), row3 r1.row hy]
        refine wp_boxA g1 hp fun h3 g3 c3 b3 => ?_
        simp only [kv]
        simp (disch := omega) only [tys, bindJ_eq, logJ_eq, wp_cond, wp_guard, gd_true, gd_false, pick_eq, add_eq, sub_eq, eq_eq, ne_eq, lt_eq, le_eq, gt_eq, ge_eq, shr_eq, shl_eq, quo_eq, rem_eq, not_eq, wp_log_ret, ext0, ext1, ext2, nil_eq, get_ne, get_eq, nth_0, nth_s, cells_agg, cells_int, cells_bool, cells_slice, cells_ptr, ro_zero, one_int, one_bool, one_slice, one_ptr, arr_size, overL, Nat.zero_add, Nat.reduceAdd, Nat.add_zero, List.length_cons, List.length_nil, List.all_cons, List.all_nil, Nat.reduceLeDiff, Nat.ble_eq, Bool.and_true, Bool.not_false, Bool.and_self, decide_true, List.drop_zero, List.drop_succ_cons, List.take_succ_cons, List.take_zero, List.take_nil, true_and, and_true, Int.ofNat_eq_natCast, neg_one, Int.toNat_natCast, Int.natCast_zero, Int.natCast_one, Int.cast_ofNat_Int, List.append_nil, List.nil_append, funX_eq, if_true, if_false, Bool.false_eq_true, Bool.not_true, Bool.not_false]
        refine wp_putF g3 hp b3 g1.le (by simp) rfl fun h4 g4 b4 _ => ?_
        have b4 : h4.get s1 = some (.cells ⟨kv y⟩ 48 (0, 0)) := b4
        have b4' := b4
        simp only [kv] at b4'
        simp (disch := omega) only [tys, bindJ_eq, logJ_eq, wp_cond, wp_guard, gd_true, gd_false, pick_eq, add_eq, sub_eq, eq_eq, ne_eq, lt_eq, le_eq, gt_eq, ge_eq, shr_eq, shl_eq, quo_eq, rem_eq, not_eq, wp_log_ret, ext0, ext1, ext2, nil_eq, get_ne, get_eq, nth_0, nth_s, cells_agg, cells_int, cells_bool, cells_slice, cells_ptr, ro_zero, one_int, one_bool, one_slice, one_ptr, arr_size, overL, Nat.zero_add, Nat.reduceAdd, Nat.add_zero, List.length_cons, List.length_nil, List.all_cons, List.all_nil, Nat.reduceLeDiff, Nat.ble_eq, Bool.and_true, Bool.not_false, Bool.and_self, decide_true, List.drop_zero, List.drop_succ_cons, List.take_succ_cons, List.take_zero, List.take_nil, true_and, and_true, Int.ofNat_eq_natCast, neg_one, Int.toNat_natCast, Int.natCast_zero, Int.natCast_one, Int.cast_ofNat_Int, List.append_nil, List.nil_append, ldB b4', clB b4', ldBL b4', clBL b4', ldB (g4.box b2 (by omega)), clB (g4.box b2 (by omega)), ldBL (g4.box b2 (by omega)), clBL (g4.box b2 (by omega)), funX_eq, if_true, if_false, Bool.false_eq_true, Bool.not_true, Bool.not_false, X31_3]
        refine ValS.goL g4 hp (s100 g4.fresh _ _ _) fun h5 s5 ts5 ws5 g5 c5 _ _ => ?_
        cases e6 : wI y.a base 1099511627776 with
        | false =>
          simp (disch := omega) only [tys, bindJ_eq, logJ_eq, wp_cond, wp_guard, gd_true, gd_false, pick_eq, add_eq, sub_eq, eq_eq, ne_eq, lt_eq, le_eq, gt_eq, ge_eq, shr_eq, shl_eq, quo_eq, rem_eq, not_eq, wp_log_ret, ext0, ext1, ext2, nil_eq, get_ne, get_eq, nth_0, nth_s, cells_agg, cells_int, cells_bool, cells_slice, cells_ptr, ro_zero, one_int, one_bool, one_slice, one_ptr, arr_size, overL, Nat.zero_add, Nat.reduceAdd, Nat.add_zero, List.length_cons, List.length_nil, List.all_cons, List.all_nil, Nat.reduceLeDiff, Nat.ble_eq, Bool.and_true, Bool.not_false, Bool.and_self, decide_true, List.drop_zero, List.drop_succ_cons, List.take_succ_cons, List.take_zero, List.take_nil, true_and, and_true, Int.ofNat_eq_natCast, neg_one, Int.toNat_natCast, Int.natCast_zero, Int.natCast_one, Int.cast_ofNat_Int, List.append_nil, List.nil_append, ldB (c5.box b4' (by omega)), clB (c5.box b4' (by omega)), ldBL (c5.box b4' (by omega)), clBL (c5.box b4' (by omega)), ldB (g5.box b2 (by omega)), clB (g5.box b2 (by omega)), ldBL (g5.box b2 (by omega)), clBL (g5.box b2 (by omega)), funX_eq, if_true, if_false, Bool.false_eq_true, Bool.not_true, Bool.not_false, X31_2, X31_1]
          rw [if_pos (by repeat' (first | exact dynOk_nil _ _ | refine dyn_skip' ?_ | refine dyn_cons ?_ ?_ | exact allF_nil _ _ | refine allF_cons ?_ ?_))]
          exact bad _ _ g5 (by rw [e0, decide_eq_false_iff_not, hgi, good_step hy]; simp [maxT, e6])
        | true =>
        simp (disch := omega) only [tys, bindJ_eq, logJ_eq, wp_cond, wp_guard, gd_true, gd_false, pick_eq, add_eq, sub_eq, eq_eq, ne_eq, lt_eq, le_eq, gt_eq, ge_eq, shr_eq, shl_eq, quo_eq, rem_eq, not_eq, wp_log_ret, ext0, ext1, ext2, nil_eq, get_ne, get_eq, nth_0, nth_s, cells_agg, cells_int, cells_bool, cells_slice, cells_ptr, ro_zero, one_int, one_bool, one_slice, one_ptr, arr_size, overL, Nat.zero_add, Nat.reduceAdd, Nat.add_zero, List.length_cons, List.length_nil, List.all_cons, List.all_nil, Nat.reduceLeDiff, Nat.ble_eq, Bool.and_true, Bool.not_false, Bool.and_self, decide_true, List.drop_zero, List.drop_succ_cons, List.take_succ_cons, List.take_zero, List.take_nil, true_and, and_true, Int.ofNat_eq_natCast, neg_one, Int.toNat_natCast, Int.natCast_zero, Int.natCast_one, Int.cast_ofNat_Int, List.append_nil, List.nil_append, ldB (c5.box b4' (by omega)), clB (c5.box b4' (by omega)), ldBL (c5.box b4' (by omega)), clBL (c5.box b4' (by omega)), ldB (g5.box b2 (by omega)), clB (g5.box b2 (by omega)), ldBL (g5.box b2 (by omega)), clBL (g5.box b2 (by omega)), funX_eq, if_true, if_false, Bool.false_eq_true, Bool.not_true, Bool.not_false, X31_2]
        refine (r0.from g0.fresh g5).cutL (ab_to (by have := r.le; omega) _) (by omega) (by omega) (by have := r.le; omega) (by omega) fun p' ts6 r6 _ hts6 => ?_
        simp (disch := omega) only [tys, bindJ_eq, logJ_eq, wp_cond, wp_guard, gd_true, gd_false, pick_eq, add_eq, sub_eq, eq_eq, ne_eq, lt_eq, le_eq, gt_eq, ge_eq, shr_eq, shl_eq, quo_eq, rem_eq, not_eq, wp_log_ret, ext0, ext1, ext2, nil_eq, get_ne, get_eq, nth_0, nth_s, cells_agg, cells_int, cells_bool, cells_slice, cells_ptr, ro_zero, one_int, one_bool, one_slice, one_ptr, arr_size, overL, Nat.zero_add, Nat.reduceAdd, Nat.add_zero, List.length_cons, List.length_nil, List.all_cons, List.all_nil, Nat.reduceLeDiff, Nat.ble_eq, Bool.and_true, Bool.not_false, Bool.and_self, decide_true, List.drop_zero, List.drop_succ_cons, List.take_succ_cons, List.take_zero, List.take_nil, true_and, and_true, Int.ofNat_eq_natCast, neg_one, Int.toNat_natCast, Int.natCast_zero, Int.natCast_one, Int.cast_ofNat_Int, List.append_nil, List.nil_append, ldB (c5.box b4' (by omega)), clB (c5.box b4' (by omega)), ldBL (c5.box b4' (by omega)), clBL (c5.box b4' (by omega)), ldB (g5.box b2 (by omega)), clB (g5.box b2 (by omega)), ldBL (g5.box b2 (by omega)), clBL (g5.box b2 (by omega)), funX_eq, if_true, if_false, Bool.false_eq_true, Bool.not_true, Bool.not_false, X31_1]
        refine ValS.goL g5 hp (s102 (d := d) hN g5.fresh r6.row (by omega) y) fun h7 s7 ts7 ws7 g7 c7 hw7 ht7 => ?_
        simp (disch := omega) only [tys, bindJ_eq, logJ_eq, wp_cond, wp_guard, gd_true, gd_false, pick_eq, add_eq, sub_eq, eq_eq, ne_eq, lt_eq, le_eq, gt_eq, ge_eq, shr_eq, shl_eq, quo_eq, rem_eq, not_eq, wp_log_ret, ext0, ext1, ext2, nil_eq, get_ne, get_eq, nth_0, nth_s, cells_agg, cells_int, cells_bool, cells_slice, cells_ptr, ro_zero, one_int, one_bool, one_slice, one_ptr, arr_size, overL, Nat.zero_add, Nat.reduceAdd, Nat.add_zero, List.length_cons, List.length_nil, List.all_cons, List.all_nil, Nat.reduceLeDiff, Nat.ble_eq, Bool.and_true, Bool.not_false, Bool.and_self, decide_true, List.drop_zero, List.drop_succ_cons, List.take_succ_cons, List.take_zero, List.take_nil, true_and, and_true, Int.ofNat_eq_natCast, neg_one, Int.toNat_natCast, Int.natCast_zero, Int.natCast_one, Int.cast_ofNat_Int, List.append_nil, List.nil_append, funX_eq, if_true, if_false, Bool.false_eq_true, Bool.not_true, Bool.not_false, Nat.sub_zero]
        rw [if_pos (by repeat' (first | exact dynOk_nil _ _ | refine dyn_skip' ?_ | refine dyn_cons ?_ ?_ | exact allF_nil _ _ | refine allF_cons ?_ ?_))]
        cases e7 : twinAny (l.take i) y with
        | true =>
          simp (disch := omega) only [tys, bindJ_eq, logJ_eq, wp_cond, wp_guard, gd_true, gd_false, pick_eq, add_eq, sub_eq, eq_eq, ne_eq, lt_eq, le_eq, gt_eq, ge_eq, shr_eq, shl_eq, quo_eq, rem_eq, not_eq, wp_log_ret, ext0, ext1, ext2, nil_eq, get_ne, get_eq, nth_0, nth_s, cells_agg, cells_int, cells_bool, cells_slice, cells_ptr, ro_zero, one_int, one_bool, one_slice, one_ptr, arr_size, overL, Nat.zero_add, Nat.reduceAdd, Nat.add_zero, List.length_cons, List.length_nil, List.all_cons, List.all_nil, Nat.reduceLeDiff, Nat.ble_eq, Bool.and_true, Bool.not_false, Bool.and_self, decide_true, List.drop_zero, List.drop_succ_cons, List.take_succ_cons, List.take_zero, List.take_nil, true_and, and_true, Int.ofNat_eq_natCast, neg_one, Int.toNat_natCast, Int.natCast_zero, Int.natCast_one, Int.cast_ofNat_Int, List.append_nil, List.nil_append, funX_eq, if_true, if_false, Bool.false_eq_true, Bool.not_true, Bool.not_false]
          exact bad _ _ g7 (by rw [e0, decide_eq_false_iff_not, hgi, good_step hy]; simp [e7])
        | false =>
          simp (disch := omega) only [tys, bindJ_eq, logJ_eq, wp_cond, wp_guard, gd_true, gd_false, pick_eq, add_eq, sub_eq, eq_eq, ne_eq, lt_eq, le_eq, gt_eq, ge_eq, shr_eq, shl_eq, quo_eq, rem_eq, not_eq, wp_log_ret, ext0, ext1, ext2, nil_eq, get_ne, get_eq, nth_0, nth_s, cells_agg, cells_int, cells_bool, cells_slice, cells_ptr, ro_zero, one_int, one_bool, one_slice, one_ptr, arr_size, overL, Nat.zero_add, Nat.reduceAdd, Nat.add_zero, List.length_cons, List.length_nil, List.all_cons, List.all_nil, Nat.reduceLeDiff, Nat.ble_eq, Bool.and_true, Bool.not_false, Bool.and_self, decide_true, List.drop_zero, List.drop_succ_cons, List.take_succ_cons, List.take_zero, List.take_nil, true_and, and_true, Int.ofNat_eq_natCast, neg_one, Int.toNat_natCast, Int.natCast_zero, Int.natCast_one, Int.cast_ofNat_Int, List.append_nil, List.nil_append, funX_eq, if_true, if_false, Bool.false_eq_true, Bool.not_true, Bool.not_false, wrapS (i := i) (by omega)]
          exact ih (i + 1) _ _ _ (by omega) (by omega) (by rw [hgi, good_step hy]; simp [maxT, e6, e7]) g7
      · obtain rfl : i = len := by omega
        simp (disch := omega) only [tys, bindJ_eq, logJ_eq, wp_cond, wp_guard, gd_true, gd_false, pick_eq, add_eq, sub_eq, eq_eq, ne_eq, lt_eq, le_eq, gt_eq, ge_eq, shr_eq, shl_eq, quo_eq, rem_eq, not_eq, wp_log_ret, ext0, ext1, ext2, nil_eq, get_ne, get_eq, nth_0, nth_s, cells_agg, cells_int, cells_bool, cells_slice, cells_ptr, ro_zero, one_int, one_bool, one_slice, one_ptr, arr_size, overL, Nat.zero_add, Nat.reduceAdd, Nat.add_zero, List.length_cons, List.length_nil, List.all_cons, List.all_nil, Nat.reduceLeDiff, Nat.ble_eq, Bool.and_true, Bool.not_false, Bool.and_self, decide_true, List.drop_zero, List.drop_succ_cons, List.take_succ_cons, List.take_zero, List.take_nil, true_and, and_true, Int.ofNat_eq_natCast, neg_one, Int.toNat_natCast, Int.natCast_zero, Int.natCast_one, Int.cast_ofNat_Int, List.append_nil, List.nil_append, funX_eq, if_true, if_false, Bool.false_eq_true, Bool.not_true, Bool.not_false, Int.lt_irrefl, decide_false]
        exact fin _ _ g1 (by rw [e0, decide_eq_true_eq, hgi, ← hlen]; exact good_end _ _)
  exact loop _ (fun _ _ _ _ => rfl) N 0 _ k4 s4 (by omega) (by omega) Iff.rfl u4
end
end Go.Ev.R
namespace Go.Ev.R
open Go Go.RowKit
section
variable {N d : Nat} (hN : 100000 ≤ N) {h : T} {s : Nat} (hf : ∀ n, s ≤ n → h.get n = none)
include hf
include hN
omit hN
include hN
end
end Go.Ev.R
namespace Go.Ev.R
open Go Go.RowKit
theorem blt_min {C : CallT} (ts : Array TypeId) (t : TypeId) (cs : Array Bool) (a b : Int) (k : Value → Nat → AM) (s : Nat) : blt0 P C .min ts t cs [vi a, vi b] k s = k (vi (min a b)) s := by
  have h : pureRun P (builtin .min ts t cs ⟨[vi a, vi b]⟩) = some (.value (vi (min a b))) := by
    have h1 : Builtin.min_ ts t ⟨[vi a, vi b]⟩ = pure (.int .i64 (if b < a then b else a)) := rfl
    have h2 : (if b < a then b else a) = min a b := by split <;> omega
    rw [h2] at h1
    have : builtin .min ts t cs ⟨[vi a, vi b]⟩ = (do pure (Next.value (← Builtin.min_ ts t ⟨[vi a, vi b]⟩))) := rfl
    rw [this, h1]
    rfl
  unfold blt0 abuiltin
  dsimp only
  rw [h]
  rfl
/-- A list that was made. -/
def Own (h : T) (s : Nat) (p : Option Addr) (len : Nat) (l : List K3) : Prop :=
  l.length = len ∧ (p = none ∧ len = 0 ∨ ∃ n f, p = some ⟨n, 0, none⟩ ∧ s ≤ n ∧ h.get n = some (.cells ⟨l.flatMap kv⟩ 48 (f, 0)) ∧ (f = 0 ∨ f = 4))
theorem Own.sl {h : T} {s : Nat} {p : Option Addr} {len : Nat} {l : List K3} (o : Own h s p len l) : Sl EK h p len len l := by
  obtain ⟨hl, ⟨rfl, rfl⟩ | ⟨n, f, rfl, _, hg, hf⟩⟩ := o
  · obtain rfl := List.eq_nil_of_length_eq_zero hl
    exact .nil _
  · exact .own hg hf hl
theorem Own.from {h h' : T} {s s0 s' : Nat} {p : Option Addr} {len : Nat} {l : List K3} (o : Own h s p len l) (hf : ∀ n, s0 ≤ n → h.get n = none) (g : From s0 h h' s') : Own h' s p len l := by
  obtain ⟨hl, ho | ⟨n, f, rfl, h1, hg, hff⟩⟩ := o
  · exact ⟨hl, .inl ho⟩
  · exact ⟨hl, .inr ⟨n, f, rfl, h1, by rw [g.keep n (lt_of_some hf ⟨_, hg⟩)]; exact hg, hff⟩⟩
theorem Own.less {h : T} {s s' : Nat} {p : Option Addr} {len : Nat} {l : List K3} (o : Own h s p len l) (hs : s' ≤ s) : Own h s' p len l := by
  obtain ⟨hl, ho | ⟨n, f, rfl, h1, hg, hff⟩⟩ := o
  · exact ⟨hl, .inl ho⟩
  · exact ⟨hl, .inr ⟨n, f, rfl, by omega, hg, hff⟩⟩
theorem Own.but {h h' : T} {s s' : Nat} {p : Option Addr} {len : Nat} {l : List K3} (o : Own h s p len l) (hf : ∀ n, s' ≤ n → h.get n = none) (e : ∀ i, s ≤ i → i < s' → h'.get i = h.get i) : Own h' s p len l := by
  obtain ⟨hl, ho | ⟨n, f, rfl, h1, hg, hff⟩⟩ := o
  · exact ⟨hl, .inl ho⟩
  · exact ⟨hl, .inr ⟨n, f, rfl, h1, by rw [e n h1 (lt_of_some hf ⟨_, hg⟩)]; exact hg, hff⟩⟩
def pickZ (x n : Int) : Int := if n ≤ 0 then 0 else x % n
def smallS (x : SU) : SU := ⟨1 + pickZ x.keep 20, pickZ x.horizon 100, 1, 1 + pickZ x.budget 6, 1⟩
theorem pick_rng {x n : Int} (h : 0 < n) : 0 ≤ pickZ x n ∧ pickZ x n < n := by
  unfold pickZ
  rw [if_neg (by omega)]
  exact ⟨Int.emod_nonneg _ (by omega), Int.emod_lt_of_pos _ h⟩
def tickN (x : SU) (clean : Int) (len : Nat) : Int := min x.budget ((len : Int) - clean)
section
variable {N d : Nat} (hN : 100000 ≤ N) {h : T} {s : Nat} (hf : ∀ n, s ≤ n → h.get n = none)
include hf
theorem s59 (x n : Int) (hn : n ≤ 9223372036854775807) : ValS (D N (d + 1)) 59 [vi x, vi n] h s (vi (pickZ x n)) := by
  refine ValS.of hf fun K pw Z g hp hk => ?_
  rw [D_59]; unfold F59; rw [app2_eq]
  have hk := hk _ _ g
  unfold pickZ at hk
  by_cases h0 : n ≤ 0
  · simp (disch := first | assumption | omega | (simp only [Int.ofNat_eq_natCast, neg_one]; done) | (simp only [Int.ofNat_eq_natCast, neg_one]; omega)) only [tysW, w_bindJ, w_logJ, w_ct, w_cf, w_gtt, w_gft, w_gtf, w_gff, w_pt, w_pf, w_lret, w_e0, w_e1, w_e2, w_nil, w_fun, w_nt, w_nf, w_add, w_sub, w_eqt, w_eqf, w_net, w_nef, w_ltt, w_ltf, w_let, w_lef, w_gtt', w_gtf', w_get, w_gef, toNat_of, of_add, cast_add, nth_0, nth_s, Nat.zero_add, Nat.reduceAdd, Nat.reduceMul, Nat.add_zero, List.length_cons, List.length_nil, List.drop_zero, List.drop_succ_cons, List.take_succ_cons, List.take_zero, List.take_nil, true_and, and_true, Int.toNat_natCast, List.append_nil, List.nil_append, List.cons_append]
    rw [if_pos h0] at hk
    exact hk
  · simp (disch := first | assumption | omega | (simp only [Int.ofNat_eq_natCast, neg_one]; done) | (simp only [Int.ofNat_eq_natCast, neg_one]; omega)) only [tysW, w_bindJ, w_logJ, w_ct, w_cf, w_gtt, w_gft, w_gtf, w_gff, w_pt, w_pf, w_lret, w_e0, w_e1, w_e2, w_nil, w_fun, w_nt, w_nf, w_add, w_sub, w_eqt, w_eqf, w_net, w_nef, w_ltt, w_ltf, w_let, w_lef, w_gtt', w_gtf', w_get, w_gef, toNat_of, of_add, cast_add, nth_0, nth_s, Nat.zero_add, Nat.reduceAdd, Nat.reduceMul, Nat.add_zero, List.length_cons, List.length_nil, List.drop_zero, List.drop_succ_cons, List.take_succ_cons, List.take_zero, List.take_nil, true_and, and_true, Int.toNat_natCast, List.append_nil, List.nil_append, List.cons_append, w_rem _ _ _ 3 3 false false x n _ _ (show n ≠ 0 by omega)]
    rw [if_neg h0] at hk
    have e := Int.tmod_eq_emod (a := x) (b := n)
    have h1 := Int.emod_nonneg x (show n ≠ 0 by omega)
    have h2 := Int.emod_lt_of_pos x (show 0 < n by omega)
    by_cases h3 : 0 ≤ x ∨ n ∣ x
    · rw [if_pos h3] at e
      simp (disch := first | assumption | omega | (simp only [Int.ofNat_eq_natCast, neg_one]; done) | (simp only [Int.ofNat_eq_natCast, neg_one]; omega)) only [tysW, w_bindJ, w_logJ, w_ct, w_cf, w_gtt, w_gft, w_gtf, w_gff, w_pt, w_pf, w_lret, w_e0, w_e1, w_e2, w_nil, w_fun, w_nt, w_nf, w_add, w_sub, w_eqt, w_eqf, w_net, w_nef, w_ltt, w_ltf, w_let, w_lef, w_gtt', w_gtf', w_get, w_gef, toNat_of, of_add, cast_add, nth_0, nth_s, Nat.zero_add, Nat.reduceAdd, Nat.reduceMul, Nat.add_zero, List.length_cons, List.length_nil, List.drop_zero, List.drop_succ_cons, List.take_succ_cons, List.take_zero, List.take_nil, true_and, and_true, Int.toNat_natCast, List.append_nil, List.nil_append, List.cons_append]
      rw [e, show x % n - ((0 : Nat) : Int) = x % n by omega]; exact hk
    · rw [if_neg h3] at e
      have : (n.natAbs : Int) = n := by omega
      rw [this] at e
      simp (disch := first | assumption | omega | (simp only [Int.ofNat_eq_natCast, neg_one]; done) | (simp only [Int.ofNat_eq_natCast, neg_one]; omega)) only [tysW, w_bindJ, w_logJ, w_ct, w_cf, w_gtt, w_gft, w_gtf, w_gff, w_pt, w_pf, w_lret, w_e0, w_e1, w_e2, w_nil, w_fun, w_nt, w_nf, w_add, w_sub, w_eqt, w_eqf, w_net, w_nef, w_ltt, w_ltf, w_let, w_lef, w_gtt', w_gtf', w_get, w_gef, toNat_of, of_add, cast_add, nth_0, nth_s, Nat.zero_add, Nat.reduceAdd, Nat.reduceMul, Nat.add_zero, List.length_cons, List.length_nil, List.drop_zero, List.drop_succ_cons, List.take_succ_cons, List.take_zero, List.take_nil, true_and, and_true, Int.toNat_natCast, List.append_nil, List.nil_append, List.cons_append]
      rw [e, show x % n - n + n = x % n by omega]; exact hk
theorem s58 (x : SU) : ValS (D N (d + 2)) 58 [suval x] h s (suval (smallS x)) := by
  refine ValS.of hf fun K pw Z g hp hk => ?_
  rw [D_58]; unfold F58; rw [app1_eq]
  refine wp_boxA g hp fun h1 g1 c1 b1 => ?_
  simp (disch := first | assumption | omega | (simp only [Int.ofNat_eq_natCast, neg_one]; done) | (simp only [Int.ofNat_eq_natCast, neg_one]; omega)) only [tysW, w_bindJ, w_logJ, w_ct, w_cf, w_gtt, w_gft, w_gtf, w_gff, w_pt, w_pf, w_lret, w_e0, w_e1, w_e2, w_nil, w_fun, w_nt, w_nf, w_add, w_sub, w_eqt, w_eqf, w_net, w_nef, w_ltt, w_ltf, w_let, w_lef, w_gtt', w_gtf', w_get, w_gef, toNat_of, of_add, cast_add, nth_0, nth_s, Nat.zero_add, Nat.reduceAdd, Nat.reduceMul, Nat.add_zero, List.length_cons, List.length_nil, List.drop_zero, List.drop_succ_cons, List.take_succ_cons, List.take_zero, List.take_nil, true_and, and_true, Int.toNat_natCast, List.append_nil, List.nil_append, List.cons_append]
  refine wp_boxA g1 hp fun h2 g2 c2 b2 => ?_
  replace b1 := c2.box b1 (by omega)
  simp only [suv] at b1
  have k1 := pick_rng (x := x.keep) (n := 20) (by decide)
  have k2 := pick_rng (x := x.horizon) (n := 100) (by decide)
  have k3 := pick_rng (x := x.budget) (n := 6) (by decide)
  simp (disch := first | assumption | omega | (simp only [Int.ofNat_eq_natCast, neg_one]; done) | (simp only [Int.ofNat_eq_natCast, neg_one]; omega)) only [tysW, w_bindJ, w_logJ, w_ct, w_cf, w_gtt, w_gft, w_gtf, w_gff, w_pt, w_pf, w_lret, w_e0, w_e1, w_e2, w_nil, w_fun, w_nt, w_nf, w_add, w_sub, w_eqt, w_eqf, w_net, w_nef, w_ltt, w_ltf, w_let, w_lef, w_gtt', w_gtf', w_get, w_gef, toNat_of, of_add, cast_add, nth_0, nth_s, Nat.zero_add, Nat.reduceAdd, Nat.reduceMul, Nat.add_zero, List.length_cons, List.length_nil, List.drop_zero, List.drop_succ_cons, List.take_succ_cons, List.take_zero, List.take_nil, true_and, and_true, Int.toNat_natCast, List.append_nil, List.nil_append, List.cons_append, ldB b1, clB b1, ldBL b1, clBL b1]
  refine ValS.goL g2 hp (s59 g2.fresh x.keep 20 (by decide)) fun h3 s3 ts3 ws3 g3 c3 hw3 ht3 => ?_
  have l3 := g3.le
  have l2 := c3.le
  simp (disch := first | assumption | omega | (simp only [Int.ofNat_eq_natCast, neg_one]; done) | (simp only [Int.ofNat_eq_natCast, neg_one]; omega)) only [tysW, w_bindJ, w_logJ, w_ct, w_cf, w_gtt, w_gft, w_gtf, w_gff, w_pt, w_pf, w_lret, w_e0, w_e1, w_e2, w_nil, w_fun, w_nt, w_nf, w_add, w_sub, w_eqt, w_eqf, w_net, w_nef, w_ltt, w_ltf, w_let, w_lef, w_gtt', w_gtf', w_get, w_gef, toNat_of, of_add, cast_add, nth_0, nth_s, Nat.zero_add, Nat.reduceAdd, Nat.reduceMul, Nat.add_zero, List.length_cons, List.length_nil, List.drop_zero, List.drop_succ_cons, List.take_succ_cons, List.take_zero, List.take_nil, true_and, and_true, Int.toNat_natCast, List.append_nil, List.nil_append, List.cons_append, ldB (c3.box b1 (by omega)), clB (c3.box b1 (by omega)), ldBL (c3.box b1 (by omega)), clBL (c3.box b1 (by omega)), X58_2]
  refine ValS.goL g3 hp (s59 g3.fresh x.horizon 100 (by decide)) fun h4 s4 ts4 ws4 g4 c4 hw4 ht4 => ?_
  have l4 := c4.le
  have b4 := (c3.trans c4).box b1 (by omega)
  simp (disch := first | assumption | omega | (simp only [Int.ofNat_eq_natCast, neg_one]; done) | (simp only [Int.ofNat_eq_natCast, neg_one]; omega)) only [tysW, w_bindJ, w_logJ, w_ct, w_cf, w_gtt, w_gft, w_gtf, w_gff, w_pt, w_pf, w_lret, w_e0, w_e1, w_e2, w_nil, w_fun, w_nt, w_nf, w_add, w_sub, w_eqt, w_eqf, w_net, w_nef, w_ltt, w_ltf, w_let, w_lef, w_gtt', w_gtf', w_get, w_gef, toNat_of, of_add, cast_add, nth_0, nth_s, Nat.zero_add, Nat.reduceAdd, Nat.reduceMul, Nat.add_zero, List.length_cons, List.length_nil, List.drop_zero, List.drop_succ_cons, List.take_succ_cons, List.take_zero, List.take_nil, true_and, and_true, Int.toNat_natCast, List.append_nil, List.nil_append, List.cons_append, ldB b4, clB b4, ldBL b4, clBL b4]
  refine ValS.goL g4 hp (s59 g4.fresh x.budget 6 (by decide)) fun h5 s5 ts5 ws5 g5 c5 hw5 ht5 => ?_
  have b5 := ((c3.trans c4).trans c5).box b2 (by omega)
  have l5 := c5.le
  unfold X58_1
  simp (disch := first | assumption | omega | (simp only [Int.ofNat_eq_natCast, neg_one]; done) | (simp only [Int.ofNat_eq_natCast, neg_one]; omega)) only [tysW, w_bindJ, w_logJ, w_ct, w_cf, w_gtt, w_gft, w_gtf, w_gff, w_pt, w_pf, w_lret, w_e0, w_e1, w_e2, w_nil, w_fun, w_nt, w_nf, w_add, w_sub, w_eqt, w_eqf, w_net, w_nef, w_ltt, w_ltf, w_let, w_lef, w_gtt', w_gtf', w_get, w_gef, toNat_of, of_add, cast_add, nth_0, nth_s, Nat.zero_add, Nat.reduceAdd, Nat.reduceMul, Nat.add_zero, List.length_cons, List.length_nil, List.drop_zero, List.drop_succ_cons, List.take_succ_cons, List.take_zero, List.take_nil, true_and, and_true, Int.toNat_natCast, List.append_nil, List.nil_append, List.cons_append]
  refine wp_putL g5 hp b5 (by omega) (by exact Nat.le_refl 5) rfl fun h6 g6 b6 e6 => ?_
  simp only [overL] at b6
  rw [wp_guard, if_pos (by repeat' (first | exact dynOk_nil _ _ | refine dyn_skip' ?_ | refine dyn_cons ?_ ?_ | exact allF_nil _ _ | refine allF_cons ?_ ?_ | exact disj_below hw3 (by omega) | exact disjA hw3 (by omega) | exact disjB hw3 (by omega) | exact disjC hw3 (by assumption) | exact disj_below hw4 (by omega) | exact disjA hw4 (by omega) | exact disjB hw4 (by omega) | exact disjC hw4 (by assumption) | exact disj_below hw5 (by omega) | exact disjA hw5 (by omega) | exact disjB hw5 (by omega) | exact disjC hw5 (by assumption) | exact disjN _ | exact disj1 (by omega) | exact disj2 (by omega)))]
  simp (disch := first | assumption | omega | (simp only [Int.ofNat_eq_natCast, neg_one]; done) | (simp only [Int.ofNat_eq_natCast, neg_one]; omega)) only [tysW, w_bindJ, w_logJ, w_ct, w_cf, w_gtt, w_gft, w_gtf, w_gff, w_pt, w_pf, w_lret, w_e0, w_e1, w_e2, w_nil, w_fun, w_nt, w_nf, w_add, w_sub, w_eqt, w_eqf, w_net, w_nef, w_ltt, w_ltf, w_let, w_lef, w_gtt', w_gtf', w_get, w_gef, toNat_of, of_add, cast_add, nth_0, nth_s, Nat.zero_add, Nat.reduceAdd, Nat.reduceMul, Nat.add_zero, List.length_cons, List.length_nil, List.drop_zero, List.drop_succ_cons, List.take_succ_cons, List.take_zero, List.take_nil, true_and, and_true, Int.toNat_natCast, List.append_nil, List.nil_append, List.cons_append, ldB b6, clB b6, ldBL b6, clBL b6]
  exact hk _ _ g6
include hN
omit hN in
theorem s115o {p : Option Addr} {len cap : Nat} {l : List K3} (r : Sl EK h p len cap l) (hl : len ≤ 100000) : PureS (D N (d + 1)) 115 [.slice p len cap] h s (fun v h' s' => ∃ p', v = .slice p' len len ∧ Own h' s p' len l) := by
  refine PureS.of hf fun K pw Z g hp hk => ?_
  rw [D_115]; unfold F115; rw [app1_eq]
  cases p with
  | none =>
    obtain ⟨rfl, rfl⟩ := r.emp rfl
    simp (disch := first | assumption | omega | (simp only [Int.ofNat_eq_natCast, neg_one]; done) | (simp only [Int.ofNat_eq_natCast, neg_one]; omega)) only [tysW, w_bindJ, w_logJ, w_ct, w_cf, w_gtt, w_gft, w_gtf, w_gff, w_pt, w_pf, w_lret, w_e0, w_e1, w_e2, w_nil, w_fun, w_nt, w_nf, w_add, w_sub, w_eqt, w_eqf, w_net, w_nef, w_ltt, w_ltf, w_let, w_lef, w_gtt', w_gtf', w_get, w_gef, toNat_of, of_add, cast_add, nth_0, nth_s, Nat.zero_add, Nat.reduceAdd, Nat.reduceMul, Nat.add_zero, List.length_cons, List.length_nil, List.drop_zero, List.drop_succ_cons, List.take_succ_cons, List.take_zero, List.take_nil, true_and, and_true, Int.toNat_natCast, List.append_nil, List.nil_append, List.cons_append]
    exact hk _ _ _ g ⟨_, rfl, r.row.1, .inl ⟨rfl, rfl⟩⟩
  | some a =>
    simp (disch := first | assumption | omega | (simp only [Int.ofNat_eq_natCast, neg_one]; done) | (simp only [Int.ofNat_eq_natCast, neg_one]; omega)) only [tysW, w_bindJ, w_logJ, w_ct, w_cf, w_gtt, w_gft, w_gtf, w_gff, w_pt, w_pf, w_lret, w_e0, w_e1, w_e2, w_nil, w_fun, w_nt, w_nf, w_add, w_sub, w_eqt, w_eqf, w_net, w_nef, w_ltt, w_ltf, w_let, w_lef, w_gtt', w_gtf', w_get, w_gef, toNat_of, of_add, cast_add, nth_0, nth_s, Nat.zero_add, Nat.reduceAdd, Nat.reduceMul, Nat.add_zero, List.length_cons, List.length_nil, List.drop_zero, List.drop_succ_cons, List.take_succ_cons, List.take_zero, List.take_nil, true_and, and_true, Int.toNat_natCast, List.append_nil, List.nil_append, List.cons_append]
    refine wp_newF g hp fun h1 g1 c1 b1 => ?_
    simp (disch := first | assumption | omega | (simp only [Int.ofNat_eq_natCast, neg_one]; done) | (simp only [Int.ofNat_eq_natCast, neg_one]; omega)) only [tysW, w_bindJ, w_logJ, w_ct, w_cf, w_gtt, w_gft, w_gtf, w_gff, w_pt, w_pf, w_lret, w_e0, w_e1, w_e2, w_nil, w_fun, w_nt, w_nf, w_add, w_sub, w_eqt, w_eqf, w_net, w_nef, w_ltt, w_ltf, w_let, w_lef, w_gtt', w_gtf', w_get, w_gef, toNat_of, of_add, cast_add, nth_0, nth_s, Nat.zero_add, Nat.reduceAdd, Nat.reduceMul, Nat.add_zero, List.length_cons, List.length_nil, List.drop_zero, List.drop_succ_cons, List.take_succ_cons, List.take_zero, List.take_nil, true_and, and_true, Int.toNat_natCast, List.append_nil, List.nil_append, List.cons_append]
    by_cases h0 : len = 0
    · subst h0
      have hl0 := List.eq_nil_of_length_eq_zero r.row.1
      subst hl0
      exact wp_ap_none (by omega) (by omega) (hk _ _ _ g1 ⟨_, rfl, rfl, .inr ⟨s, 0, rfl, Nat.le_refl _, b1, .inl rfl⟩⟩)
    · have hrow := (r.from hf g1).row
      refine Sl.addK (E := EK) (l := []) (Sl.own (len := 0) b1 (.inl rfl) rfl) hrow (fun _ => rfl) h0 (by omega) (by omega) (g1.fresh _ (Nat.le_refl _)) (hp _ (by omega)) (fun m o sp e => ?_) fun h2 b2 e2 => ?_
      · cases e
        exact ⟨hp _ (Nat.le_refl _), by omega, _, _, _, _, b1, .inl rfl⟩
      · rw [Nat.zero_add]
        have g2 : From s h h2 (s + 1 + 1) := ⟨by omega, fun n hn => by rw [e2 n (fun _ => by show n ≠ s; omega) (by omega)]; exact g1.keep n hn, fun n hn => by rw [e2 n (fun _ => by show n ≠ s; omega) (by omega)]; exact g1.fresh n (by omega)⟩
        exact hk _ _ _ g2 ⟨_, rfl, r.row.1, .inr ⟨s + 1, 4, rfl, by omega, b2, .inr rfl⟩⟩
theorem s43 (x : SU) (base clean : Int) {p : Option Addr} {len cap : Nat} {l : List K3} (r : Sl EK h p len cap l) (hl : len ≤ 10000) : PureS (D N (d + 7)) 43 [suval x, shval base p len cap clean] h s (fun v h' s' =>
    if fitsK x base clean l = true then ∃ p', v = .tuple ⟨[shval base p' len len (clean + tickN x clean len), vi (tickN x clean len), vi 0]⟩ ∧ Own h' s p' len l else v = .tuple ⟨[shval 0 none 0 0 0, vi 0, vi 2]⟩) := by
  refine PureS.of hf fun K pw Z g hp hk => ?_
  rw [D_43]; unfold F43; rw [app2_eq]
  unfold X43_2
  refine wp_boxA g hp fun h1 g1 c1 b1 => ?_
  refine wp_boxA g1 hp fun h2 g2 c2 b2 => ?_
  simp (disch := first | assumption | omega | (simp only [Int.ofNat_eq_natCast, neg_one]; done) | (simp only [Int.ofNat_eq_natCast, neg_one]; omega)) only [tysW, w_bindJ, w_logJ, w_ct, w_cf, w_gtt, w_gft, w_gtf, w_gff, w_pt, w_pf, w_lret, w_e0, w_e1, w_e2, w_nil, w_fun, w_nt, w_nf, w_add, w_sub, w_eqt, w_eqf, w_net, w_nef, w_ltt, w_ltf, w_let, w_lef, w_gtt', w_gtf', w_get, w_gef, toNat_of, of_add, cast_add, nth_0, nth_s, Nat.zero_add, Nat.reduceAdd, Nat.reduceMul, Nat.add_zero, List.length_cons, List.length_nil, List.drop_zero, List.drop_succ_cons, List.take_succ_cons, List.take_zero, List.take_nil, true_and, and_true, Int.toNat_natCast, List.append_nil, List.nil_append, List.cons_append]
  refine wp_boxA g2 hp fun h3 g3 c3 b3 => ?_
  replace b1 := (c2.trans c3).box b1 (by omega)
  replace b2 := c3.box b2 (by omega)
  simp only [suv, shv] at b1 b2
  have r0 := r.from hf g3
  simp (disch := first | assumption | omega | (simp only [Int.ofNat_eq_natCast, neg_one]; done) | (simp only [Int.ofNat_eq_natCast, neg_one]; omega)) only [tysW, w_bindJ, w_logJ, w_ct, w_cf, w_gtt, w_gft, w_gtf, w_gff, w_pt, w_pf, w_lret, w_e0, w_e1, w_e2, w_nil, w_fun, w_nt, w_nf, w_add, w_sub, w_eqt, w_eqf, w_net, w_nef, w_ltt, w_ltf, w_let, w_lef, w_gtt', w_gtf', w_get, w_gef, toNat_of, of_add, cast_add, nth_0, nth_s, Nat.zero_add, Nat.reduceAdd, Nat.reduceMul, Nat.add_zero, List.length_cons, List.length_nil, List.drop_zero, List.drop_succ_cons, List.take_succ_cons, List.take_zero, List.take_nil, true_and, and_true, Int.toNat_natCast, List.append_nil, List.nil_append, List.cons_append, ldB b1, clB b1, ldBL b1, clBL b1, ldB b2, clB b2, ldBL b2, clBL b2]
  refine ValS.go g3 hp (s31 (d := d) hN g3.fresh x base clean r0 hl) fun h4 s4 g4 c4 => ?_
  have l4 := c4.le
  have B3 := c4.box b3 (by omega)
  have hlen := r.row.1
  cases e1 : fitsK x base clean l with
  | false =>
    simp (disch := first | assumption | omega | (simp only [Int.ofNat_eq_natCast, neg_one]; done) | (simp only [Int.ofNat_eq_natCast, neg_one]; omega)) only [tysW, w_bindJ, w_logJ, w_ct, w_cf, w_gtt, w_gft, w_gtf, w_gff, w_pt, w_pf, w_lret, w_e0, w_e1, w_e2, w_nil, w_fun, w_nt, w_nf, w_add, w_sub, w_eqt, w_eqf, w_net, w_nef, w_ltt, w_ltf, w_let, w_lef, w_gtt', w_gtf', w_get, w_gef, toNat_of, of_add, cast_add, nth_0, nth_s, Nat.zero_add, Nat.reduceAdd, Nat.reduceMul, Nat.add_zero, List.length_cons, List.length_nil, List.drop_zero, List.drop_succ_cons, List.take_succ_cons, List.take_zero, List.take_nil, true_and, and_true, Int.toNat_natCast, List.append_nil, List.nil_append, List.cons_append, show errI false = 2 from rfl]
    refine wp_putF g4 hp B3 (by omega) (by exact Nat.le_refl 3) rfl fun h5 g5 b5 e5 => ?_
    simp only [overL] at b5
    simp (disch := first | assumption | omega | (simp only [Int.ofNat_eq_natCast, neg_one]; done) | (simp only [Int.ofNat_eq_natCast, neg_one]; omega)) only [tysW, w_bindJ, w_logJ, w_ct, w_cf, w_gtt, w_gft, w_gtf, w_gff, w_pt, w_pf, w_lret, w_e0, w_e1, w_e2, w_nil, w_fun, w_nt, w_nf, w_add, w_sub, w_eqt, w_eqf, w_net, w_nef, w_ltt, w_ltf, w_let, w_lef, w_gtt', w_gtf', w_get, w_gef, toNat_of, of_add, cast_add, nth_0, nth_s, Nat.zero_add, Nat.reduceAdd, Nat.reduceMul, Nat.add_zero, List.length_cons, List.length_nil, List.drop_zero, List.drop_succ_cons, List.take_succ_cons, List.take_zero, List.take_nil, true_and, and_true, Int.toNat_natCast, List.append_nil, List.nil_append, List.cons_append, ldB b5, clB b5, ldBL b5, clBL b5]
    refine hk _ _ _ g5 ?_
    rw [if_neg (by simp [e1])]
    rfl
  | true =>
    obtain ⟨f1, f2, f3, f4, f5, f6⟩ := fits_iff.1 e1
    obtain ⟨q1, q2, q3, q4, q5, q6⟩ := chk_keep f1
    rw [hlen] at f3 f5
    simp (disch := first | assumption | omega | (simp only [Int.ofNat_eq_natCast, neg_one]; done) | (simp only [Int.ofNat_eq_natCast, neg_one]; omega)) only [tysW, w_bindJ, w_logJ, w_ct, w_cf, w_gtt, w_gft, w_gtf, w_gff, w_pt, w_pf, w_lret, w_e0, w_e1, w_e2, w_nil, w_fun, w_nt, w_nf, w_add, w_sub, w_eqt, w_eqf, w_net, w_nef, w_ltt, w_ltf, w_let, w_lef, w_gtt', w_gtf', w_get, w_gef, toNat_of, of_add, cast_add, nth_0, nth_s, Nat.zero_add, Nat.reduceAdd, Nat.reduceMul, Nat.add_zero, List.length_cons, List.length_nil, List.drop_zero, List.drop_succ_cons, List.take_succ_cons, List.take_zero, List.take_nil, true_and, and_true, Int.toNat_natCast, List.append_nil, List.nil_append, List.cons_append, ldB (c4.box b1 (by omega)), clB (c4.box b1 (by omega)), ldBL (c4.box b1 (by omega)), clBL (c4.box b1 (by omega)), ldB (c4.box b2 (by omega)), clB (c4.box b2 (by omega)), ldBL (c4.box b2 (by omega)), clBL (c4.box b2 (by omega)), show errI true = 0 from rfl, blt_min]
    refine PureS.goL g4 hp (s115o (d := d + 5) g4.fresh (r0.from g3.fresh c4) (by omega)) fun v h5 s5 ts5 ws5 g5 c5 hv hw5 ht5 => ?_
    obtain ⟨p', rfl, ow⟩ := hv
    have l5 := c5.le
    have B2 := (c4.trans c5).box b2 (by omega)
    have B3 := (c4.trans c5).box b3 (by omega)
    have ht : min x.budget ((len : Int) - clean) = tickN x clean len := rfl
    have htn : 0 ≤ tickN x clean len ∧ tickN x clean len ≤ (len : Int) - clean := by unfold tickN; omega
    unfold X43_1
    simp (disch := first | assumption | omega | (simp only [Int.ofNat_eq_natCast, neg_one]; done) | (simp only [Int.ofNat_eq_natCast, neg_one]; omega)) only [tysW, w_bindJ, w_logJ, w_ct, w_cf, w_gtt, w_gft, w_gtf, w_gff, w_pt, w_pf, w_lret, w_e0, w_e1, w_e2, w_nil, w_fun, w_nt, w_nf, w_add, w_sub, w_eqt, w_eqf, w_net, w_nef, w_ltt, w_ltf, w_let, w_lef, w_gtt', w_gtf', w_get, w_gef, toNat_of, of_add, cast_add, nth_0, nth_s, Nat.zero_add, Nat.reduceAdd, Nat.reduceMul, Nat.add_zero, List.length_cons, List.length_nil, List.drop_zero, List.drop_succ_cons, List.take_succ_cons, List.take_zero, List.take_nil, true_and, and_true, Int.toNat_natCast, List.append_nil, List.nil_append, List.cons_append, ldB B2, clB B2, ldBL B2, clBL B2, ht]
    refine wp_putL g5 hp B3 (by omega) (by exact Nat.le_refl 3) rfl fun h6 g6 b6 e6 => ?_
    simp only [overL] at b6
    rw [wp_guard, if_pos (by repeat' (first | exact dynOk_nil _ _ | refine dyn_skip' ?_ | refine dyn_cons ?_ ?_ | exact allF_nil _ _ | refine allF_cons ?_ ?_ | exact disj_below hw5 (by omega) | exact disjA hw5 (by omega) | exact disjB hw5 (by omega) | exact disjC hw5 (by assumption) | exact disjN _ | exact disj1 (by omega) | exact disj2 (by omega)))]
    simp (disch := first | assumption | omega | (simp only [Int.ofNat_eq_natCast, neg_one]; done) | (simp only [Int.ofNat_eq_natCast, neg_one]; omega)) only [tysW, w_bindJ, w_logJ, w_ct, w_cf, w_gtt, w_gft, w_gtf, w_gff, w_pt, w_pf, w_lret, w_e0, w_e1, w_e2, w_nil, w_fun, w_nt, w_nf, w_add, w_sub, w_eqt, w_eqf, w_net, w_nef, w_ltt, w_ltf, w_let, w_lef, w_gtt', w_gtf', w_get, w_gef, toNat_of, of_add, cast_add, nth_0, nth_s, Nat.zero_add, Nat.reduceAdd, Nat.reduceMul, Nat.add_zero, List.length_cons, List.length_nil, List.drop_zero, List.drop_succ_cons, List.take_succ_cons, List.take_zero, List.take_nil, true_and, and_true, Int.toNat_natCast, List.append_nil, List.nil_append, List.cons_append, ldB b6, clB b6, ldBL b6, clBL b6]
    refine hk _ _ _ g6 ?_
    rw [if_pos e1]
    refine ⟨p', rfl, ?_⟩
    obtain ⟨hl', ho | ⟨n, f, rfl, o1, o2, o3⟩⟩ := ow
    · exact ⟨hl', .inl ho⟩
    · exact ⟨hl', .inr ⟨n, f, rfl, by omega, by rw [e6 n (by omega)]; exact o2, o3⟩⟩
end
end Go.Ev.R
namespace Go.Ev.R
open Go Go.RowKit
theorem D_29 (N d : Nat) (K : KV) (s : Nat) : D N (d + 1) 29 [] K s = K (.bool true) s := by kernel_rfl
section
variable {N d : Nat} (hN : 100000 ≤ N) {h : T} {s : Nat} (hf : ∀ n, s ≤ n → h.get n = none)
include hN hf
theorem s11 (x : SU) (base clean : Int) {p : Option Addr} {len cap : Nat} {l : List K3} (r : Sl EK h p len cap l) : ValS (D N (d + 9)) 11 [suval x, shval base p len cap clean] h s (.bool true) := by
  refine ValS.of hf fun K pw Z g hp hk => ?_
  rw [D_11]; unfold F11; rw [app2_eq]
  refine wp_boxA g hp fun h1 g1 c1 b1 => ?_
  refine wp_boxA g1 hp fun h2 g2 c2 b2 => ?_
  replace b1 := c2.box b1 (by omega)
  have hlen := r.row.1
  have r0 := r.from hf g2
  simp only [suv, shv] at b1 b2
  have kb := pick_rng (x := x.budget) (n := 6) (by decide)
  have done_ : ∀ h' s', From s h h' s' → (K (.bool true) s').wp pw Z h' := fun h' s' g' => hk _ _ g'
  simp (disch := first | assumption | omega | (simp only [Int.ofNat_eq_natCast, neg_one]; done) | (simp only [Int.ofNat_eq_natCast, neg_one]; omega)) only [tysW, w_bindJ, w_logJ, w_ct, w_cf, w_gtt, w_gft, w_gtf, w_gff, w_pt, w_pf, w_lret, w_e0, w_e1, w_e2, w_nil, w_fun, w_nt, w_nf, w_add, w_sub, w_eqt, w_eqf, w_net, w_nef, w_ltt, w_ltf, w_let, w_lef, w_gtt', w_gtf', w_get, w_gef, toNat_of, of_add, cast_add, nth_0, nth_s, Nat.zero_add, Nat.reduceAdd, Nat.reduceMul, Nat.add_zero, List.length_cons, List.length_nil, List.drop_zero, List.drop_succ_cons, List.take_succ_cons, List.take_zero, List.take_nil, true_and, and_true, Int.toNat_natCast, List.append_nil, List.nil_append, List.cons_append, ldB b1, clB b1, ldBL b1, clBL b1, ldB b2, clB b2, ldBL b2, clBL b2, D_29]
  refine ValS.go g2 hp (s58 (d := d + 6) g2.fresh x) fun h3 s3 g3 c3 => ?_
  have l3 := c3.le
  replace b1 := c3.box b1 (by omega)
  replace b2 := c3.box b2 (by omega)
  generalize hy : smallS x = y at *
  have hyb : 1 ≤ y.budget ∧ y.budget ≤ 6 := by rw [← hy]; unfold smallS; dsimp only; omega
  simp only [suval, suv]
  simp (disch := first | assumption | omega | (simp only [Int.ofNat_eq_natCast, neg_one]; done) | (simp only [Int.ofNat_eq_natCast, neg_one]; omega)) only [tysW, w_bindJ, w_logJ, w_ct, w_cf, w_gtt, w_gft, w_gtf, w_gff, w_pt, w_pf, w_lret, w_e0, w_e1, w_e2, w_nil, w_fun, w_nt, w_nf, w_add, w_sub, w_eqt, w_eqf, w_net, w_nef, w_ltt, w_ltf, w_let, w_lef, w_gtt', w_gtf', w_get, w_gef, toNat_of, of_add, cast_add, nth_0, nth_s, Nat.zero_add, Nat.reduceAdd, Nat.reduceMul, Nat.add_zero, List.length_cons, List.length_nil, List.drop_zero, List.drop_succ_cons, List.take_succ_cons, List.take_zero, List.take_nil, true_and, and_true, Int.toNat_natCast, List.append_nil, List.nil_append, List.cons_append]
  refine wp_putF g3 hp b1 (by omega) (by exact Nat.le_refl 5) rfl fun h4 g4 b4 e4 => ?_
  simp only [overL] at b4
  replace b2 := (e4 (s + 1) (by omega)).trans b2
  have r4 : Sl EK h4 p len cap l := r.from hf g4
  by_cases h20 : (20 : Int) < (len : Int)
  · simp (disch := first | assumption | omega | (simp only [Int.ofNat_eq_natCast, neg_one]; done) | (simp only [Int.ofNat_eq_natCast, neg_one]; omega)) only [tysW, w_bindJ, w_logJ, w_ct, w_cf, w_gtt, w_gft, w_gtf, w_gff, w_pt, w_pf, w_lret, w_e0, w_e1, w_e2, w_nil, w_fun, w_nt, w_nf, w_add, w_sub, w_eqt, w_eqf, w_net, w_nef, w_ltt, w_ltf, w_let, w_lef, w_gtt', w_gtf', w_get, w_gef, toNat_of, of_add, cast_add, nth_0, nth_s, Nat.zero_add, Nat.reduceAdd, Nat.reduceMul, Nat.add_zero, List.length_cons, List.length_nil, List.drop_zero, List.drop_succ_cons, List.take_succ_cons, List.take_zero, List.take_nil, true_and, and_true, Int.toNat_natCast, List.append_nil, List.nil_append, List.cons_append, ldB b4, clB b4, ldBL b4, clBL b4, ldB b2, clB b2, ldBL b2, clBL b2, X11_2]
    exact done_ _ _ g4
  simp (disch := first | assumption | omega | (simp only [Int.ofNat_eq_natCast, neg_one]; done) | (simp only [Int.ofNat_eq_natCast, neg_one]; omega)) only [tysW, w_bindJ, w_logJ, w_ct, w_cf, w_gtt, w_gft, w_gtf, w_gff, w_pt, w_pf, w_lret, w_e0, w_e1, w_e2, w_nil, w_fun, w_nt, w_nf, w_add, w_sub, w_eqt, w_eqf, w_net, w_nef, w_ltt, w_ltf, w_let, w_lef, w_gtt', w_gtf', w_get, w_gef, toNat_of, of_add, cast_add, nth_0, nth_s, Nat.zero_add, Nat.reduceAdd, Nat.reduceMul, Nat.add_zero, List.length_cons, List.length_nil, List.drop_zero, List.drop_succ_cons, List.take_succ_cons, List.take_zero, List.take_nil, true_and, and_true, Int.toNat_natCast, List.append_nil, List.nil_append, List.cons_append, ldB b4, clB b4, ldBL b4, clBL b4, ldB b2, clB b2, ldBL b2, clBL b2]
  refine ValS.go g4 hp (s31 (d := d + 2) hN g4.fresh y base clean r4 (by omega)) fun h5 s5 g5 c5 => ?_
  have l5 := c5.le
  replace b1 := c5.box b4 (by omega)
  replace b2 := c5.box b2 (by omega)
  cases e1 : fitsK y base clean l with
  | false =>
    simp (disch := first | assumption | omega | (simp only [Int.ofNat_eq_natCast, neg_one]; done) | (simp only [Int.ofNat_eq_natCast, neg_one]; omega)) only [tysW, w_bindJ, w_logJ, w_ct, w_cf, w_gtt, w_gft, w_gtf, w_gff, w_pt, w_pf, w_lret, w_e0, w_e1, w_e2, w_nil, w_fun, w_nt, w_nf, w_add, w_sub, w_eqt, w_eqf, w_net, w_nef, w_ltt, w_ltf, w_let, w_lef, w_gtt', w_gtf', w_get, w_gef, toNat_of, of_add, cast_add, nth_0, nth_s, Nat.zero_add, Nat.reduceAdd, Nat.reduceMul, Nat.add_zero, List.length_cons, List.length_nil, List.drop_zero, List.drop_succ_cons, List.take_succ_cons, List.take_zero, List.take_nil, true_and, and_true, Int.toNat_natCast, List.append_nil, List.nil_append, List.cons_append, show errI false = 2 from rfl, X11_2]
    exact done_ _ _ g5
  | true =>
  obtain ⟨f1, f2, f3, f4, f5, f6⟩ := fits_iff.1 e1
  rw [hlen] at f5
  simp (disch := first | assumption | omega | (simp only [Int.ofNat_eq_natCast, neg_one]; done) | (simp only [Int.ofNat_eq_natCast, neg_one]; omega)) only [tysW, w_bindJ, w_logJ, w_ct, w_cf, w_gtt, w_gft, w_gtf, w_gff, w_pt, w_pf, w_lret, w_e0, w_e1, w_e2, w_nil, w_fun, w_nt, w_nf, w_add, w_sub, w_eqt, w_eqf, w_net, w_nef, w_ltt, w_ltf, w_let, w_lef, w_gtt', w_gtf', w_get, w_gef, toNat_of, of_add, cast_add, nth_0, nth_s, Nat.zero_add, Nat.reduceAdd, Nat.reduceMul, Nat.add_zero, List.length_cons, List.length_nil, List.drop_zero, List.drop_succ_cons, List.take_succ_cons, List.take_zero, List.take_nil, true_and, and_true, Int.toNat_natCast, List.append_nil, List.nil_append, List.cons_append, show errI true = 0 from rfl]
  unfold X11_2
  have hq := Int.mul_ediv_add_emod ((len : Int) - clean + y.budget - 1) y.budget
  have hr1 := Int.emod_nonneg ((len : Int) - clean + y.budget - 1) (show y.budget ≠ 0 by omega)
  have hr2 := Int.emod_lt_of_pos ((len : Int) - clean + y.budget - 1) (show 0 < y.budget by omega)
  have htd : ((len : Int) - clean + y.budget - 1).tdiv y.budget = ((len : Int) - clean + y.budget - 1) / y.budget := Int.tdiv_eq_ediv_of_nonneg (by omega)
  have hq0 : 0 ≤ ((len : Int) - clean + y.budget - 1) / y.budget := Int.ediv_nonneg (by omega) (by omega)
  have hq1 : ((len : Int) - clean + y.budget - 1) / y.budget ≤ (len : Int) - clean + y.budget - 1 := Int.ediv_le_self _ (by omega)
  simp (disch := first | assumption | omega | (simp only [Int.ofNat_eq_natCast, neg_one]; done) | (simp only [Int.ofNat_eq_natCast, neg_one]; omega)) only [tysW, w_bindJ, w_logJ, w_ct, w_cf, w_gtt, w_gft, w_gtf, w_gff, w_pt, w_pf, w_lret, w_e0, w_e1, w_e2, w_nil, w_fun, w_nt, w_nf, w_add, w_sub, w_eqt, w_eqf, w_net, w_nef, w_ltt, w_ltf, w_let, w_lef, w_gtt', w_gtf', w_get, w_gef, toNat_of, of_add, cast_add, nth_0, nth_s, Nat.zero_add, Nat.reduceAdd, Nat.reduceMul, Nat.add_zero, List.length_cons, List.length_nil, List.drop_zero, List.drop_succ_cons, List.take_succ_cons, List.take_zero, List.take_nil, true_and, and_true, Int.toNat_natCast, List.append_nil, List.nil_append, List.cons_append, ldB b1, clB b1, ldBL b1, clBL b1, ldB b2, clB b2, ldBL b2, clBL b2]
  rw [show Int.ofNat 1 = 1 from rfl, w_quo _ _ _ _ _ _ _ _ _ _ _ (show y.budget ≠ 0 by omega) (by rw [htd]; omega), htd]
  obtain ⟨q, hqq⟩ := Int.eq_ofNat_of_zero_le hq0
  rw [hqq] at hq hq1 ⊢
  have loop : ∀ (J : Nat → AM) (hJ : ∀ h1 s1 p' cap', From s h h1 s1 → h1.get (s + 1) = some (.cells ⟨[vi base, .slice p' len cap', vi len]⟩ 46 (0, 0)) → (J s1).wp pw Z h1) (B : (Value → Value → Nat → AM) → Value → Value → Nat → AM) (hB : ∀ H u i s', B H u i s' = X11_1 N (D N (d + 8)) K (.pointer (some ⟨s + 1, 0, none⟩)) (.pointer (some ⟨s, 0, none⟩)) J H u i s') (m t : Nat) (u : Value) (cl : Int) (p' : Option Addr) (cap' : Nat) (h1 : T) (s1 : Nat), t < m → From s h h1 s1 → s + 1 < s1 → h1.get s = some (.cells ⟨[vi y.keep, vi y.horizon, vi y.ahead, vi y.budget, vi y.window]⟩ 43 (0, 0)) → h1.get (s + 1) = some (.cells ⟨[vi base, .slice p' len cap', vi cl]⟩ 46 (0, 0)) →
      Sl EK h1 p' len cap' l → 0 ≤ cl → cl ≤ len → (len : Int) - cl ≤ y.budget * t → (0 < t → y.budget * t - y.budget < (len : Int) - cl) →
      (loopJ m 2 (fun _ _ _ => AM.fail) B u (vi t) s1).wp pw Z h1 := by
    intro J hJ B hB m
    induction m with
    | zero => intro t u cl p' cap' h1 s1 hm; omega
    | succ m ih =>
      intro t u cl p' cap' h1 s1 hm g1 hs1 b1 b2 r1 hc0 hc1 ht0 ht1
      rw [loopJ_succ, hB]
      unfold X11_1
      by_cases ht : 0 < t
      · have ht1 := ht1 ht
        obtain ⟨t, rfl⟩ : ∃ t', t = t' + 1 := ⟨t - 1, by omega⟩
        have em : y.budget * ((t + 1 : Nat) : Int) = y.budget * (t : Int) + y.budget := by rw [Int.natCast_add, Int.mul_add]; simp
        have hbt : 0 ≤ y.budget * (t : Int) := Int.mul_nonneg (by omega) (by omega)
        rw [em] at ht0 ht1
        simp (disch := first | assumption | omega | (simp only [Int.ofNat_eq_natCast, neg_one]; done) | (simp only [Int.ofNat_eq_natCast, neg_one]; omega)) only [tysW, w_bindJ, w_logJ, w_ct, w_cf, w_gtt, w_gft, w_gtf, w_gff, w_pt, w_pf, w_lret, w_e0, w_e1, w_e2, w_nil, w_fun, w_nt, w_nf, w_add, w_sub, w_eqt, w_eqf, w_net, w_nef, w_ltt, w_ltf, w_let, w_lef, w_gtt', w_gtf', w_get, w_gef, toNat_of, of_add, cast_add, nth_0, nth_s, Nat.zero_add, Nat.reduceAdd, Nat.reduceMul, Nat.add_zero, List.length_cons, List.length_nil, List.drop_zero, List.drop_succ_cons, List.take_succ_cons, List.take_zero, List.take_nil, true_and, and_true, Int.toNat_natCast, List.append_nil, List.nil_append, List.cons_append, ldB b1, clB b1, ldBL b1, clBL b1, ldB b2, clB b2, ldBL b2, clBL b2]
        refine PureS.go g1 hp (s43 (d := d + 1) hN g1.fresh y base cl r1 (by omega)) fun v h6 s6 g6 c6 hv => ?_
        have e2 : fitsK y base cl l = true := fits_iff.2 ⟨f1, f2, f3, f4, by rw [hlen]; exact ⟨hc0, hc1⟩, f6⟩
        rw [if_pos e2] at hv
        obtain ⟨p2, rfl, ow⟩ := hv
        have l6 := c6.le
        replace b1 := c6.box b1 (by omega)
        replace b2 := c6.box b2 (by omega)
        simp only [shval, shv]
        simp (disch := first | assumption | omega | (simp only [Int.ofNat_eq_natCast, neg_one]; done) | (simp only [Int.ofNat_eq_natCast, neg_one]; omega)) only [tysW, w_bindJ, w_logJ, w_ct, w_cf, w_gtt, w_gft, w_gtf, w_gff, w_pt, w_pf, w_lret, w_e0, w_e1, w_e2, w_nil, w_fun, w_nt, w_nf, w_add, w_sub, w_eqt, w_eqf, w_net, w_nef, w_ltt, w_ltf, w_let, w_lef, w_gtt', w_gtf', w_get, w_gef, toNat_of, of_add, cast_add, nth_0, nth_s, Nat.zero_add, Nat.reduceAdd, Nat.reduceMul, Nat.add_zero, List.length_cons, List.length_nil, List.drop_zero, List.drop_succ_cons, List.take_succ_cons, List.take_zero, List.take_nil, true_and, and_true, Int.toNat_natCast, List.append_nil, List.nil_append, List.cons_append]
        refine wp_boxA g6 hp fun h7 g7 c7 b7 => ?_
        replace b1 := c7.box b1 (by omega)
        replace b2 := c7.box b2 (by omega)
        have o7 := ow.from g6.fresh c7
        simp (disch := first | assumption | omega | (simp only [Int.ofNat_eq_natCast, neg_one]; done) | (simp only [Int.ofNat_eq_natCast, neg_one]; omega)) only [tysW, w_bindJ, w_logJ, w_ct, w_cf, w_gtt, w_gft, w_gtf, w_gff, w_pt, w_pf, w_lret, w_e0, w_e1, w_e2, w_nil, w_fun, w_nt, w_nf, w_add, w_sub, w_eqt, w_eqf, w_net, w_nef, w_ltt, w_ltf, w_let, w_lef, w_gtt', w_gtf', w_get, w_gef, toNat_of, of_add, cast_add, nth_0, nth_s, Nat.zero_add, Nat.reduceAdd, Nat.reduceMul, Nat.add_zero, List.length_cons, List.length_nil, List.drop_zero, List.drop_succ_cons, List.take_succ_cons, List.take_zero, List.take_nil, true_and, and_true, Int.toNat_natCast, List.append_nil, List.nil_append, List.cons_append]
        refine wp_putF g7 hp b7 (by omega) (by exact Nat.le_refl 3) rfl fun h8 g8 b8 e8 => ?_
        simp only [overL] at b8
        replace b1 := (e8 s (by omega)).trans b1
        replace b2 := (e8 (s + 1) (by omega)).trans b2
        simp (disch := first | assumption | omega | (simp only [Int.ofNat_eq_natCast, neg_one]; done) | (simp only [Int.ofNat_eq_natCast, neg_one]; omega)) only [tysW, w_bindJ, w_logJ, w_ct, w_cf, w_gtt, w_gft, w_gtf, w_gff, w_pt, w_pf, w_lret, w_e0, w_e1, w_e2, w_nil, w_fun, w_nt, w_nf, w_add, w_sub, w_eqt, w_eqf, w_net, w_nef, w_ltt, w_ltf, w_let, w_lef, w_gtt', w_gtf', w_get, w_gef, toNat_of, of_add, cast_add, nth_0, nth_s, Nat.zero_add, Nat.reduceAdd, Nat.reduceMul, Nat.add_zero, List.length_cons, List.length_nil, List.drop_zero, List.drop_succ_cons, List.take_succ_cons, List.take_zero, List.take_nil, true_and, and_true, Int.toNat_natCast, List.append_nil, List.nil_append, List.cons_append, ldB b8, clB b8, ldBL b8, clBL b8]
        refine wp_putF g8 hp b2 (by omega) (by exact Nat.le_refl 3) rfl fun h9 g9 b9 e9 => ?_
        simp only [overL] at b9
        replace b1 := (e9 s (by omega)).trans b1
        have htb : (t : Int) ≤ y.budget * (t : Int) := by
          have := Int.mul_le_mul_of_nonneg_right (show 1 ≤ y.budget by omega) (show (0 : Int) ≤ t by omega)
          omega
        simp (disch := first | assumption | omega | (simp only [Int.ofNat_eq_natCast, neg_one]; done) | (simp only [Int.ofNat_eq_natCast, neg_one]; omega)) only [tysW, w_bindJ, w_logJ, w_ct, w_cf, w_gtt, w_gft, w_gtf, w_gff, w_pt, w_pf, w_lret, w_e0, w_e1, w_e2, w_nil, w_fun, w_nt, w_nf, w_add, w_sub, w_eqt, w_eqf, w_net, w_nef, w_ltt, w_ltf, w_let, w_lef, w_gtt', w_gtf', w_get, w_gef, toNat_of, of_add, cast_add, nth_0, nth_s, Nat.zero_add, Nat.reduceAdd, Nat.reduceMul, Nat.add_zero, List.length_cons, List.length_nil, List.drop_zero, List.drop_succ_cons, List.take_succ_cons, List.take_zero, List.take_nil, true_and, and_true, Int.toNat_natCast, List.append_nil, List.nil_append, List.cons_append]
        rw [show ((t + 1 : Nat) : Int) - Int.ofNat 1 = (t : Int) from by simp only [Int.ofNat_eq_natCast]; omega]
        have htn : tickN y cl len = min y.budget ((len : Int) - cl) := rfl
        have o9 : Sl EK h9 p2 len len l := (ow.but g6.fresh fun i hi hi' => by rw [e9 i (by omega), e8 i (by omega), c7.keep i hi']).sl
        exact ih t _ (cl + tickN y cl len) p2 len h9 _ (by omega) g9 (by omega) b1 b9 o9 (by omega) (by omega) (by omega) (fun h => by
          obtain ⟨t', rfl⟩ : ∃ t', t = t' + 1 := ⟨t - 1, by omega⟩
          have em' : y.budget * ((t' + 1 : Nat) : Int) = y.budget * (t' : Int) + y.budget := by rw [Int.natCast_add, Int.mul_add]; simp
          have hbt' : 0 ≤ y.budget * (t' : Int) := Int.mul_nonneg (by omega) (by omega)
          clear em
          omega)
      · obtain rfl : t = 0 := by omega
        simp (disch := first | assumption | omega | (simp only [Int.ofNat_eq_natCast, neg_one]; done) | (simp only [Int.ofNat_eq_natCast, neg_one]; omega)) only [tysW, w_bindJ, w_logJ, w_ct, w_cf, w_gtt, w_gft, w_gtf, w_gff, w_pt, w_pf, w_lret, w_e0, w_e1, w_e2, w_nil, w_fun, w_nt, w_nf, w_add, w_sub, w_eqt, w_eqf, w_net, w_nef, w_ltt, w_ltf, w_let, w_lef, w_gtt', w_gtf', w_get, w_gef, toNat_of, of_add, cast_add, nth_0, nth_s, Nat.zero_add, Nat.reduceAdd, Nat.reduceMul, Nat.add_zero, List.length_cons, List.length_nil, List.drop_zero, List.drop_succ_cons, List.take_succ_cons, List.take_zero, List.take_nil, true_and, and_true, Int.toNat_natCast, List.append_nil, List.nil_append, List.cons_append]
        obtain rfl : cl = len := by simp at ht0; omega
        exact hJ _ _ p' cap' g1 b2
  refine loop _ (fun h1 s1 p' cap' g1 b2 => ?_) _ (fun _ _ _ _ => rfl) N q _ clean p cap h5 s5 (by omega) g5 (by omega) b1 b2 (r.from hf g5) (by omega) (by omega) (by omega) (fun _ => by omega)
  simp (disch := first | assumption | omega | (simp only [Int.ofNat_eq_natCast, neg_one]; done) | (simp only [Int.ofNat_eq_natCast, neg_one]; omega)) only [tysW, w_bindJ, w_logJ, w_ct, w_cf, w_gtt, w_gft, w_gtf, w_gff, w_pt, w_pf, w_lret, w_e0, w_e1, w_e2, w_nil, w_fun, w_nt, w_nf, w_add, w_sub, w_eqt, w_eqf, w_net, w_nef, w_ltt, w_ltf, w_let, w_lef, w_gtt', w_gtf', w_get, w_gef, toNat_of, of_add, cast_add, nth_0, nth_s, Nat.zero_add, Nat.reduceAdd, Nat.reduceMul, Nat.add_zero, List.length_cons, List.length_nil, List.drop_zero, List.drop_succ_cons, List.take_succ_cons, List.take_zero, List.take_nil, true_and, and_true, Int.toNat_natCast, List.append_nil, List.nil_append, List.cons_append, ldB b2, clB b2, ldBL b2, clBL b2]
  exact done_ _ _ g1
end
end Go.Ev.R

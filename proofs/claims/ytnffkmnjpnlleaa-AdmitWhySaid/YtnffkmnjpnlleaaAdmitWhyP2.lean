/- The law AdmitWhy, part 2: what the functions answer, by their terms. No condition. -/
import Derived.Test.YtnffkmnjpnlleaaAdmitWhyP1
set_option linter.unusedVariables false
set_option linter.unusedSimpArgs false
set_option maxRecDepth 100000
namespace Go.Ev.R
open Go Go.RowKit
abbrev vi (n : Int) : Value := .int .i64 n
def suv (x : SU) : List Value := [vi x.keep, vi x.horizon, vi x.ahead, vi x.budget, vi x.window]
abbrev suval (x : SU) : Value := .agg ⟨suv x⟩
def errI (ok : Bool) : Int := if ok = true then 0 else 2
theorem blt_max {C : CallT} (ts : Array TypeId) (t : TypeId) (cs : Array Bool) (a b : Int) (k : Value → Nat → AM) (s : Nat) : blt0 P C .max ts t cs [vi a, vi b] k s = k (vi (max a b)) s := by
  have h : pureRun P (builtin .max ts t cs ⟨[vi a, vi b]⟩) = some (.value (vi (max a b))) := by
    have h1 : Builtin.max_ ts t ⟨[vi a, vi b]⟩ = pure (.int .i64 (if b > a then b else a)) := rfl
    have h2 : (if b > a then b else a) = max a b := by split <;> omega
    rw [h2] at h1
    have : builtin .max ts t cs ⟨[vi a, vi b]⟩ = (do pure (Next.value (← Builtin.max_ ts t ⟨[vi a, vi b]⟩))) := rfl
    rw [this, h1]
    rfl
  unfold blt0 abuiltin
  dsimp only
  rw [h]
  rfl
section
variable {N d : Nat} (hN : 100000 ≤ N) {h : T} {s : Nat} (hf : ∀ n, s ≤ n → h.get n = none)
include hf
theorem s100 (n lo hi : Int) : ValS (D N (d + 1)) 100 [vi n, vi lo, vi hi] h s (.bool (wI n lo hi)) := by
  refine ValS.of hf fun K pw Z g hp hk => ?_
  rw [D_100]; unfold F100; rw [app3_eq]
  simp (disch := omega) only [tys, bindJ_eq, logJ_eq, wp_cond, wp_guard, gd_true, gd_false, pick_eq, add_eq, sub_eq, eq_eq, ne_eq, lt_eq, le_eq, gt_eq, ge_eq, shr_eq, shl_eq, quo_eq, rem_eq, not_eq, wp_log_ret, ext0, ext1, ext2, nil_eq, get_ne, get_eq, nth_0, nth_s, cells_agg, cells_int, cells_bool, cells_slice, cells_ptr, ro_zero, one_int, one_bool, one_slice, one_ptr, arr_size, overL, Nat.zero_add, Nat.reduceAdd, Nat.add_zero, List.length_cons, List.length_nil, List.all_cons, List.all_nil, Nat.reduceLeDiff, Nat.ble_eq, Bool.and_true, Bool.not_false, Bool.and_self, decide_true, List.drop_zero, List.drop_succ_cons, List.take_succ_cons, List.take_zero, List.take_nil, true_and, and_true, Int.ofNat_eq_natCast, neg_one, Int.toNat_natCast, Int.natCast_zero, Int.natCast_one, Int.cast_ofNat_Int, List.append_nil, List.nil_append, funX_eq, if_true, if_false, Bool.false_eq_true, Bool.not_true, Bool.not_false]
  unfold wI at hk
  by_cases h1 : lo ≤ n
  · simp (disch := omega) only [tys, bindJ_eq, logJ_eq, wp_cond, wp_guard, gd_true, gd_false, pick_eq, add_eq, sub_eq, eq_eq, ne_eq, lt_eq, le_eq, gt_eq, ge_eq, shr_eq, shl_eq, quo_eq, rem_eq, not_eq, wp_log_ret, ext0, ext1, ext2, nil_eq, get_ne, get_eq, nth_0, nth_s, cells_agg, cells_int, cells_bool, cells_slice, cells_ptr, ro_zero, one_int, one_bool, one_slice, one_ptr, arr_size, overL, Nat.zero_add, Nat.reduceAdd, Nat.add_zero, List.length_cons, List.length_nil, List.all_cons, List.all_nil, Nat.reduceLeDiff, Nat.ble_eq, Bool.and_true, Bool.not_false, Bool.and_self, decide_true, List.drop_zero, List.drop_succ_cons, List.take_succ_cons, List.take_zero, List.take_nil, true_and, and_true, Int.ofNat_eq_natCast, neg_one, Int.toNat_natCast, Int.natCast_zero, Int.natCast_one, Int.cast_ofNat_Int, List.append_nil, List.nil_append, funX_eq, if_true, if_false, Bool.false_eq_true, Bool.not_true, Bool.not_false, h1]
    simp only [h1, decide_true, Bool.true_and] at hk
    exact hk _ _ g
  · simp (disch := omega) only [tys, bindJ_eq, logJ_eq, wp_cond, wp_guard, gd_true, gd_false, pick_eq, add_eq, sub_eq, eq_eq, ne_eq, lt_eq, le_eq, gt_eq, ge_eq, shr_eq, shl_eq, quo_eq, rem_eq, not_eq, wp_log_ret, ext0, ext1, ext2, nil_eq, get_ne, get_eq, nth_0, nth_s, cells_agg, cells_int, cells_bool, cells_slice, cells_ptr, ro_zero, one_int, one_bool, one_slice, one_ptr, arr_size, overL, Nat.zero_add, Nat.reduceAdd, Nat.add_zero, List.length_cons, List.length_nil, List.all_cons, List.all_nil, Nat.reduceLeDiff, Nat.ble_eq, Bool.and_true, Bool.not_false, Bool.and_self, decide_true, List.drop_zero, List.drop_succ_cons, List.take_succ_cons, List.take_zero, List.take_nil, true_and, and_true, Int.ofNat_eq_natCast, neg_one, Int.toNat_natCast, Int.natCast_zero, Int.natCast_one, Int.cast_ofNat_Int, List.append_nil, List.nil_append, funX_eq, if_true, if_false, Bool.false_eq_true, Bool.not_true, Bool.not_false, h1, decide_false]
    simp only [h1, decide_false, Bool.false_and] at hk
    exact hk _ _ g
theorem s46 (x : SU) : ValS (D N (d + 2)) 46 [suval x] h s (vi (errI (chkS x))) := by
  refine ValS.of hf fun K pw Z g hp hk => ?_
  rw [D_46]; unfold F46; rw [app1_eq]
  refine wp_boxA g hp fun h1 g1 _ b1 => ?_
  replace hk := fun h' s' (g' : From (s + 1) h1 h' s') => hk h' s' (g1.trans g'); replace hp := fun n (hn : s + 1 ≤ n) => hp n (by omega); have g0 := From.refl g1.fresh
  unfold suv at b1
  simp (disch := omega) only [tys, bindJ_eq, logJ_eq, wp_cond, wp_guard, gd_true, gd_false, pick_eq, add_eq, sub_eq, eq_eq, ne_eq, lt_eq, le_eq, gt_eq, ge_eq, shr_eq, shl_eq, quo_eq, rem_eq, not_eq, wp_log_ret, ext0, ext1, ext2, nil_eq, get_ne, get_eq, nth_0, nth_s, cells_agg, cells_int, cells_bool, cells_slice, cells_ptr, ro_zero, one_int, one_bool, one_slice, one_ptr, arr_size, overL, Nat.zero_add, Nat.reduceAdd, Nat.add_zero, List.length_cons, List.length_nil, List.all_cons, List.all_nil, Nat.reduceLeDiff, Nat.ble_eq, Bool.and_true, Bool.not_false, Bool.and_self, decide_true, List.drop_zero, List.drop_succ_cons, List.take_succ_cons, List.take_zero, List.take_nil, true_and, and_true, Int.ofNat_eq_natCast, neg_one, Int.toNat_natCast, Int.natCast_zero, Int.natCast_one, Int.cast_ofNat_Int, List.append_nil, List.nil_append, ldB b1, clB b1, ldBL b1, clBL b1, funX_eq, if_true, if_false, Bool.false_eq_true, Bool.not_true, Bool.not_false]
  refine ValS.go g0 hp (s100 g0.fresh _ _ _) fun k1 s1 u1 _ => ?_
  cases e1 : wI x.keep 1 200 with
  | false =>
    simp (disch := omega) only [tys, bindJ_eq, logJ_eq, wp_cond, wp_guard, gd_true, gd_false, pick_eq, add_eq, sub_eq, eq_eq, ne_eq, lt_eq, le_eq, gt_eq, ge_eq, shr_eq, shl_eq, quo_eq, rem_eq, not_eq, wp_log_ret, ext0, ext1, ext2, nil_eq, get_ne, get_eq, nth_0, nth_s, cells_agg, cells_int, cells_bool, cells_slice, cells_ptr, ro_zero, one_int, one_bool, one_slice, one_ptr, arr_size, overL, Nat.zero_add, Nat.reduceAdd, Nat.add_zero, List.length_cons, List.length_nil, List.all_cons, List.all_nil, Nat.reduceLeDiff, Nat.ble_eq, Bool.and_true, Bool.not_false, Bool.and_self, decide_true, List.drop_zero, List.drop_succ_cons, List.take_succ_cons, List.take_zero, List.take_nil, true_and, and_true, Int.ofNat_eq_natCast, neg_one, Int.toNat_natCast, Int.natCast_zero, Int.natCast_one, Int.cast_ofNat_Int, List.append_nil, List.nil_append, ldB (u1.box b1 (by omega)), clB (u1.box b1 (by omega)), ldBL (u1.box b1 (by omega)), clBL (u1.box b1 (by omega)), funX_eq, if_true, if_false, Bool.false_eq_true, Bool.not_true, Bool.not_false, X46_1]
    have := hk _ _ u1
    simp only [errI, chkS, e1, Bool.true_and, Bool.false_and, Bool.and_self, Bool.false_eq_true, if_false] at this
    exact this
  | true =>
  simp (disch := omega) only [tys, bindJ_eq, logJ_eq, wp_cond, wp_guard, gd_true, gd_false, pick_eq, add_eq, sub_eq, eq_eq, ne_eq, lt_eq, le_eq, gt_eq, ge_eq, shr_eq, shl_eq, quo_eq, rem_eq, not_eq, wp_log_ret, ext0, ext1, ext2, nil_eq, get_ne, get_eq, nth_0, nth_s, cells_agg, cells_int, cells_bool, cells_slice, cells_ptr, ro_zero, one_int, one_bool, one_slice, one_ptr, arr_size, overL, Nat.zero_add, Nat.reduceAdd, Nat.add_zero, List.length_cons, List.length_nil, List.all_cons, List.all_nil, Nat.reduceLeDiff, Nat.ble_eq, Bool.and_true, Bool.not_false, Bool.and_self, decide_true, List.drop_zero, List.drop_succ_cons, List.take_succ_cons, List.take_zero, List.take_nil, true_and, and_true, Int.ofNat_eq_natCast, neg_one, Int.toNat_natCast, Int.natCast_zero, Int.natCast_one, Int.cast_ofNat_Int, List.append_nil, List.nil_append, ldB (u1.box b1 (by omega)), clB (u1.box b1 (by omega)), ldBL (u1.box b1 (by omega)), clBL (u1.box b1 (by omega)), funX_eq, if_true, if_false, Bool.false_eq_true, Bool.not_true, Bool.not_false, X46_1]
  refine ValS.go u1 hp (s100 u1.fresh _ _ _) fun k2 s2 u2 _ => ?_
  cases e2 : wI x.horizon 0 1099511627776 with
  | false =>
    simp (disch := omega) only [tys, bindJ_eq, logJ_eq, wp_cond, wp_guard, gd_true, gd_false, pick_eq, add_eq, sub_eq, eq_eq, ne_eq, lt_eq, le_eq, gt_eq, ge_eq, shr_eq, shl_eq, quo_eq, rem_eq, not_eq, wp_log_ret, ext0, ext1, ext2, nil_eq, get_ne, get_eq, nth_0, nth_s, cells_agg, cells_int, cells_bool, cells_slice, cells_ptr, ro_zero, one_int, one_bool, one_slice, one_ptr, arr_size, overL, Nat.zero_add, Nat.reduceAdd, Nat.add_zero, List.length_cons, List.length_nil, List.all_cons, List.all_nil, Nat.reduceLeDiff, Nat.ble_eq, Bool.and_true, Bool.not_false, Bool.and_self, decide_true, List.drop_zero, List.drop_succ_cons, List.take_succ_cons, List.take_zero, List.take_nil, true_and, and_true, Int.ofNat_eq_natCast, neg_one, Int.toNat_natCast, Int.natCast_zero, Int.natCast_one, Int.cast_ofNat_Int, List.append_nil, List.nil_append, ldB (u2.box b1 (by omega)), clB (u2.box b1 (by omega)), ldBL (u2.box b1 (by omega)), clBL (u2.box b1 (by omega)), funX_eq, if_true, if_false, Bool.false_eq_true, Bool.not_true, Bool.not_false, X46_1]
    have := hk _ _ u2
    simp only [errI, chkS, e1, e2, Bool.true_and, Bool.false_and, Bool.and_self, Bool.false_eq_true, if_false] at this
    exact this
  | true =>
  simp (disch := omega) only [tys, bindJ_eq, logJ_eq, wp_cond, wp_guard, gd_true, gd_false, pick_eq, add_eq, sub_eq, eq_eq, ne_eq, lt_eq, le_eq, gt_eq, ge_eq, shr_eq, shl_eq, quo_eq, rem_eq, not_eq, wp_log_ret, ext0, ext1, ext2, nil_eq, get_ne, get_eq, nth_0, nth_s, cells_agg, cells_int, cells_bool, cells_slice, cells_ptr, ro_zero, one_int, one_bool, one_slice, one_ptr, arr_size, overL, Nat.zero_add, Nat.reduceAdd, Nat.add_zero, List.length_cons, List.length_nil, List.all_cons, List.all_nil, Nat.reduceLeDiff, Nat.ble_eq, Bool.and_true, Bool.not_false, Bool.and_self, decide_true, List.drop_zero, List.drop_succ_cons, List.take_succ_cons, List.take_zero, List.take_nil, true_and, and_true, Int.ofNat_eq_natCast, neg_one, Int.toNat_natCast, Int.natCast_zero, Int.natCast_one, Int.cast_ofNat_Int, List.append_nil, List.nil_append, ldB (u2.box b1 (by omega)), clB (u2.box b1 (by omega)), ldBL (u2.box b1 (by omega)), clBL (u2.box b1 (by omega)), funX_eq, if_true, if_false, Bool.false_eq_true, Bool.not_true, Bool.not_false, X46_1]
  refine ValS.go u2 hp (s100 u2.fresh _ _ _) fun k3 s3 u3 _ => ?_
  cases e3 : wI x.ahead 0 1073741824 with
  | false =>
    simp (disch := omega) only [tys, bindJ_eq, logJ_eq, wp_cond, wp_guard, gd_true, gd_false, pick_eq, add_eq, sub_eq, eq_eq, ne_eq, lt_eq, le_eq, gt_eq, ge_eq, shr_eq, shl_eq, quo_eq, rem_eq, not_eq, wp_log_ret, ext0, ext1, ext2, nil_eq, get_ne, get_eq, nth_0, nth_s, cells_agg, cells_int, cells_bool, cells_slice, cells_ptr, ro_zero, one_int, one_bool, one_slice, one_ptr, arr_size, overL, Nat.zero_add, Nat.reduceAdd, Nat.add_zero, List.length_cons, List.length_nil, List.all_cons, List.all_nil, Nat.reduceLeDiff, Nat.ble_eq, Bool.and_true, Bool.not_false, Bool.and_self, decide_true, List.drop_zero, List.drop_succ_cons, List.take_succ_cons, List.take_zero, List.take_nil, true_and, and_true, Int.ofNat_eq_natCast, neg_one, Int.toNat_natCast, Int.natCast_zero, Int.natCast_one, Int.cast_ofNat_Int, List.append_nil, List.nil_append, ldB (u3.box b1 (by omega)), clB (u3.box b1 (by omega)), ldBL (u3.box b1 (by omega)), clBL (u3.box b1 (by omega)), funX_eq, if_true, if_false, Bool.false_eq_true, Bool.not_true, Bool.not_false, X46_1]
    have := hk _ _ u3
    simp only [errI, chkS, e1, e2, e3, Bool.true_and, Bool.false_and, Bool.and_self, Bool.false_eq_true, if_false] at this
    exact this
  | true =>
  simp (disch := omega) only [tys, bindJ_eq, logJ_eq, wp_cond, wp_guard, gd_true, gd_false, pick_eq, add_eq, sub_eq, eq_eq, ne_eq, lt_eq, le_eq, gt_eq, ge_eq, shr_eq, shl_eq, quo_eq, rem_eq, not_eq, wp_log_ret, ext0, ext1, ext2, nil_eq, get_ne, get_eq, nth_0, nth_s, cells_agg, cells_int, cells_bool, cells_slice, cells_ptr, ro_zero, one_int, one_bool, one_slice, one_ptr, arr_size, overL, Nat.zero_add, Nat.reduceAdd, Nat.add_zero, List.length_cons, List.length_nil, List.all_cons, List.all_nil, Nat.reduceLeDiff, Nat.ble_eq, Bool.and_true, Bool.not_false, Bool.and_self, decide_true, List.drop_zero, List.drop_succ_cons, List.take_succ_cons, List.take_zero, List.take_nil, true_and, and_true, Int.ofNat_eq_natCast, neg_one, Int.toNat_natCast, Int.natCast_zero, Int.natCast_one, Int.cast_ofNat_Int, List.append_nil, List.nil_append, ldB (u3.box b1 (by omega)), clB (u3.box b1 (by omega)), ldBL (u3.box b1 (by omega)), clBL (u3.box b1 (by omega)), funX_eq, if_true, if_false, Bool.false_eq_true, Bool.not_true, Bool.not_false, X46_1]
  refine ValS.go u3 hp (s100 u3.fresh _ _ _) fun k4 s4 u4 _ => ?_
  cases e4 : wI x.budget 1 200 with
  | false =>
    simp (disch := omega) only [tys, bindJ_eq, logJ_eq, wp_cond, wp_guard, gd_true, gd_false, pick_eq, add_eq, sub_eq, eq_eq, ne_eq, lt_eq, le_eq, gt_eq, ge_eq, shr_eq, shl_eq, quo_eq, rem_eq, not_eq, wp_log_ret, ext0, ext1, ext2, nil_eq, get_ne, get_eq, nth_0, nth_s, cells_agg, cells_int, cells_bool, cells_slice, cells_ptr, ro_zero, one_int, one_bool, one_slice, one_ptr, arr_size, overL, Nat.zero_add, Nat.reduceAdd, Nat.add_zero, List.length_cons, List.length_nil, List.all_cons, List.all_nil, Nat.reduceLeDiff, Nat.ble_eq, Bool.and_true, Bool.not_false, Bool.and_self, decide_true, List.drop_zero, List.drop_succ_cons, List.take_succ_cons, List.take_zero, List.take_nil, true_and, and_true, Int.ofNat_eq_natCast, neg_one, Int.toNat_natCast, Int.natCast_zero, Int.natCast_one, Int.cast_ofNat_Int, List.append_nil, List.nil_append, ldB (u4.box b1 (by omega)), clB (u4.box b1 (by omega)), ldBL (u4.box b1 (by omega)), clBL (u4.box b1 (by omega)), funX_eq, if_true, if_false, Bool.false_eq_true, Bool.not_true, Bool.not_false, X46_1]
    have := hk _ _ u4
    simp only [errI, chkS, e1, e2, e3, e4, Bool.true_and, Bool.false_and, Bool.and_self, Bool.false_eq_true, if_false] at this
    exact this
  | true =>
  simp (disch := omega) only [tys, bindJ_eq, logJ_eq, wp_cond, wp_guard, gd_true, gd_false, pick_eq, add_eq, sub_eq, eq_eq, ne_eq, lt_eq, le_eq, gt_eq, ge_eq, shr_eq, shl_eq, quo_eq, rem_eq, not_eq, wp_log_ret, ext0, ext1, ext2, nil_eq, get_ne, get_eq, nth_0, nth_s, cells_agg, cells_int, cells_bool, cells_slice, cells_ptr, ro_zero, one_int, one_bool, one_slice, one_ptr, arr_size, overL, Nat.zero_add, Nat.reduceAdd, Nat.add_zero, List.length_cons, List.length_nil, List.all_cons, List.all_nil, Nat.reduceLeDiff, Nat.ble_eq, Bool.and_true, Bool.not_false, Bool.and_self, decide_true, List.drop_zero, List.drop_succ_cons, List.take_succ_cons, List.take_zero, List.take_nil, true_and, and_true, Int.ofNat_eq_natCast, neg_one, Int.toNat_natCast, Int.natCast_zero, Int.natCast_one, Int.cast_ofNat_Int, List.append_nil, List.nil_append, ldB (u4.box b1 (by omega)), clB (u4.box b1 (by omega)), ldBL (u4.box b1 (by omega)), clBL (u4.box b1 (by omega)), funX_eq, if_true, if_false, Bool.false_eq_true, Bool.not_true, Bool.not_false, X46_1]
  refine ValS.go u4 hp (s100 u4.fresh _ _ _) fun k5 s5 u5 _ => ?_
  cases e5 : wI x.window 1 32 with
  | false =>
    simp (disch := omega) only [tys, bindJ_eq, logJ_eq, wp_cond, wp_guard, gd_true, gd_false, pick_eq, add_eq, sub_eq, eq_eq, ne_eq, lt_eq, le_eq, gt_eq, ge_eq, shr_eq, shl_eq, quo_eq, rem_eq, not_eq, wp_log_ret, ext0, ext1, ext2, nil_eq, get_ne, get_eq, nth_0, nth_s, cells_agg, cells_int, cells_bool, cells_slice, cells_ptr, ro_zero, one_int, one_bool, one_slice, one_ptr, arr_size, overL, Nat.zero_add, Nat.reduceAdd, Nat.add_zero, List.length_cons, List.length_nil, List.all_cons, List.all_nil, Nat.reduceLeDiff, Nat.ble_eq, Bool.and_true, Bool.not_false, Bool.and_self, decide_true, List.drop_zero, List.drop_succ_cons, List.take_succ_cons, List.take_zero, List.take_nil, true_and, and_true, Int.ofNat_eq_natCast, neg_one, Int.toNat_natCast, Int.natCast_zero, Int.natCast_one, Int.cast_ofNat_Int, List.append_nil, List.nil_append, ldB (u5.box b1 (by omega)), clB (u5.box b1 (by omega)), ldBL (u5.box b1 (by omega)), clBL (u5.box b1 (by omega)), funX_eq, if_true, if_false, Bool.false_eq_true, Bool.not_true, Bool.not_false, X46_1]
    have := hk _ _ u5
    simp only [errI, chkS, e1, e2, e3, e4, e5, Bool.true_and, Bool.false_and, Bool.and_self, Bool.false_eq_true, if_false] at this
    exact this
  | true =>
    simp (disch := omega) only [tys, bindJ_eq, logJ_eq, wp_cond, wp_guard, gd_true, gd_false, pick_eq, add_eq, sub_eq, eq_eq, ne_eq, lt_eq, le_eq, gt_eq, ge_eq, shr_eq, shl_eq, quo_eq, rem_eq, not_eq, wp_log_ret, ext0, ext1, ext2, nil_eq, get_ne, get_eq, nth_0, nth_s, cells_agg, cells_int, cells_bool, cells_slice, cells_ptr, ro_zero, one_int, one_bool, one_slice, one_ptr, arr_size, overL, Nat.zero_add, Nat.reduceAdd, Nat.add_zero, List.length_cons, List.length_nil, List.all_cons, List.all_nil, Nat.reduceLeDiff, Nat.ble_eq, Bool.and_true, Bool.not_false, Bool.and_self, decide_true, List.drop_zero, List.drop_succ_cons, List.take_succ_cons, List.take_zero, List.take_nil, true_and, and_true, Int.ofNat_eq_natCast, neg_one, Int.toNat_natCast, Int.natCast_zero, Int.natCast_one, Int.cast_ofNat_Int, List.append_nil, List.nil_append, ldB (u5.box b1 (by omega)), clB (u5.box b1 (by omega)), ldBL (u5.box b1 (by omega)), clBL (u5.box b1 (by omega)), funX_eq, if_true, if_false, Bool.false_eq_true, Bool.not_true, Bool.not_false, X46_1]
    have := hk _ _ u5
    simp only [errI, chkS, e1, e2, e3, e4, e5, Bool.and_self, if_true] at this
    exact this
end
end Go.Ev.R
namespace Go.Ev.R
open Go Go.RowKit
def shv (base : Int) (p : Option Addr) (len cap : Nat) (clean : Int) : List Value := [vi base, .slice p len cap, vi clean]
abbrev shval (base : Int) (p : Option Addr) (len cap : Nat) (clean : Int) : Value := .agg ⟨shv base p len cap clean⟩
theorem twinAny_take {l : List K3} {i : Nat} {x k : K3} (hx : l[i]? = some x) (h : twinAny (l.take i) k = false) (ht : twinK x k = false) : twinAny (l.take (i + 1)) k = false := by
  unfold twinAny at *
  rw [List.take_add_one, List.any_append, h, hx]
  simp [ht]
theorem twinAny_at {l : List K3} {i : Nat} {x k : K3} (hx : l[i]? = some x) (ht : twinK x k = true) : twinAny l k = true := by
  unfold twinAny
  rw [List.any_eq_true]
  exact ⟨x, List.mem_of_getElem? hx, ht⟩
theorem Row.fld {α : Type} {E : Enc α} {l : List α} {i j : Nat} {x : α} {v : Value} (hx : l[i]? = some x) (hj : (E.f x)[j]? = some v) : (l.flatMap E.f)[i * E.z + j]? = some v := by
  have h1 := E.flat_at l i x hx
  have hlt : j < E.z := by rw [← E.len x]; exact (List.getElem?_eq_some_iff.1 hj).1
  rw [← h1, List.getElem?_take, if_pos hlt, List.getElem?_drop] at hj
  exact hj
section
variable {h : T} {p : Option Addr} {len : Nat} {l : List K3} (r : Row EK h p len l) {i : Nat} {x : K3} (hx : l[i]? = some x) {pw : Nat → Prop} {Z : Value → T → Prop} (k : Value → Nat → AM) (j : LogT) (s : Nat)
include r hx
theorem rowA : (aload (blk p) (off p + i * 3) k s).wp pw Z h = (k (vi x.a) s).wp pw Z h := r.2.one (Row.fld (E := EK) (j := 0) hx rfl) k s
theorem rowB : (aload (blk p) (off p + i * 3 + 1) k s).wp pw Z h = (k (vi x.b) s).wp pw Z h := by
  have := r.2.one (Row.fld (E := EK) (j := 1) hx rfl) k s (pw := pw) (Z := Z)
  rw [← Nat.add_assoc] at this; exact this
theorem rowC : (aload (blk p) (off p + i * 3 + 2) k s).wp pw Z h = (k (vi x.c) s).wp pw Z h := by
  have := r.2.one (Row.fld (E := EK) (j := 2) hx rfl) k s (pw := pw) (Z := Z)
  rw [← Nat.add_assoc] at this; exact this
theorem rowAL : (AM.log (aload (blk p) (off p + i * 3) (fun v s => .ret (pk v s)) s) (logU j)).wp pw Z h = (j (vi x.a) [blk p] [] s).wp pw Z h := r.2.oneL (Row.fld (E := EK) (j := 0) hx rfl) j s
theorem rowBL : (AM.log (aload (blk p) (off p + i * 3 + 1) (fun v s => .ret (pk v s)) s) (logU j)).wp pw Z h = (j (vi x.b) [blk p] [] s).wp pw Z h := by
  have := r.2.oneL (Row.fld (E := EK) (j := 1) hx rfl) j s (pw := pw) (Z := Z)
  rw [← Nat.add_assoc] at this; exact this
theorem rowCL : (AM.log (aload (blk p) (off p + i * 3 + 2) (fun v s => .ret (pk v s)) s) (logU j)).wp pw Z h = (j (vi x.c) [blk p] [] s).wp pw Z h := by
  have := r.2.oneL (Row.fld (E := EK) (j := 2) hx rfl) j s (pw := pw) (Z := Z)
  rw [← Nat.add_assoc] at this; exact this
end
section
variable {h : T} {p : Option Addr} {len : Nat} {l : List K3} (r : Row EK h p len l) {x : K3} (hx : l[0]? = some x) {pw : Nat → Prop} {Z : Value → T → Prop} (k : Value → Nat → AM) (j : LogT) (s : Nat)
include r hx
theorem rowA0 : (aload (blk p) (off p) k s).wp pw Z h = (k (vi x.a) s).wp pw Z h := by
  have := rowA r hx (pw := pw) (Z := Z) k s
  rwa [Nat.zero_mul, Nat.add_zero] at this
theorem rowA0L : (AM.log (aload (blk p) (off p) (fun v s => .ret (pk v s)) s) (logU j)).wp pw Z h = (j (vi x.a) [blk p] [] s).wp pw Z h := by
  have := rowAL r hx (pw := pw) (Z := Z) j s
  rwa [Nat.zero_mul, Nat.add_zero] at this
theorem row30L (q : List Value → Value) : (AM.log (acells (blk p) (off p) 3 (fun l s => .ret (pk (q l) s)) s) (logU j)).wp pw Z h = (j (q (kv x)) [blk p] [] s).wp pw Z h := by
  have := row3L r hx (pw := pw) (Z := Z) q j s
  rwa [Nat.zero_mul, Nat.add_zero] at this
theorem row30 (q : List Value → Nat → AM) : (acells (blk p) (off p) 3 q s).wp pw Z h = (q (kv x) s).wp pw Z h := by
  have := row3 r hx (pw := pw) (Z := Z) q s
  rwa [Nat.zero_mul, Nat.add_zero] at this
end
section
variable {N d : Nat} (hN : 100000 ≤ N) {h : T} {s : Nat} (hf : ∀ n, s ≤ n → h.get n = none)
include hf
theorem s151 (x k : K3) {b : Nat} (hb : h.get b = some (.cells ⟨kv k⟩ 48 (0, 0))) (hbs : b < s) : ValS (D N (d + 2)) 151 [kval x, .pointer (some ⟨b, 0, none⟩)] h s (.bool (twinK x k)) := by
  refine ValS.of hf fun K pw Z g hp hk => ?_
  rw [D_151]; unfold F151; rw [app2_eq]
  refine wp_boxA g hp fun h1 g1 c1 b1 => ?_
  replace hk := fun h' s' (g' : From (s + 1) h1 h' s') => hk h' s' (g1.trans g'); replace hp := fun n (hn : s + 1 ≤ n) => hp n (by omega); have g0 := From.refl g1.fresh
  have hb1 := c1.box hb hbs
  simp only [kv] at b1 hb1
  simp (disch := omega) only [tys, bindJ_eq, logJ_eq, wp_cond, wp_guard, gd_true, gd_false, pick_eq, add_eq, sub_eq, eq_eq, ne_eq, lt_eq, le_eq, gt_eq, ge_eq, shr_eq, shl_eq, quo_eq, rem_eq, not_eq, wp_log_ret, ext0, ext1, ext2, nil_eq, get_ne, get_eq, nth_0, nth_s, cells_agg, cells_int, cells_bool, cells_slice, cells_ptr, ro_zero, one_int, one_bool, one_slice, one_ptr, arr_size, overL, Nat.zero_add, Nat.reduceAdd, Nat.add_zero, List.length_cons, List.length_nil, List.all_cons, List.all_nil, Nat.reduceLeDiff, Nat.ble_eq, Bool.and_true, Bool.not_false, Bool.and_self, decide_true, List.drop_zero, List.drop_succ_cons, List.take_succ_cons, List.take_zero, List.take_nil, true_and, and_true, Int.ofNat_eq_natCast, neg_one, Int.toNat_natCast, Int.natCast_zero, Int.natCast_one, Int.cast_ofNat_Int, List.append_nil, List.nil_append, ldB b1, clB b1, ldBL b1, clBL b1, ldB hb1, clB hb1, ldBL hb1, clBL hb1, funX_eq, if_true, if_false, Bool.false_eq_true, Bool.not_true, Bool.not_false]
  exact ValS.go g0 hp (s32 g0.fresh x k) fun h2 s2 u2 _ => hk _ _ u2
include hN
theorem s172 {p : Option Addr} {len cap : Nat} {l : List K3} (r : Row EK h p len l) (hl : len ≤ 10000) (k : K3) {b : Nat} (hb : h.get b = some (.cells ⟨kv k⟩ 48 (0, 0))) (hbs : b < s) :
    PureS (D N (d + 3)) 172 [.slice p len cap, .func (.func 151) ⟨[]⟩ ⟨[.pointer (some ⟨b, 0, none⟩)]⟩] h s (fun v _ _ => ∃ n : Int, v = vi n ∧ decide (0 ≤ n) = twinAny l k) := by
  refine PureS.of hf fun K pw Z g hp hk => ?_
  rw [D_172]; unfold F172; rw [app2_eq]
  simp (disch := omega) only [tys, bindJ_eq, logJ_eq, wp_cond, wp_guard, gd_true, gd_false, pick_eq, add_eq, sub_eq, eq_eq, ne_eq, lt_eq, le_eq, gt_eq, ge_eq, shr_eq, shl_eq, quo_eq, rem_eq, not_eq, wp_log_ret, ext0, ext1, ext2, nil_eq, get_ne, get_eq, nth_0, nth_s, cells_agg, cells_int, cells_bool, cells_slice, cells_ptr, ro_zero, one_int, one_bool, one_slice, one_ptr, arr_size, overL, Nat.zero_add, Nat.reduceAdd, Nat.add_zero, List.length_cons, List.length_nil, List.all_cons, List.all_nil, Nat.reduceLeDiff, Nat.ble_eq, Bool.and_true, Bool.not_false, Bool.and_self, decide_true, List.drop_zero, List.drop_succ_cons, List.take_succ_cons, List.take_zero, List.take_nil, true_and, and_true, Int.ofNat_eq_natCast, neg_one, Int.toNat_natCast, Int.natCast_zero, Int.natCast_one, Int.cast_ofNat_Int, List.append_nil, List.nil_append, funX_eq, if_true, if_false, Bool.false_eq_true, Bool.not_true, Bool.not_false]
  have loop : ∀ (B : (Value → Value → Nat → AM) → Value → Value → Nat → AM) (hB : ∀ H u i s, B H u i s = X172_1 N (D N (d + 2)) K (vi len) (.slice p len cap) (.func (.func 151) ⟨[]⟩ ⟨[.pointer (some ⟨b, 0, none⟩)]⟩) (fun s => K (vi (-1)) s) H u i s) (m i : Nat) (u : Value) (h1 : T) (s1 : Nat), len - i < m → i ≤ len → twinAny (l.take i) k = false → From s h h1 s1 →
      (loopJ m 2 (fun _ _ _ => AM.fail) B u (vi i) s1).wp pw Z h1 := by
    intro B hB m
    induction m with
    | zero => intro i u h1 s1 hm; omega
    | succ m ih =>
      intro i u h1 s1 hm hil ht g1
      have r1 := g1.row hf r
      rw [loopJ_succ, hB]
      unfold X172_1
      by_cases hlt : i < len
      · obtain ⟨x, hx⟩ := get_some (l := l) (i := i) (by rw [r.1]; omega)
        simp (disch := omega) only [tys, bindJ_eq, logJ_eq, wp_cond, wp_guard, gd_true, gd_false, pick_eq, add_eq, sub_eq, eq_eq, ne_eq, lt_eq, le_eq, gt_eq, ge_eq, shr_eq, shl_eq, quo_eq, rem_eq, not_eq, wp_log_ret, ext0, ext1, ext2, nil_eq, get_ne, get_eq, nth_0, nth_s, cells_agg, cells_int, cells_bool, cells_slice, cells_ptr, ro_zero, one_int, one_bool, one_slice, one_ptr, arr_size, overL, Nat.zero_add, Nat.reduceAdd, Nat.add_zero, List.length_cons, List.length_nil, List.all_cons, List.all_nil, Nat.reduceLeDiff, Nat.ble_eq, Bool.and_true, Bool.not_false, Bool.and_self, decide_true, List.drop_zero, List.drop_succ_cons, List.take_succ_cons, List.take_zero, List.take_nil, true_and, and_true, Int.ofNat_eq_natCast, neg_one, Int.toNat_natCast, Int.natCast_zero, Int.natCast_one, Int.cast_ofNat_Int, List.append_nil, List.nil_append, funX_eq, if_true, if_false, Bool.false_eq_true, Bool.not_true, Bool.not_false, show (i : Int) < (len : Int) by omega, xa3 r1 (j := (i : Int)) (by omega) (by omega), row3 r1 hx, iv_151, List.cons_append]
        refine ValS.go g1 hp (s151 g1.fresh x k (g1.box hb hbs) (by have := g1.le; omega)) fun h2 s2 g2 _ => ?_
        cases e : twinK x k with
        | true =>
          simp (disch := omega) only [tys, bindJ_eq, logJ_eq, wp_cond, wp_guard, gd_true, gd_false, pick_eq, add_eq, sub_eq, eq_eq, ne_eq, lt_eq, le_eq, gt_eq, ge_eq, shr_eq, shl_eq, quo_eq, rem_eq, not_eq, wp_log_ret, ext0, ext1, ext2, nil_eq, get_ne, get_eq, nth_0, nth_s, cells_agg, cells_int, cells_bool, cells_slice, cells_ptr, ro_zero, one_int, one_bool, one_slice, one_ptr, arr_size, overL, Nat.zero_add, Nat.reduceAdd, Nat.add_zero, List.length_cons, List.length_nil, List.all_cons, List.all_nil, Nat.reduceLeDiff, Nat.ble_eq, Bool.and_true, Bool.not_false, Bool.and_self, decide_true, List.drop_zero, List.drop_succ_cons, List.take_succ_cons, List.take_zero, List.take_nil, true_and, and_true, Int.ofNat_eq_natCast, neg_one, Int.toNat_natCast, Int.natCast_zero, Int.natCast_one, Int.cast_ofNat_Int, List.append_nil, List.nil_append, funX_eq, if_true, if_false, Bool.false_eq_true, Bool.not_true, Bool.not_false]
          exact hk _ _ _ g2 ⟨(i : Int), rfl, by rw [twinAny_at hx e]; simp⟩
        | false =>
          simp (disch := omega) only [tys, bindJ_eq, logJ_eq, wp_cond, wp_guard, gd_true, gd_false, pick_eq, add_eq, sub_eq, eq_eq, ne_eq, lt_eq, le_eq, gt_eq, ge_eq, shr_eq, shl_eq, quo_eq, rem_eq, not_eq, wp_log_ret, ext0, ext1, ext2, nil_eq, get_ne, get_eq, nth_0, nth_s, cells_agg, cells_int, cells_bool, cells_slice, cells_ptr, ro_zero, one_int, one_bool, one_slice, one_ptr, arr_size, overL, Nat.zero_add, Nat.reduceAdd, Nat.add_zero, List.length_cons, List.length_nil, List.all_cons, List.all_nil, Nat.reduceLeDiff, Nat.ble_eq, Bool.and_true, Bool.not_false, Bool.and_self, decide_true, List.drop_zero, List.drop_succ_cons, List.take_succ_cons, List.take_zero, List.take_nil, true_and, and_true, Int.ofNat_eq_natCast, neg_one, Int.toNat_natCast, Int.natCast_zero, Int.natCast_one, Int.cast_ofNat_Int, List.append_nil, List.nil_append, funX_eq, if_true, if_false, Bool.false_eq_true, Bool.not_true, Bool.not_false, wrapS (i := i) (by omega)]
          exact ih (i + 1) u h2 s2 (by omega) (by omega) (twinAny_take hx ht e) g2
      · obtain rfl : i = len := by omega
        simp (disch := omega) only [tys, bindJ_eq, logJ_eq, wp_cond, wp_guard, gd_true, gd_false, pick_eq, add_eq, sub_eq, eq_eq, ne_eq, lt_eq, le_eq, gt_eq, ge_eq, shr_eq, shl_eq, quo_eq, rem_eq, not_eq, wp_log_ret, ext0, ext1, ext2, nil_eq, get_ne, get_eq, nth_0, nth_s, cells_agg, cells_int, cells_bool, cells_slice, cells_ptr, ro_zero, one_int, one_bool, one_slice, one_ptr, arr_size, overL, Nat.zero_add, Nat.reduceAdd, Nat.add_zero, List.length_cons, List.length_nil, List.all_cons, List.all_nil, Nat.reduceLeDiff, Nat.ble_eq, Bool.and_true, Bool.not_false, Bool.and_self, decide_true, List.drop_zero, List.drop_succ_cons, List.take_succ_cons, List.take_zero, List.take_nil, true_and, and_true, Int.ofNat_eq_natCast, neg_one, Int.toNat_natCast, Int.natCast_zero, Int.natCast_one, Int.cast_ofNat_Int, List.append_nil, List.nil_append, funX_eq, if_true, if_false, Bool.false_eq_true, Bool.not_true, Bool.not_false, Int.lt_irrefl, decide_false]
        rw [List.take_of_length_le (by rw [r.1]; exact Nat.le_refl _)] at ht
        exact hk _ _ _ g1 ⟨-1, rfl, by rw [ht]; rfl⟩
  exact loop _ (fun _ _ _ _ => rfl) N 0 _ h s (by omega) (by omega) rfl g
theorem s102 {p : Option Addr} {len cap : Nat} {l : List K3} (r : Row EK h p len l) (hl : len ≤ 10000) (k : K3) : ValS (D N (d + 5)) 102 [.slice p len cap, kval k] h s (.bool (twinAny l k)) := by
  refine ValS.of hf fun K pw Z g hp hk => ?_
  rw [D_102]; unfold F102; rw [app2_eq]
  refine wp_boxA g hp fun h1 g1 c1 b1 => ?_
  replace hk := fun h' s' (g' : From (s + 1) h1 h' s') => hk h' s' (g1.trans g'); replace hp := fun n (hn : s + 1 ≤ n) => hp n (by omega); have g0 := From.refl g1.fresh
  simp (disch := omega) only [tys, bindJ_eq, logJ_eq, wp_cond, wp_guard, gd_true, gd_false, pick_eq, add_eq, sub_eq, eq_eq, ne_eq, lt_eq, le_eq, gt_eq, ge_eq, shr_eq, shl_eq, quo_eq, rem_eq, not_eq, wp_log_ret, ext0, ext1, ext2, nil_eq, get_ne, get_eq, nth_0, nth_s, cells_agg, cells_int, cells_bool, cells_slice, cells_ptr, ro_zero, one_int, one_bool, one_slice, one_ptr, arr_size, overL, Nat.zero_add, Nat.reduceAdd, Nat.add_zero, List.length_cons, List.length_nil, List.all_cons, List.all_nil, Nat.reduceLeDiff, Nat.ble_eq, Bool.and_true, Bool.not_false, Bool.and_self, decide_true, List.drop_zero, List.drop_succ_cons, List.take_succ_cons, List.take_zero, List.take_nil, true_and, and_true, Int.ofNat_eq_natCast, neg_one, Int.toNat_natCast, Int.natCast_zero, Int.natCast_one, Int.cast_ofNat_Int, List.append_nil, List.nil_append, funX_eq, if_true, if_false, Bool.false_eq_true, Bool.not_true, Bool.not_false, D_150, F150, app2_eq]
  refine PureS.go g0 hp (s172 hN g0.fresh (g1.row hf r) hl k b1 (by omega)) fun v h2 s2 g2 _ hv => ?_
  obtain ⟨n, rfl, hn⟩ := hv
  simp (disch := omega) only [tys, bindJ_eq, logJ_eq, wp_cond, wp_guard, gd_true, gd_false, pick_eq, add_eq, sub_eq, eq_eq, ne_eq, lt_eq, le_eq, gt_eq, ge_eq, shr_eq, shl_eq, quo_eq, rem_eq, not_eq, wp_log_ret, ext0, ext1, ext2, nil_eq, get_ne, get_eq, nth_0, nth_s, cells_agg, cells_int, cells_bool, cells_slice, cells_ptr, ro_zero, one_int, one_bool, one_slice, one_ptr, arr_size, overL, Nat.zero_add, Nat.reduceAdd, Nat.add_zero, List.length_cons, List.length_nil, List.all_cons, List.all_nil, Nat.reduceLeDiff, Nat.ble_eq, Bool.and_true, Bool.not_false, Bool.and_self, decide_true, List.drop_zero, List.drop_succ_cons, List.take_succ_cons, List.take_zero, List.take_nil, true_and, and_true, Int.ofNat_eq_natCast, neg_one, Int.toNat_natCast, Int.natCast_zero, Int.natCast_one, Int.cast_ofNat_Int, List.append_nil, List.nil_append, funX_eq, if_true, if_false, Bool.false_eq_true, Bool.not_true, Bool.not_false]
  rw [hn]
  exact hk _ _ g2
omit hN
theorem s104 (x : SU) (base clean : Int) {p : Option Addr} {len cap : Nat} {l : List K3} (r : Row EK h p len l) : ValS (D N (d + 1)) 104 [suval x, shval base p len cap clean] h s (.bool (fullK x l)) := by
  refine ValS.of hf fun K pw Z g hp hk => ?_
  rw [D_104]; unfold F104; rw [app2_eq]
  refine wp_boxA g hp fun h1 g1 c1 b1 => ?_
  refine wp_boxA g1 hp fun h2 g2 c2 b2 => ?_
  replace b1 := c2.box b1 (by omega)
  simp only [suv, shv] at b1 b2
  simp (disch := omega) only [tys, bindJ_eq, logJ_eq, wp_cond, wp_guard, gd_true, gd_false, pick_eq, add_eq, sub_eq, eq_eq, ne_eq, lt_eq, le_eq, gt_eq, ge_eq, shr_eq, shl_eq, quo_eq, rem_eq, not_eq, wp_log_ret, ext0, ext1, ext2, nil_eq, get_ne, get_eq, nth_0, nth_s, cells_agg, cells_int, cells_bool, cells_slice, cells_ptr, ro_zero, one_int, one_bool, one_slice, one_ptr, arr_size, overL, Nat.zero_add, Nat.reduceAdd, Nat.add_zero, List.length_cons, List.length_nil, List.all_cons, List.all_nil, Nat.reduceLeDiff, Nat.ble_eq, Bool.and_true, Bool.not_false, Bool.and_self, decide_true, List.drop_zero, List.drop_succ_cons, List.take_succ_cons, List.take_zero, List.take_nil, true_and, and_true, Int.ofNat_eq_natCast, neg_one, Int.toNat_natCast, Int.natCast_zero, Int.natCast_one, Int.cast_ofNat_Int, List.append_nil, List.nil_append, ldB b1, clB b1, ldBL b1, clBL b1, ldB b2, clB b2, ldBL b2, clBL b2, funX_eq, if_true, if_false, Bool.false_eq_true, Bool.not_true, Bool.not_false]
  have := hk _ _ g2
  unfold fullK at this
  rw [r.1] at this
  exact this
theorem s49 (base clean : Int) {p : Option Addr} {len cap : Nat} {l : List K3} (r : Row EK h p len l) (hl : len ≤ 10000) : ValS (D N (d + 1)) 49 [shval base p len cap clean] h s (vi (newK base l)) := by
  refine ValS.of hf fun K pw Z g hp hk => ?_
  rw [D_49]; unfold F49; rw [app1_eq]
  refine wp_boxA g hp fun h1 g1 c1 b1 => ?_
  simp only [shv] at b1
  have r1 := g1.row hf r
  have := hk _ _ g1
  unfold newK at this
  by_cases h0 : len = 0
  · subst h0
    obtain rfl := List.eq_nil_of_length_eq_zero r.1
    simp (disch := omega) only [tys, bindJ_eq, logJ_eq, wp_cond, wp_guard, gd_true, gd_false, pick_eq, add_eq, sub_eq, eq_eq, ne_eq, lt_eq, le_eq, gt_eq, ge_eq, shr_eq, shl_eq, quo_eq, rem_eq, not_eq, wp_log_ret, ext0, ext1, ext2, nil_eq, get_ne, get_eq, nth_0, nth_s, cells_agg, cells_int, cells_bool, cells_slice, cells_ptr, ro_zero, one_int, one_bool, one_slice, one_ptr, arr_size, overL, Nat.zero_add, Nat.reduceAdd, Nat.add_zero, List.length_cons, List.length_nil, List.all_cons, List.all_nil, Nat.reduceLeDiff, Nat.ble_eq, Bool.and_true, Bool.not_false, Bool.and_self, decide_true, List.drop_zero, List.drop_succ_cons, List.take_succ_cons, List.take_zero, List.take_nil, true_and, and_true, Int.ofNat_eq_natCast, neg_one, Int.toNat_natCast, Int.natCast_zero, Int.natCast_one, Int.cast_ofNat_Int, List.append_nil, List.nil_append, ldB b1, clB b1, ldBL b1, clBL b1, funX_eq, if_true, if_false, Bool.false_eq_true, Bool.not_true, Bool.not_false]
    exact this
  · obtain ⟨x, hx⟩ := get_some (l := l) (i := len - 1) (by rw [r.1]; omega)
    rw [r.1, hx] at this
    simp (disch := omega) only [tys, bindJ_eq, logJ_eq, wp_cond, wp_guard, gd_true, gd_false, pick_eq, add_eq, sub_eq, eq_eq, ne_eq, lt_eq, le_eq, gt_eq, ge_eq, shr_eq, shl_eq, quo_eq, rem_eq, not_eq, wp_log_ret, ext0, ext1, ext2, nil_eq, get_ne, get_eq, nth_0, nth_s, cells_agg, cells_int, cells_bool, cells_slice, cells_ptr, ro_zero, one_int, one_bool, one_slice, one_ptr, arr_size, overL, Nat.zero_add, Nat.reduceAdd, Nat.add_zero, List.length_cons, List.length_nil, List.all_cons, List.all_nil, Nat.reduceLeDiff, Nat.ble_eq, Bool.and_true, Bool.not_false, Bool.and_self, decide_true, List.drop_zero, List.drop_succ_cons, List.take_succ_cons, List.take_zero, List.take_nil, true_and, and_true, Int.ofNat_eq_natCast, neg_one, Int.toNat_natCast, Int.natCast_zero, Int.natCast_one, Int.cast_ofNat_Int, List.append_nil, List.nil_append, ldB b1, clB b1, ldBL b1, clBL b1, funX_eq, if_true, if_false, Bool.false_eq_true, Bool.not_true, Bool.not_false, show ¬ (len : Int) = 0 by omega, decide_false, wrap_id (a := (len : Int) - 1) (by omega) (by omega)]
    have e : (len : Int) - 1 = ((len - 1 : Nat) : Int) := by omega
    rw [e]
    simp (disch := omega) only [tys, bindJ_eq, logJ_eq, wp_cond, wp_guard, gd_true, gd_false, pick_eq, add_eq, sub_eq, eq_eq, ne_eq, lt_eq, le_eq, gt_eq, ge_eq, shr_eq, shl_eq, quo_eq, rem_eq, not_eq, wp_log_ret, ext0, ext1, ext2, nil_eq, get_ne, get_eq, nth_0, nth_s, cells_agg, cells_int, cells_bool, cells_slice, cells_ptr, ro_zero, one_int, one_bool, one_slice, one_ptr, arr_size, overL, Nat.zero_add, Nat.reduceAdd, Nat.add_zero, List.length_cons, List.length_nil, List.all_cons, List.all_nil, Nat.reduceLeDiff, Nat.ble_eq, Bool.and_true, Bool.not_false, Bool.and_self, decide_true, List.drop_zero, List.drop_succ_cons, List.take_succ_cons, List.take_zero, List.take_nil, true_and, and_true, Int.ofNat_eq_natCast, neg_one, Int.toNat_natCast, Int.natCast_zero, Int.natCast_one, Int.cast_ofNat_Int, List.append_nil, List.nil_append, funX_eq, if_true, if_false, Bool.false_eq_true, Bool.not_true, Bool.not_false, xa3 r1 (j := ((len - 1 : Nat) : Int)) (by omega) (by omega)]
    rw [rowA r1 hx]
    exact this
end
end Go.Ev.R
namespace Go.Ev.R
open Go Go.RowKit
theorem good_step {base : Int} {l : List K3} {i : Nat} {x : K3} (hx : l[i]? = some x) : goodFrom base l i ↔ (wI x.a base maxT = true ∧ twinAny (l.take i) x = false) ∧ goodFrom base l (i + 1) := by
  constructor
  · exact fun h => ⟨h i x (Nat.le_refl _) hx, fun j k hj hk => h j k (by omega) hk⟩
  · rintro ⟨h1, h2⟩ j k hj hk
    rcases Nat.lt_or_ge i j with h3 | h3
    · exact h2 j k h3 hk
    · obtain rfl : i = j := by omega
      rw [hx] at hk; cases hk; exact h1
theorem good_end (base : Int) (l : List K3) : goodFrom base l l.length := fun j k hj hk => by
  have := (List.getElem?_eq_some_iff.1 hk).1
  omega
theorem xa30 {h : T} {p : Option Addr} {len : Nat} {l : List K3} (r : Row EK h p len l) (hl : 0 < len) (cap : Nat) (k : Value → Nat → AM) (s : Nat) :
    M.opt (aindexAt P 44 (.slice p len cap) (i64 0)) k s = k (.pointer (some ⟨blk p, off p + 0 * 3, none⟩)) s := xa3 r (j := ((0 : Nat) : Int)) (by omega) (by omega) cap .i64 k s
section
variable {N d : Nat} (hN : 100000 ≤ N) {h : T} {s : Nat} (hf : ∀ n, s ≤ n → h.get n = none)
include hN hf
theorem s31 (x : SU) (base clean : Int) {p : Option Addr} {len cap : Nat} {l : List K3} (r : Sl EK h p len cap l) (hl : len ≤ 10000) : ValS (D N (d + 6)) 31 [suval x, shval base p len cap clean] h s (vi (errI (fitsK x base clean l))) := by
  refine ValS.of hf fun K pw Z g hp hk => ?_
  rw [D_31]; unfold F31; rw [app2_eq]
  refine wp_boxA g hp fun h1 g1 c1 b1 => ?_
  refine wp_boxA g1 hp fun h2 g2 c2 b2 => ?_
  replace hk := fun h' s' (g' : From (s + 1 + 1) h2 h' s') => hk h' s' (g2.trans g'); replace hp := fun n (hn : s + 1 + 1 ≤ n) => hp n (by omega); have g0 := From.refl g2.fresh
  replace b1 := c2.box b1 (by omega)
  have r0 := r.from hf g2
  simp only [suv, shv] at b1 b2
  have hlen := r.row.1
  have bad : ∀ h' s', From (s + 1 + 1) h2 h' s' → fitsK x base clean l = false → (K (i64 2) s').wp pw Z h' := fun h' s' g' e => by
    have := hk _ _ g'
    simp only [errI, e, Bool.false_eq_true, if_false] at this
    exact this
  have fin : ∀ h' s', From (s + 1 + 1) h2 h' s' → fitsK x base clean l = true → (K (i64 0) s').wp pw Z h' := fun h' s' g' e => by
    have := hk _ _ g'
    simp only [errI, e, if_true] at this
    exact this
  simp (disch := omega) only [tys, bindJ_eq, logJ_eq, wp_cond, wp_guard, gd_true, gd_false, pick_eq, add_eq, sub_eq, eq_eq, ne_eq, lt_eq, le_eq, gt_eq, ge_eq, shr_eq, shl_eq, quo_eq, rem_eq, not_eq, wp_log_ret, ext0, ext1, ext2, nil_eq, get_ne, get_eq, nth_0, nth_s, cells_agg, cells_int, cells_bool, cells_slice, cells_ptr, ro_zero, one_int, one_bool, one_slice, one_ptr, arr_size, overL, Nat.zero_add, Nat.reduceAdd, Nat.add_zero, List.length_cons, List.length_nil, List.all_cons, List.all_nil, Nat.reduceLeDiff, Nat.ble_eq, Bool.and_true, Bool.not_false, Bool.and_self, decide_true, List.drop_zero, List.drop_succ_cons, List.take_succ_cons, List.take_zero, List.take_nil, true_and, and_true, Int.ofNat_eq_natCast, neg_one, Int.toNat_natCast, Int.natCast_zero, Int.natCast_one, Int.cast_ofNat_Int, List.append_nil, List.nil_append, ldB b1, clB b1, ldBL b1, clBL b1, ldB b2, clB b2, ldBL b2, clBL b2, funX_eq, if_true, if_false, Bool.false_eq_true, Bool.not_true, Bool.not_false]
  refine ValS.go g0 hp (s46 g0.fresh x) fun k1 s1 u1 _ => ?_
  cases e1 : chkS x with
  | false =>
    simp (disch := omega) only [tys, bindJ_eq, logJ_eq, wp_cond, wp_guard, gd_true, gd_false, pick_eq, add_eq, sub_eq, eq_eq, ne_eq, lt_eq, le_eq, gt_eq, ge_eq, shr_eq, shl_eq, quo_eq, rem_eq, not_eq, wp_log_ret, ext0, ext1, ext2, nil_eq, get_ne, get_eq, nth_0, nth_s, cells_agg, cells_int, cells_bool, cells_slice, cells_ptr, ro_zero, one_int, one_bool, one_slice, one_ptr, arr_size, overL, Nat.zero_add, Nat.reduceAdd, Nat.add_zero, List.length_cons, List.length_nil, List.all_cons, List.all_nil, Nat.reduceLeDiff, Nat.ble_eq, Bool.and_true, Bool.not_false, Bool.and_self, decide_true, List.drop_zero, List.drop_succ_cons, List.take_succ_cons, List.take_zero, List.take_nil, true_and, and_true, Int.ofNat_eq_natCast, neg_one, Int.toNat_natCast, Int.natCast_zero, Int.natCast_one, Int.cast_ofNat_Int, List.append_nil, List.nil_append, funX_eq, if_true, if_false, Bool.false_eq_true, Bool.not_true, Bool.not_false, errI, X31_6, X31_5]
    exact bad _ _ u1 (by simp only [fitsK, e1, Bool.false_and])
  | true =>
  simp (disch := omega) only [tys, bindJ_eq, logJ_eq, wp_cond, wp_guard, gd_true, gd_false, pick_eq, add_eq, sub_eq, eq_eq, ne_eq, lt_eq, le_eq, gt_eq, ge_eq, shr_eq, shl_eq, quo_eq, rem_eq, not_eq, wp_log_ret, ext0, ext1, ext2, nil_eq, get_ne, get_eq, nth_0, nth_s, cells_agg, cells_int, cells_bool, cells_slice, cells_ptr, ro_zero, one_int, one_bool, one_slice, one_ptr, arr_size, overL, Nat.zero_add, Nat.reduceAdd, Nat.add_zero, List.length_cons, List.length_nil, List.all_cons, List.all_nil, Nat.reduceLeDiff, Nat.ble_eq, Bool.and_true, Bool.not_false, Bool.and_self, decide_true, List.drop_zero, List.drop_succ_cons, List.take_succ_cons, List.take_zero, List.take_nil, true_and, and_true, Int.ofNat_eq_natCast, neg_one, Int.toNat_natCast, Int.natCast_zero, Int.natCast_one, Int.cast_ofNat_Int, List.append_nil, List.nil_append, ldB (u1.box b1 (by omega)), clB (u1.box b1 (by omega)), ldBL (u1.box b1 (by omega)), clBL (u1.box b1 (by omega)), ldB (u1.box b2 (by omega)), clB (u1.box b2 (by omega)), ldBL (u1.box b2 (by omega)), clBL (u1.box b2 (by omega)), funX_eq, if_true, if_false, Bool.false_eq_true, Bool.not_true, Bool.not_false, errI]
  refine ValS.go u1 hp (s100 u1.fresh _ _ _) fun k2 s2 u2 _ => ?_
  cases e2 : wI base 0 1099511627776 with
  | false =>
    simp (disch := omega) only [tys, bindJ_eq, logJ_eq, wp_cond, wp_guard, gd_true, gd_false, pick_eq, add_eq, sub_eq, eq_eq, ne_eq, lt_eq, le_eq, gt_eq, ge_eq, shr_eq, shl_eq, quo_eq, rem_eq, not_eq, wp_log_ret, ext0, ext1, ext2, nil_eq, get_ne, get_eq, nth_0, nth_s, cells_agg, cells_int, cells_bool, cells_slice, cells_ptr, ro_zero, one_int, one_bool, one_slice, one_ptr, arr_size, overL, Nat.zero_add, Nat.reduceAdd, Nat.add_zero, List.length_cons, List.length_nil, List.all_cons, List.all_nil, Nat.reduceLeDiff, Nat.ble_eq, Bool.and_true, Bool.not_false, Bool.and_self, decide_true, List.drop_zero, List.drop_succ_cons, List.take_succ_cons, List.take_zero, List.take_nil, true_and, and_true, Int.ofNat_eq_natCast, neg_one, Int.toNat_natCast, Int.natCast_zero, Int.natCast_one, Int.cast_ofNat_Int, List.append_nil, List.nil_append, funX_eq, if_true, if_false, Bool.false_eq_true, Bool.not_true, Bool.not_false, X31_6, X31_5]
    exact bad _ _ u2 (by simp only [fitsK, maxT, e1, e2, Bool.false_and, Bool.and_false])
  | true =>
  simp (disch := omega) only [tys, bindJ_eq, logJ_eq, wp_cond, wp_guard, gd_true, gd_false, pick_eq, add_eq, sub_eq, eq_eq, ne_eq, lt_eq, le_eq, gt_eq, ge_eq, shr_eq, shl_eq, quo_eq, rem_eq, not_eq, wp_log_ret, ext0, ext1, ext2, nil_eq, get_ne, get_eq, nth_0, nth_s, cells_agg, cells_int, cells_bool, cells_slice, cells_ptr, ro_zero, one_int, one_bool, one_slice, one_ptr, arr_size, overL, Nat.zero_add, Nat.reduceAdd, Nat.add_zero, List.length_cons, List.length_nil, List.all_cons, List.all_nil, Nat.reduceLeDiff, Nat.ble_eq, Bool.and_true, Bool.not_false, Bool.and_self, decide_true, List.drop_zero, List.drop_succ_cons, List.take_succ_cons, List.take_zero, List.take_nil, true_and, and_true, Int.ofNat_eq_natCast, neg_one, Int.toNat_natCast, Int.natCast_zero, Int.natCast_one, Int.cast_ofNat_Int, List.append_nil, List.nil_append, ldB (u2.box b1 (by omega)), clB (u2.box b1 (by omega)), ldBL (u2.box b1 (by omega)), clBL (u2.box b1 (by omega)), ldB (u2.box b2 (by omega)), clB (u2.box b2 (by omega)), ldBL (u2.box b2 (by omega)), clBL (u2.box b2 (by omega)), funX_eq, if_true, if_false, Bool.false_eq_true, Bool.not_true, Bool.not_false, X31_6]
  by_cases e3 : (len : Int) ≤ x.keep
  case neg =>
    simp (disch := omega) only [tys, bindJ_eq, logJ_eq, wp_cond, wp_guard, gd_true, gd_false, pick_eq, add_eq, sub_eq, eq_eq, ne_eq, lt_eq, le_eq, gt_eq, ge_eq, shr_eq, shl_eq, quo_eq, rem_eq, not_eq, wp_log_ret, ext0, ext1, ext2, nil_eq, get_ne, get_eq, nth_0, nth_s, cells_agg, cells_int, cells_bool, cells_slice, cells_ptr, ro_zero, one_int, one_bool, one_slice, one_ptr, arr_size, overL, Nat.zero_add, Nat.reduceAdd, Nat.add_zero, List.length_cons, List.length_nil, List.all_cons, List.all_nil, Nat.reduceLeDiff, Nat.ble_eq, Bool.and_true, Bool.not_false, Bool.and_self, decide_true, List.drop_zero, List.drop_succ_cons, List.take_succ_cons, List.take_zero, List.take_nil, true_and, and_true, Int.ofNat_eq_natCast, neg_one, Int.toNat_natCast, Int.natCast_zero, Int.natCast_one, Int.cast_ofNat_Int, List.append_nil, List.nil_append, ldB (u2.box b1 (by omega)), clB (u2.box b1 (by omega)), ldBL (u2.box b1 (by omega)), clBL (u2.box b1 (by omega)), ldB (u2.box b2 (by omega)), clB (u2.box b2 (by omega)), ldBL (u2.box b2 (by omega)), clBL (u2.box b2 (by omega)), funX_eq, if_true, if_false, Bool.false_eq_true, Bool.not_true, Bool.not_false, show x.keep < (len : Int) by omega, X31_5]
    exact bad _ _ u2 (by simp only [fitsK, hlen, e1, e2, e3, decide_false, Bool.false_and, Bool.and_false])
  simp (disch := omega) only [tys, bindJ_eq, logJ_eq, wp_cond, wp_guard, gd_true, gd_false, pick_eq, add_eq, sub_eq, eq_eq, ne_eq, lt_eq, le_eq, gt_eq, ge_eq, shr_eq, shl_eq, quo_eq, rem_eq, not_eq, wp_log_ret, ext0, ext1, ext2, nil_eq, get_ne, get_eq, nth_0, nth_s, cells_agg, cells_int, cells_bool, cells_slice, cells_ptr, ro_zero, one_int, one_bool, one_slice, one_ptr, arr_size, overL, Nat.zero_add, Nat.reduceAdd, Nat.add_zero, List.length_cons, List.length_nil, List.all_cons, List.all_nil, Nat.reduceLeDiff, Nat.ble_eq, Bool.and_true, Bool.not_false, Bool.and_self, decide_true, List.drop_zero, List.drop_succ_cons, List.take_succ_cons, List.take_zero, List.take_nil, true_and, and_true, Int.ofNat_eq_natCast, neg_one, Int.toNat_natCast, Int.natCast_zero, Int.natCast_one, Int.cast_ofNat_Int, List.append_nil, List.nil_append, ldB (u2.box b1 (by omega)), clB (u2.box b1 (by omega)), ldBL (u2.box b1 (by omega)), clBL (u2.box b1 (by omega)), ldB (u2.box b2 (by omega)), clB (u2.box b2 (by omega)), ldBL (u2.box b2 (by omega)), clBL (u2.box b2 (by omega)), funX_eq, if_true, if_false, Bool.false_eq_true, Bool.not_true, Bool.not_false, show ¬ x.keep < (len : Int) by omega, decide_false]
  refine ValS.go u2 hp (s106 (d := d) hN u2.fresh (r0.from g0.fresh u2).row hl r.emp) fun k3 s3 u3 _ => ?_
  cases e4 : risingK l with
  | false =>
    simp (disch := omega) only [tys, bindJ_eq, logJ_eq, wp_cond, wp_guard, gd_true, gd_false, pick_eq, add_eq, sub_eq, eq_eq, ne_eq, lt_eq, le_eq, gt_eq, ge_eq, shr_eq, shl_eq, quo_eq, rem_eq, not_eq, wp_log_ret, ext0, ext1, ext2, nil_eq, get_ne, get_eq, nth_0, nth_s, cells_agg, cells_int, cells_bool, cells_slice, cells_ptr, ro_zero, one_int, one_bool, one_slice, one_ptr, arr_size, overL, Nat.zero_add, Nat.reduceAdd, Nat.add_zero, List.length_cons, List.length_nil, List.all_cons, List.all_nil, Nat.reduceLeDiff, Nat.ble_eq, Bool.and_true, Bool.not_false, Bool.and_self, decide_true, List.drop_zero, List.drop_succ_cons, List.take_succ_cons, List.take_zero, List.take_nil, true_and, and_true, Int.ofNat_eq_natCast, neg_one, Int.toNat_natCast, Int.natCast_zero, Int.natCast_one, Int.cast_ofNat_Int, List.append_nil, List.nil_append, funX_eq, if_true, if_false, Bool.false_eq_true, Bool.not_true, Bool.not_false, X31_5]
    exact bad _ _ u3 (by simp only [fitsK, e4, Bool.false_and, Bool.and_false])
  | true =>
  simp (disch := omega) only [tys, bindJ_eq, logJ_eq, wp_cond, wp_guard, gd_true, gd_false, pick_eq, add_eq, sub_eq, eq_eq, ne_eq, lt_eq, le_eq, gt_eq, ge_eq, shr_eq, shl_eq, quo_eq, rem_eq, not_eq, wp_log_ret, ext0, ext1, ext2, nil_eq, get_ne, get_eq, nth_0, nth_s, cells_agg, cells_int, cells_bool, cells_slice, cells_ptr, ro_zero, one_int, one_bool, one_slice, one_ptr, arr_size, overL, Nat.zero_add, Nat.reduceAdd, Nat.add_zero, List.length_cons, List.length_nil, List.all_cons, List.all_nil, Nat.reduceLeDiff, Nat.ble_eq, Bool.and_true, Bool.not_false, Bool.and_self, decide_true, List.drop_zero, List.drop_succ_cons, List.take_succ_cons, List.take_zero, List.take_nil, true_and, and_true, Int.ofNat_eq_natCast, neg_one, Int.toNat_natCast, Int.natCast_zero, Int.natCast_one, Int.cast_ofNat_Int, List.append_nil, List.nil_append, ldB (u3.box b1 (by omega)), clB (u3.box b1 (by omega)), ldBL (u3.box b1 (by omega)), clBL (u3.box b1 (by omega)), ldB (u3.box b2 (by omega)), clB (u3.box b2 (by omega)), ldBL (u3.box b2 (by omega)), clBL (u3.box b2 (by omega)), funX_eq, if_true, if_false, Bool.false_eq_true, Bool.not_true, Bool.not_false, X31_5]
  refine ValS.go u3 hp (s100 u3.fresh _ _ _) fun k4 s4 u4 _ => ?_
  cases e5 : wI clean 0 (len : Int) with
  | false =>
    simp (disch := omega) only [tys, bindJ_eq, logJ_eq, wp_cond, wp_guard, gd_true, gd_false, pick_eq, add_eq, sub_eq, eq_eq, ne_eq, lt_eq, le_eq, gt_eq, ge_eq, shr_eq, shl_eq, quo_eq, rem_eq, not_eq, wp_log_ret, ext0, ext1, ext2, nil_eq, get_ne, get_eq, nth_0, nth_s, cells_agg, cells_int, cells_bool, cells_slice, cells_ptr, ro_zero, one_int, one_bool, one_slice, one_ptr, arr_size, overL, Nat.zero_add, Nat.reduceAdd, Nat.add_zero, List.length_cons, List.length_nil, List.all_cons, List.all_nil, Nat.reduceLeDiff, Nat.ble_eq, Bool.and_true, Bool.not_false, Bool.and_self, decide_true, List.drop_zero, List.drop_succ_cons, List.take_succ_cons, List.take_zero, List.take_nil, true_and, and_true, Int.ofNat_eq_natCast, neg_one, Int.toNat_natCast, Int.natCast_zero, Int.natCast_one, Int.cast_ofNat_Int, List.append_nil, List.nil_append, funX_eq, if_true, if_false, Bool.false_eq_true, Bool.not_true, Bool.not_false]
    exact bad _ _ u4 (by simp only [fitsK, hlen, e5, Bool.false_and, Bool.and_false])
  | true =>
  simp (disch := omega) only [tys, bindJ_eq, logJ_eq, wp_cond, wp_guard, gd_true, gd_false, pick_eq, add_eq, sub_eq, eq_eq, ne_eq, lt_eq, le_eq, gt_eq, ge_eq, shr_eq, shl_eq, quo_eq, rem_eq, not_eq, wp_log_ret, ext0, ext1, ext2, nil_eq, get_ne, get_eq, nth_0, nth_s, cells_agg, cells_int, cells_bool, cells_slice, cells_ptr, ro_zero, one_int, one_bool, one_slice, one_ptr, arr_size, overL, Nat.zero_add, Nat.reduceAdd, Nat.add_zero, List.length_cons, List.length_nil, List.all_cons, List.all_nil, Nat.reduceLeDiff, Nat.ble_eq, Bool.and_true, Bool.not_false, Bool.and_self, decide_true, List.drop_zero, List.drop_succ_cons, List.take_succ_cons, List.take_zero, List.take_nil, true_and, and_true, Int.ofNat_eq_natCast, neg_one, Int.toNat_natCast, Int.natCast_zero, Int.natCast_one, Int.cast_ofNat_Int, List.append_nil, List.nil_append, ldB (u4.box b1 (by omega)), clB (u4.box b1 (by omega)), ldBL (u4.box b1 (by omega)), clBL (u4.box b1 (by omega)), ldB (u4.box b2 (by omega)), clB (u4.box b2 (by omega)), ldBL (u4.box b2 (by omega)), clBL (u4.box b2 (by omega)), funX_eq, if_true, if_false, Bool.false_eq_true, Bool.not_true, Bool.not_false]
  have e0 : fitsK x base clean l = decide (goodFrom base l 0) := by
    simp only [fitsK, maxT, hlen, e1, e2, e3, e4, e5, decide_true, Bool.true_and]
  have loop : ∀ (B : (Value → Value → Nat → AM) → Value → Value → Nat → AM) (hB : ∀ H u i s', B H u i s' = X31_4 N (D N (d + 5)) K (vi len) (.slice p len cap) (.pointer (some ⟨s + 1, 0, none⟩)) (fun s => K (i64 0) s) H u i s') (m i : Nat) (u : Value) (h1 : T) (s1 : Nat), len - i < m → i ≤ len → (goodFrom base l 0 ↔ goodFrom base l i) → From (s + 1 + 1) h2 h1 s1 →
      (loopJ m 2 (fun _ _ _ => AM.fail) B u (vi i) s1).wp pw Z h1 := by
    intro B hB m
    induction m with
    | zero => intro i u h1 s1 hm; omega
    | succ m ih =>
      intro i u h1 s1 hm hil hgi g1
      have r1 := r0.from g0.fresh g1
      rw [loopJ_succ, hB]
      unfold X31_4
      by_cases hlt : i < len
      · obtain ⟨y, hy⟩ := get_some (l := l) (i := i) (by omega)
        simp (disch := omega) only [tys, bindJ_eq, logJ_eq, wp_cond, wp_guard, gd_true, gd_false, pick_eq, add_eq, sub_eq, eq_eq, ne_eq, lt_eq, le_eq, gt_eq, ge_eq, shr_eq, shl_eq, quo_eq, rem_eq, not_eq, wp_log_ret, ext0, ext1, ext2, nil_eq, get_ne, get_eq, nth_0, nth_s, cells_agg, cells_int, cells_bool, cells_slice, cells_ptr, ro_zero, one_int, one_bool, one_slice, one_ptr, arr_size, overL, Nat.zero_add, Nat.reduceAdd, Nat.add_zero, List.length_cons, List.length_nil, List.all_cons, List.all_nil, Nat.reduceLeDiff, Nat.ble_eq, Bool.and_true, Bool.not_false, Bool.and_self, decide_true, List.drop_zero, List.drop_succ_cons, List.take_succ_cons, List.take_zero, List.take_nil, true_and, and_true, Int.ofNat_eq_natCast, neg_one, Int.toNat_natCast, Int.natCast_zero, Int.natCast_one, Int.cast_ofNat_Int, List.append_nil, List.nil_append, funX_eq, if_true, if_false, Bool.false_eq_true, Bool.not_true, Bool.not_false, show (i : Int) < (len : Int) by omega, xa3 r1.row (j := (i : Int)) (by omega) (by omega), row3 r1.row hy]
        refine wp_boxA g1 hp fun h3 g3 c3 b3 => ?_
        simp only [kv]
        simp (disch := omega) only [tys, bindJ_eq, logJ_eq, wp_cond, wp_guard, gd_true, gd_false, pick_eq, add_eq, sub_eq, eq_eq, ne_eq, lt_eq, le_eq, gt_eq, ge_eq, shr_eq, shl_eq, quo_eq, rem_eq, not_eq, wp_log_ret, ext0, ext1, ext2, nil_eq, get_ne, get_eq, nth_0, nth_s, cells_agg, cells_int, cells_bool, cells_slice, cells_ptr, ro_zero, one_int, one_bool, one_slice, one_ptr, arr_size, overL, Nat.zero_add, Nat.reduceAdd, Nat.add_zero, List.length_cons, List.length_nil, List.all_cons, List.all_nil, Nat.reduceLeDiff, Nat.ble_eq, Bool.and_true, Bool.not_false, Bool.and_self, decide_true, List.drop_zero, List.drop_succ_cons, List.take_succ_cons, List.take_zero, List.take_nil, true_and, and_true, Int.ofNat_eq_natCast, neg_one, Int.toNat_natCast, Int.natCast_zero, Int.natCast_one, Int.cast_ofNat_Int, List.append_nil, List.nil_append, funX_eq, if_true, if_false, Bool.false_eq_true, Bool.not_true, Bool.not_false]
        refine wp_putF g3 hp b3 g1.le (by simp) rfl fun h4 g4 b4 _ => ?_
        have b4 : h4.get s1 = some (.cells ⟨kv y⟩ 48 (0, 0)) := b4
        have b4' := b4
        simp only [kv] at b4'
        simp (disch := omega) only [tys, bindJ_eq, logJ_eq, wp_cond, wp_guard, gd_true, gd_false, pick_eq, add_eq, sub_eq, eq_eq, ne_eq, lt_eq, le_eq, gt_eq, ge_eq, shr_eq, shl_eq, quo_eq, rem_eq, not_eq, wp_log_ret, ext0, ext1, ext2, nil_eq, get_ne, get_eq, nth_0, nth_s, cells_agg, cells_int, cells_bool, cells_slice, cells_ptr, ro_zero, one_int, one_bool, one_slice, one_ptr, arr_size, overL, Nat.zero_add, Nat.reduceAdd, Nat.add_zero, List.length_cons, List.length_nil, List.all_cons, List.all_nil, Nat.reduceLeDiff, Nat.ble_eq, Bool.and_true, Bool.not_false, Bool.and_self, decide_true, List.drop_zero, List.drop_succ_cons, List.take_succ_cons, List.take_zero, List.take_nil, true_and, and_true, Int.ofNat_eq_natCast, neg_one, Int.toNat_natCast, Int.natCast_zero, Int.natCast_one, Int.cast_ofNat_Int, List.append_nil, List.nil_append, ldB b4', clB b4', ldBL b4', clBL b4', ldB (g4.box b2 (by omega)), clB (g4.box b2 (by omega)), ldBL (g4.box b2 (by omega)), clBL (g4.box b2 (by omega)), funX_eq, if_true, if_false, Bool.false_eq_true, Bool.not_true, Bool.not_false, X31_3]
        refine ValS.goL g4 hp (s100 g4.fresh _ _ _) fun h5 s5 ts5 ws5 g5 c5 _ _ => ?_
        cases e6 : wI y.a base 1099511627776 with
        | false =>
          simp (disch := omega) only [tys, bindJ_eq, logJ_eq, wp_cond, wp_guard, gd_true, gd_false, pick_eq, add_eq, sub_eq, eq_eq, ne_eq, lt_eq, le_eq, gt_eq, ge_eq, shr_eq, shl_eq, quo_eq, rem_eq, not_eq, wp_log_ret, ext0, ext1, ext2, nil_eq, get_ne, get_eq, nth_0, nth_s, cells_agg, cells_int, cells_bool, cells_slice, cells_ptr, ro_zero, one_int, one_bool, one_slice, one_ptr, arr_size, overL, Nat.zero_add, Nat.reduceAdd, Nat.add_zero, List.length_cons, List.length_nil, List.all_cons, List.all_nil, Nat.reduceLeDiff, Nat.ble_eq, Bool.and_true, Bool.not_false, Bool.and_self, decide_true, List.drop_zero, List.drop_succ_cons, List.take_succ_cons, List.take_zero, List.take_nil, true_and, and_true, Int.ofNat_eq_natCast, neg_one, Int.toNat_natCast, Int.natCast_zero, Int.natCast_one, Int.cast_ofNat_Int, List.append_nil, List.nil_append, ldB (c5.box b4' (by omega)), clB (c5.box b4' (by omega)), ldBL (c5.box b4' (by omega)), clBL (c5.box b4' (by omega)), ldB (g5.box b2 (by omega)), clB (g5.box b2 (by omega)), ldBL (g5.box b2 (by omega)), clBL (g5.box b2 (by omega)), funX_eq, if_true, if_false, Bool.false_eq_true, Bool.not_true, Bool.not_false, X31_2, X31_1]
          rw [if_pos (by repeat' (first | exact dynOk_nil _ _ | refine dyn_skip' ?_ | refine dyn_cons ?_ ?_ | exact allF_nil _ _ | refine allF_cons ?_ ?_))]
          exact bad _ _ g5 (by rw [e0, decide_eq_false_iff_not, hgi, good_step hy]; simp [maxT, e6])
        | true =>
        simp (disch := omega) only [tys, bindJ_eq, logJ_eq, wp_cond, wp_guard, gd_true, gd_false, pick_eq, add_eq, sub_eq, eq_eq, ne_eq, lt_eq, le_eq, gt_eq, ge_eq, shr_eq, shl_eq, quo_eq, rem_eq, not_eq, wp_log_ret, ext0, ext1, ext2, nil_eq, get_ne, get_eq, nth_0, nth_s, cells_agg, cells_int, cells_bool, cells_slice, cells_ptr, ro_zero, one_int, one_bool, one_slice, one_ptr, arr_size, overL, Nat.zero_add, Nat.reduceAdd, Nat.add_zero, List.length_cons, List.length_nil, List.all_cons, List.all_nil, Nat.reduceLeDiff, Nat.ble_eq, Bool.and_true, Bool.not_false, Bool.and_self, decide_true, List.drop_zero, List.drop_succ_cons, List.take_succ_cons, List.take_zero, List.take_nil, true_and, and_true, Int.ofNat_eq_natCast, neg_one, Int.toNat_natCast, Int.natCast_zero, Int.natCast_one, Int.cast_ofNat_Int, List.append_nil, List.nil_append, ldB (c5.box b4' (by omega)), clB (c5.box b4' (by omega)), ldBL (c5.box b4' (by omega)), clBL (c5.box b4' (by omega)), ldB (g5.box b2 (by omega)), clB (g5.box b2 (by omega)), ldBL (g5.box b2 (by omega)), clBL (g5.box b2 (by omega)), funX_eq, if_true, if_false, Bool.false_eq_true, Bool.not_true, Bool.not_false, X31_2]
        refine (r0.from g0.fresh g5).cutL (ab_to (by have := r.le; omega) _) (by omega) (by omega) (by have := r.le; omega) (by omega) fun p' ts6 r6 _ hts6 => ?_
        simp (disch := omega) only [tys, bindJ_eq, logJ_eq, wp_cond, wp_guard, gd_true, gd_false, pick_eq, add_eq, sub_eq, eq_eq, ne_eq, lt_eq, le_eq, gt_eq, ge_eq, shr_eq, shl_eq, quo_eq, rem_eq, not_eq, wp_log_ret, ext0, ext1, ext2, nil_eq, get_ne, get_eq, nth_0, nth_s, cells_agg, cells_int, cells_bool, cells_slice, cells_ptr, ro_zero, one_int, one_bool, one_slice, one_ptr, arr_size, overL, Nat.zero_add, Nat.reduceAdd, Nat.add_zero, List.length_cons, List.length_nil, List.all_cons, List.all_nil, Nat.reduceLeDiff, Nat.ble_eq, Bool.and_true, Bool.not_false, Bool.and_self, decide_true, List.drop_zero, List.drop_succ_cons, List.take_succ_cons, List.take_zero, List.take_nil, true_and, and_true, Int.ofNat_eq_natCast, neg_one, Int.toNat_natCast, Int.natCast_zero, Int.natCast_one, Int.cast_ofNat_Int, List.append_nil, List.nil_append, ldB (c5.box b4' (by omega)), clB (c5.box b4' (by omega)), ldBL (c5.box b4' (by omega)), clBL (c5.box b4' (by omega)), ldB (g5.box b2 (by omega)), clB (g5.box b2 (by omega)), ldBL (g5.box b2 (by omega)), clBL (g5.box b2 (by omega)), funX_eq, if_true, if_false, Bool.false_eq_true, Bool.not_true, Bool.not_false, X31_1]
        refine ValS.goL g5 hp (s102 (d := d) hN g5.fresh r6.row (by omega) y) fun h7 s7 ts7 ws7 g7 c7 hw7 ht7 => ?_
        simp (disch := omega) only [tys, bindJ_eq, logJ_eq, wp_cond, wp_guard, gd_true, gd_false, pick_eq, add_eq, sub_eq, eq_eq, ne_eq, lt_eq, le_eq, gt_eq, ge_eq, shr_eq, shl_eq, quo_eq, rem_eq, not_eq, wp_log_ret, ext0, ext1, ext2, nil_eq, get_ne, get_eq, nth_0, nth_s, cells_agg, cells_int, cells_bool, cells_slice, cells_ptr, ro_zero, one_int, one_bool, one_slice, one_ptr, arr_size, overL, Nat.zero_add, Nat.reduceAdd, Nat.add_zero, List.length_cons, List.length_nil, List.all_cons, List.all_nil, Nat.reduceLeDiff, Nat.ble_eq, Bool.and_true, Bool.not_false, Bool.and_self, decide_true, List.drop_zero, List.drop_succ_cons, List.take_succ_cons, List.take_zero, List.take_nil, true_and, and_true, Int.ofNat_eq_natCast, neg_one, Int.toNat_natCast, Int.natCast_zero, Int.natCast_one, Int.cast_ofNat_Int, List.append_nil, List.nil_append, funX_eq, if_true, if_false, Bool.false_eq_true, Bool.not_true, Bool.not_false, Nat.sub_zero]
        rw [if_pos (by repeat' (first | exact dynOk_nil _ _ | refine dyn_skip' ?_ | refine dyn_cons ?_ ?_ | exact allF_nil _ _ | refine allF_cons ?_ ?_))]
        cases e7 : twinAny (l.take i) y with
        | true =>
          simp (disch := omega) only [tys, bindJ_eq, logJ_eq, wp_cond, wp_guard, gd_true, gd_false, pick_eq, add_eq, sub_eq, eq_eq, ne_eq, lt_eq, le_eq, gt_eq, ge_eq, shr_eq, shl_eq, quo_eq, rem_eq, not_eq, wp_log_ret, ext0, ext1, ext2, nil_eq, get_ne, get_eq, nth_0, nth_s, cells_agg, cells_int, cells_bool, cells_slice, cells_ptr, ro_zero, one_int, one_bool, one_slice, one_ptr, arr_size, overL, Nat.zero_add, Nat.reduceAdd, Nat.add_zero, List.length_cons, List.length_nil, List.all_cons, List.all_nil, Nat.reduceLeDiff, Nat.ble_eq, Bool.and_true, Bool.not_false, Bool.and_self, decide_true, List.drop_zero, List.drop_succ_cons, List.take_succ_cons, List.take_zero, List.take_nil, true_and, and_true, Int.ofNat_eq_natCast, neg_one, Int.toNat_natCast, Int.natCast_zero, Int.natCast_one, Int.cast_ofNat_Int, List.append_nil, List.nil_append, funX_eq, if_true, if_false, Bool.false_eq_true, Bool.not_true, Bool.not_false]
          exact bad _ _ g7 (by rw [e0, decide_eq_false_iff_not, hgi, good_step hy]; simp [e7])
        | false =>
          simp (disch := omega) only [tys, bindJ_eq, logJ_eq, wp_cond, wp_guard, gd_true, gd_false, pick_eq, add_eq, sub_eq, eq_eq, ne_eq, lt_eq, le_eq, gt_eq, ge_eq, shr_eq, shl_eq, quo_eq, rem_eq, not_eq, wp_log_ret, ext0, ext1, ext2, nil_eq, get_ne, get_eq, nth_0, nth_s, cells_agg, cells_int, cells_bool, cells_slice, cells_ptr, ro_zero, one_int, one_bool, one_slice, one_ptr, arr_size, overL, Nat.zero_add, Nat.reduceAdd, Nat.add_zero, List.length_cons, List.length_nil, List.all_cons, List.all_nil, Nat.reduceLeDiff, Nat.ble_eq, Bool.and_true, Bool.not_false, Bool.and_self, decide_true, List.drop_zero, List.drop_succ_cons, List.take_succ_cons, List.take_zero, List.take_nil, true_and, and_true, Int.ofNat_eq_natCast, neg_one, Int.toNat_natCast, Int.natCast_zero, Int.natCast_one, Int.cast_ofNat_Int, List.append_nil, List.nil_append, funX_eq, if_true, if_false, Bool.false_eq_true, Bool.not_true, Bool.not_false, wrapS (i := i) (by omega)]
          exact ih (i + 1) _ _ _ (by omega) (by omega) (by rw [hgi, good_step hy]; simp [maxT, e6, e7]) g7
      · obtain rfl : i = len := by omega
        simp (disch := omega) only [tys, bindJ_eq, logJ_eq, wp_cond, wp_guard, gd_true, gd_false, pick_eq, add_eq, sub_eq, eq_eq, ne_eq, lt_eq, le_eq, gt_eq, ge_eq, shr_eq, shl_eq, quo_eq, rem_eq, not_eq, wp_log_ret, ext0, ext1, ext2, nil_eq, get_ne, get_eq, nth_0, nth_s, cells_agg, cells_int, cells_bool, cells_slice, cells_ptr, ro_zero, one_int, one_bool, one_slice, one_ptr, arr_size, overL, Nat.zero_add, Nat.reduceAdd, Nat.add_zero, List.length_cons, List.length_nil, List.all_cons, List.all_nil, Nat.reduceLeDiff, Nat.ble_eq, Bool.and_true, Bool.not_false, Bool.and_self, decide_true, List.drop_zero, List.drop_succ_cons, List.take_succ_cons, List.take_zero, List.take_nil, true_and, and_true, Int.ofNat_eq_natCast, neg_one, Int.toNat_natCast, Int.natCast_zero, Int.natCast_one, Int.cast_ofNat_Int, List.append_nil, List.nil_append, funX_eq, if_true, if_false, Bool.false_eq_true, Bool.not_true, Bool.not_false, Int.lt_irrefl, decide_false]
        exact fin _ _ g1 (by rw [e0, decide_eq_true_eq, hgi, ← hlen]; exact good_end _ _)
  exact loop _ (fun _ _ _ _ => rfl) N 0 _ k4 s4 (by omega) (by omega) Iff.rfl u4
theorem s33 (x : SU) (base clean : Int) {p : Option Addr} {len cap : Nat} {l : List K3} (r : Sl EK h p len cap l) (hl : len ≤ 10000) : ValS (D N (d + 7)) 33 [suval x, shval base p len cap clean] h s (.tuple ⟨if fitsK x base clean l = true then [vi (floorK x base l), vi 0] else [vi 0, vi 2]⟩) := by
  refine ValS.of hf fun K pw Z g hp hk => ?_
  rw [D_33]; unfold F33; rw [app2_eq]
  refine wp_boxA g hp fun h1 g1 c1 b1 => ?_
  refine wp_boxA g1 hp fun h2 g2 c2 b2 => ?_
  replace hk := fun h' s' (g' : From (s + 1 + 1) h2 h' s') => hk h' s' (g2.trans g'); replace hp := fun n (hn : s + 1 + 1 ≤ n) => hp n (by omega); have g0 := From.refl g2.fresh
  replace b1 := c2.box b1 (by omega)
  have r0 := r.from hf g2
  simp only [suv, shv] at b1 b2
  have hlen := r.row.1
  simp (disch := omega) only [tys, bindJ_eq, logJ_eq, wp_cond, wp_guard, gd_true, gd_false, pick_eq, add_eq, sub_eq, eq_eq, ne_eq, lt_eq, le_eq, gt_eq, ge_eq, shr_eq, shl_eq, quo_eq, rem_eq, not_eq, wp_log_ret, ext0, ext1, ext2, nil_eq, get_ne, get_eq, nth_0, nth_s, cells_agg, cells_int, cells_bool, cells_slice, cells_ptr, ro_zero, one_int, one_bool, one_slice, one_ptr, arr_size, overL, Nat.zero_add, Nat.reduceAdd, Nat.add_zero, List.length_cons, List.length_nil, List.all_cons, List.all_nil, Nat.reduceLeDiff, Nat.ble_eq, Bool.and_true, Bool.not_false, Bool.and_self, decide_true, List.drop_zero, List.drop_succ_cons, List.take_succ_cons, List.take_zero, List.take_nil, true_and, and_true, Int.ofNat_eq_natCast, neg_one, Int.toNat_natCast, Int.natCast_zero, Int.natCast_one, Int.cast_ofNat_Int, List.append_nil, List.nil_append, ldB b1, clB b1, ldBL b1, clBL b1, ldB b2, clB b2, ldBL b2, clBL b2, funX_eq, if_true, if_false, Bool.false_eq_true, Bool.not_true, Bool.not_false]
  refine ValS.go g0 hp (s31 (d := d) hN g0.fresh x base clean r0 hl) fun k1 s1 u1 _ => ?_
  cases e1 : fitsK x base clean l with
  | false =>
    simp (disch := omega) only [tys, bindJ_eq, logJ_eq, wp_cond, wp_guard, gd_true, gd_false, pick_eq, add_eq, sub_eq, eq_eq, ne_eq, lt_eq, le_eq, gt_eq, ge_eq, shr_eq, shl_eq, quo_eq, rem_eq, not_eq, wp_log_ret, ext0, ext1, ext2, nil_eq, get_ne, get_eq, nth_0, nth_s, cells_agg, cells_int, cells_bool, cells_slice, cells_ptr, ro_zero, one_int, one_bool, one_slice, one_ptr, arr_size, overL, Nat.zero_add, Nat.reduceAdd, Nat.add_zero, List.length_cons, List.length_nil, List.all_cons, List.all_nil, Nat.reduceLeDiff, Nat.ble_eq, Bool.and_true, Bool.not_false, Bool.and_self, decide_true, List.drop_zero, List.drop_succ_cons, List.take_succ_cons, List.take_zero, List.take_nil, true_and, and_true, Int.ofNat_eq_natCast, neg_one, Int.toNat_natCast, Int.natCast_zero, Int.natCast_one, Int.cast_ofNat_Int, List.append_nil, List.nil_append, funX_eq, if_true, if_false, Bool.false_eq_true, Bool.not_true, Bool.not_false, errI]
    have := hk _ _ u1
    simp only [e1, Bool.false_eq_true, if_false] at this
    exact this
  | true =>
  simp (disch := omega) only [tys, bindJ_eq, logJ_eq, wp_cond, wp_guard, gd_true, gd_false, pick_eq, add_eq, sub_eq, eq_eq, ne_eq, lt_eq, le_eq, gt_eq, ge_eq, shr_eq, shl_eq, quo_eq, rem_eq, not_eq, wp_log_ret, ext0, ext1, ext2, nil_eq, get_ne, get_eq, nth_0, nth_s, cells_agg, cells_int, cells_bool, cells_slice, cells_ptr, ro_zero, one_int, one_bool, one_slice, one_ptr, arr_size, overL, Nat.zero_add, Nat.reduceAdd, Nat.add_zero, List.length_cons, List.length_nil, List.all_cons, List.all_nil, Nat.reduceLeDiff, Nat.ble_eq, Bool.and_true, Bool.not_false, Bool.and_self, decide_true, List.drop_zero, List.drop_succ_cons, List.take_succ_cons, List.take_zero, List.take_nil, true_and, and_true, Int.ofNat_eq_natCast, neg_one, Int.toNat_natCast, Int.natCast_zero, Int.natCast_one, Int.cast_ofNat_Int, List.append_nil, List.nil_append, ldB (u1.box b1 (by omega)), clB (u1.box b1 (by omega)), ldBL (u1.box b1 (by omega)), clBL (u1.box b1 (by omega)), ldB (u1.box b2 (by omega)), clB (u1.box b2 (by omega)), ldBL (u1.box b2 (by omega)), clBL (u1.box b2 (by omega)), funX_eq, if_true, if_false, Bool.false_eq_true, Bool.not_true, Bool.not_false, errI, X33_2]
  have hk' : ∀ (n : Int) (h' : T) (s' : Nat), From (s + 1 + 1) h2 h' s' → n = floorK x base l → (K (.tuple ⟨[vi n, vi 0]⟩) s').wp pw Z h' := fun n h' s' g' e => by
    have := hk _ _ g'
    simp only [e1, if_true] at this
    rw [e]; exact this
  obtain ⟨f1, f2, f3, f4, f5, f6⟩ := fits_iff.1 e1
  obtain ⟨q1, q2, q3, q4, q5, q6⟩ := chk_keep f1
  have hnew : 0 ≤ newK base l ∧ newK base l ≤ maxT := by
    rcases new_is base l with ⟨_, e⟩ | ⟨y, hy, e⟩
    · rw [e]; exact f2
    · rw [e]
      have := (good_iff.1 f6).1 y hy
      omega
  unfold maxT at *
  refine ValS.goL u1 hp (s49 u1.fresh base clean (r0.from g0.fresh u1).row hl) fun k2 s2 ts2 ws2 u2 _ hw2 ht2 => ?_
  simp (disch := omega) only [tys, bindJ_eq, logJ_eq, wp_cond, wp_guard, gd_true, gd_false, pick_eq, add_eq, sub_eq, eq_eq, ne_eq, lt_eq, le_eq, gt_eq, ge_eq, shr_eq, shl_eq, quo_eq, rem_eq, not_eq, wp_log_ret, ext0, ext1, ext2, nil_eq, get_ne, get_eq, nth_0, nth_s, cells_agg, cells_int, cells_bool, cells_slice, cells_ptr, ro_zero, one_int, one_bool, one_slice, one_ptr, arr_size, overL, Nat.zero_add, Nat.reduceAdd, Nat.add_zero, List.length_cons, List.length_nil, List.all_cons, List.all_nil, Nat.reduceLeDiff, Nat.ble_eq, Bool.and_true, Bool.not_false, Bool.and_self, decide_true, List.drop_zero, List.drop_succ_cons, List.take_succ_cons, List.take_zero, List.take_nil, true_and, and_true, Int.ofNat_eq_natCast, neg_one, Int.toNat_natCast, Int.natCast_zero, Int.natCast_one, Int.cast_ofNat_Int, List.append_nil, List.nil_append, ldB (u2.box b1 (by omega)), clB (u2.box b1 (by omega)), ldBL (u2.box b1 (by omega)), clBL (u2.box b1 (by omega)), ldB (u2.box b2 (by omega)), clB (u2.box b2 (by omega)), ldBL (u2.box b2 (by omega)), clBL (u2.box b2 (by omega)), funX_eq, if_true, if_false, Bool.false_eq_true, Bool.not_true, Bool.not_false, blt_max, wrap_id (a := newK base l - x.horizon) (by omega) (by omega), X33_1]
  rw [if_pos (by have := u1.le; repeat' (first | exact dynOk_nil _ _ | refine dyn_skip' ?_ | refine dyn_cons ?_ ?_ | exact allF_nil _ _ | refine allF_cons ?_ ?_ | exact disj_below hw2 (by omega) | exact disjA hw2 (by omega) | exact disjB hw2 (by omega) | exact disjC hw2 (by assumption) | exact disjN _ | exact disj1 (by omega) | exact disj2 (by omega)))]
  refine ValS.go u2 hp (s104 u2.fresh x base clean (r0.from g0.fresh u2).row) fun k3 s3 u3 _ => ?_
  cases e2 : fullK x l with
  | false =>
    simp (disch := omega) only [tys, bindJ_eq, logJ_eq, wp_cond, wp_guard, gd_true, gd_false, pick_eq, add_eq, sub_eq, eq_eq, ne_eq, lt_eq, le_eq, gt_eq, ge_eq, shr_eq, shl_eq, quo_eq, rem_eq, not_eq, wp_log_ret, ext0, ext1, ext2, nil_eq, get_ne, get_eq, nth_0, nth_s, cells_agg, cells_int, cells_bool, cells_slice, cells_ptr, ro_zero, one_int, one_bool, one_slice, one_ptr, arr_size, overL, Nat.zero_add, Nat.reduceAdd, Nat.add_zero, List.length_cons, List.length_nil, List.all_cons, List.all_nil, Nat.reduceLeDiff, Nat.ble_eq, Bool.and_true, Bool.not_false, Bool.and_self, decide_true, List.drop_zero, List.drop_succ_cons, List.take_succ_cons, List.take_zero, List.take_nil, true_and, and_true, Int.ofNat_eq_natCast, neg_one, Int.toNat_natCast, Int.natCast_zero, Int.natCast_one, Int.cast_ofNat_Int, List.append_nil, List.nil_append, funX_eq, if_true, if_false, Bool.false_eq_true, Bool.not_true, Bool.not_false]
    exact hk' _ _ _ u3 (by unfold floorK; rw [if_neg (by simp [e2])])
  | true =>
    have : (l.length : Int) = x.keep := by simpa [fullK] using e2
    obtain ⟨y, hy⟩ := get_some (l := l) (i := 0) (by omega)
    simp (disch := omega) only [tys, bindJ_eq, logJ_eq, wp_cond, wp_guard, gd_true, gd_false, pick_eq, add_eq, sub_eq, eq_eq, ne_eq, lt_eq, le_eq, gt_eq, ge_eq, shr_eq, shl_eq, quo_eq, rem_eq, not_eq, wp_log_ret, ext0, ext1, ext2, nil_eq, get_ne, get_eq, nth_0, nth_s, cells_agg, cells_int, cells_bool, cells_slice, cells_ptr, ro_zero, one_int, one_bool, one_slice, one_ptr, arr_size, overL, Nat.zero_add, Nat.reduceAdd, Nat.add_zero, List.length_cons, List.length_nil, List.all_cons, List.all_nil, Nat.reduceLeDiff, Nat.ble_eq, Bool.and_true, Bool.not_false, Bool.and_self, decide_true, List.drop_zero, List.drop_succ_cons, List.take_succ_cons, List.take_zero, List.take_nil, true_and, and_true, Int.ofNat_eq_natCast, neg_one, Int.toNat_natCast, Int.natCast_zero, Int.natCast_one, Int.cast_ofNat_Int, List.append_nil, List.nil_append, ldB (u3.box b2 (by omega)), clB (u3.box b2 (by omega)), ldBL (u3.box b2 (by omega)), clBL (u3.box b2 (by omega)), funX_eq, if_true, if_false, Bool.false_eq_true, Bool.not_true, Bool.not_false, xa30 (r0.from g0.fresh u3).row (by omega), rowA (r0.from g0.fresh u3).row hy, blt_max]
    exact hk' _ _ _ u3 (by unfold floorK; rw [if_pos e2, hy])
end
end Go.Ev.R
namespace Go.Ev.R
open Go Go.RowKit
section
variable {N d : Nat} (hN : 100000 ≤ N) {h : T} {s : Nat} (hf : ∀ n, s ≤ n → h.get n = none)
include hf
theorem s99 {a b : Nat} (e : Int) (k : K3) (ha : h.get a = some (.cells ⟨[vi e]⟩ 35 (0, 0))) (hb : h.get b = some (.cells ⟨kv k⟩ 48 (0, 0))) : ValS (D N (d + 2)) 99 [.pointer (some ⟨a, 0, none⟩), .pointer (some ⟨b, 0, none⟩)] h s (.bool (!decide (e = 0) || !wI k.a 0 maxT)) := by
  refine ValS.of hf fun K pw Z g hp hk => ?_
  rw [D_99]; unfold F99; rw [app2_eq]
  simp only [kv] at hb
  simp (disch := first | assumption | omega | (simp only [Int.ofNat_eq_natCast, neg_one]; done) | (simp only [Int.ofNat_eq_natCast, neg_one]; omega)) only [tysW, w_bindJ, w_logJ, w_ct, w_cf, w_gtt, w_gft, w_gtf, w_gff, w_pt, w_pf, w_lret, w_e0, w_e1, w_e2, w_nil, w_fun, w_nt, w_nf, w_add, w_sub, w_eqt, w_eqf, w_net, w_nef, w_ltt, w_ltf, w_let, w_lef, w_gtt', w_gtf', w_get, w_gef, toNat_of, of_add, cast_add, nth_0, nth_s, Nat.zero_add, Nat.reduceAdd, Nat.reduceMul, Nat.add_zero, List.length_cons, List.length_nil, List.drop_zero, List.drop_succ_cons, List.take_succ_cons, List.take_zero, List.take_nil, true_and, and_true, Int.toNat_natCast, List.append_nil, List.nil_append, List.cons_append, ldB ha, clB ha, ldBL ha, clBL ha, ldB hb, clB hb, ldBL hb, clBL hb]
  by_cases e1 : e = 0
  · simp (disch := first | assumption | omega | (simp only [Int.ofNat_eq_natCast, neg_one]; done) | (simp only [Int.ofNat_eq_natCast, neg_one]; omega)) only [tysW, w_bindJ, w_logJ, w_ct, w_cf, w_gtt, w_gft, w_gtf, w_gff, w_pt, w_pf, w_lret, w_e0, w_e1, w_e2, w_nil, w_fun, w_nt, w_nf, w_add, w_sub, w_eqt, w_eqf, w_net, w_nef, w_ltt, w_ltf, w_let, w_lef, w_gtt', w_gtf', w_get, w_gef, toNat_of, of_add, cast_add, nth_0, nth_s, Nat.zero_add, Nat.reduceAdd, Nat.reduceMul, Nat.add_zero, List.length_cons, List.length_nil, List.drop_zero, List.drop_succ_cons, List.take_succ_cons, List.take_zero, List.take_nil, true_and, and_true, Int.toNat_natCast, List.append_nil, List.nil_append, List.cons_append, ldB ha, clB ha, ldBL ha, clBL ha, ldB hb, clB hb, ldBL hb, clBL hb]
    refine ValS.go g hp (s100 g.fresh _ _ _) fun k1 s1 u1 _ => ?_
    simp (disch := first | assumption | omega | (simp only [Int.ofNat_eq_natCast, neg_one]; done) | (simp only [Int.ofNat_eq_natCast, neg_one]; omega)) only [tysW, w_bindJ, w_logJ, w_ct, w_cf, w_gtt, w_gft, w_gtf, w_gff, w_pt, w_pf, w_lret, w_e0, w_e1, w_e2, w_nil, w_fun, w_nt, w_nf, w_add, w_sub, w_eqt, w_eqf, w_net, w_nef, w_ltt, w_ltf, w_let, w_lef, w_gtt', w_gtf', w_get, w_gef, toNat_of, of_add, cast_add, nth_0, nth_s, Nat.zero_add, Nat.reduceAdd, Nat.reduceMul, Nat.add_zero, List.length_cons, List.length_nil, List.drop_zero, List.drop_succ_cons, List.take_succ_cons, List.take_zero, List.take_nil, true_and, and_true, Int.toNat_natCast, List.append_nil, List.nil_append, List.cons_append, w_not]
    have := hk _ _ u1
    simp only [e1, maxT, decide_true, Bool.not_true, Bool.false_or] at this
    exact this
  · simp (disch := first | assumption | omega | (simp only [Int.ofNat_eq_natCast, neg_one]; done) | (simp only [Int.ofNat_eq_natCast, neg_one]; omega)) only [tysW, w_bindJ, w_logJ, w_ct, w_cf, w_gtt, w_gft, w_gtf, w_gff, w_pt, w_pf, w_lret, w_e0, w_e1, w_e2, w_nil, w_fun, w_nt, w_nf, w_add, w_sub, w_eqt, w_eqf, w_net, w_nef, w_ltt, w_ltf, w_let, w_lef, w_gtt', w_gtf', w_get, w_gef, toNat_of, of_add, cast_add, nth_0, nth_s, Nat.zero_add, Nat.reduceAdd, Nat.reduceMul, Nat.add_zero, List.length_cons, List.length_nil, List.drop_zero, List.drop_succ_cons, List.take_succ_cons, List.take_zero, List.take_nil, true_and, and_true, Int.toNat_natCast, List.append_nil, List.nil_append, List.cons_append, ldB ha, clB ha, ldBL ha, clBL ha, ldB hb, clB hb, ldBL hb, clBL hb]
    have := hk _ _ g
    simp only [e1, decide_false, Bool.not_false, Bool.true_or] at this
    exact this
include hN
theorem s101 {a b : Nat} (base clean : Int) {p : Option Addr} {len cap : Nat} {l : List K3} (r : Row EK h p len l) (hl : len ≤ 10000) (k : K3) (ha : h.get a = some (.cells ⟨shv base p len cap clean⟩ 46 (0, 0))) (hb : h.get b = some (.cells ⟨kv k⟩ 48 (0, 0))) : ValS (D N (d + 6)) 101 [.pointer (some ⟨a, 0, none⟩), .pointer (some ⟨b, 0, none⟩)] h s (.bool (twinAny l k)) := by
  refine ValS.of hf fun K pw Z g hp hk => ?_
  rw [D_101]; unfold F101; rw [app2_eq]
  simp only [kv, shv] at ha hb
  simp (disch := first | assumption | omega | (simp only [Int.ofNat_eq_natCast, neg_one]; done) | (simp only [Int.ofNat_eq_natCast, neg_one]; omega)) only [tysW, w_bindJ, w_logJ, w_ct, w_cf, w_gtt, w_gft, w_gtf, w_gff, w_pt, w_pf, w_lret, w_e0, w_e1, w_e2, w_nil, w_fun, w_nt, w_nf, w_add, w_sub, w_eqt, w_eqf, w_net, w_nef, w_ltt, w_ltf, w_let, w_lef, w_gtt', w_gtf', w_get, w_gef, toNat_of, of_add, cast_add, nth_0, nth_s, Nat.zero_add, Nat.reduceAdd, Nat.reduceMul, Nat.add_zero, List.length_cons, List.length_nil, List.drop_zero, List.drop_succ_cons, List.take_succ_cons, List.take_zero, List.take_nil, true_and, and_true, Int.toNat_natCast, List.append_nil, List.nil_append, List.cons_append, ldB ha, clB ha, ldBL ha, clBL ha, ldB hb, clB hb, ldBL hb, clBL hb]
  exact ValS.go g hp (s102 (d := d) hN g.fresh r hl k) fun k1 s1 u1 _ => hk _ _ u1
omit hN
theorem s105 {a b : Nat} (x : SU) (base clean : Int) {p : Option Addr} {len cap : Nat} {l : List K3} (r : Row EK h p len l) (ha : h.get a = some (.cells ⟨suv x⟩ 43 (0, 0))) (has : a < s) (hb : h.get b = some (.cells ⟨shv base p len cap clean⟩ 46 (0, 0))) (hbs : b < s) : ValS (D N (d + 2)) 105 [.pointer (some ⟨a, 0, none⟩), .pointer (some ⟨b, 0, none⟩)] h s (.bool (fullK x l && decide (clean = 0))) := by
  refine ValS.of hf fun K pw Z g hp hk => ?_
  rw [D_105]; unfold F105; rw [app2_eq]
  simp only [suv, shv] at ha hb
  simp (disch := first | assumption | omega | (simp only [Int.ofNat_eq_natCast, neg_one]; done) | (simp only [Int.ofNat_eq_natCast, neg_one]; omega)) only [tysW, w_bindJ, w_logJ, w_ct, w_cf, w_gtt, w_gft, w_gtf, w_gff, w_pt, w_pf, w_lret, w_e0, w_e1, w_e2, w_nil, w_fun, w_nt, w_nf, w_add, w_sub, w_eqt, w_eqf, w_net, w_nef, w_ltt, w_ltf, w_let, w_lef, w_gtt', w_gtf', w_get, w_gef, toNat_of, of_add, cast_add, nth_0, nth_s, Nat.zero_add, Nat.reduceAdd, Nat.reduceMul, Nat.add_zero, List.length_cons, List.length_nil, List.drop_zero, List.drop_succ_cons, List.take_succ_cons, List.take_zero, List.take_nil, true_and, and_true, Int.toNat_natCast, List.append_nil, List.nil_append, List.cons_append, ldB ha, clB ha, ldBL ha, clBL ha, ldB hb, clB hb, ldBL hb, clBL hb]
  refine ValS.go g hp (s104 g.fresh x base clean r) fun k1 s1 u1 _ => ?_
  cases e : fullK x l with
  | false =>
    simp (disch := first | assumption | omega | (simp only [Int.ofNat_eq_natCast, neg_one]; done) | (simp only [Int.ofNat_eq_natCast, neg_one]; omega)) only [tysW, w_bindJ, w_logJ, w_ct, w_cf, w_gtt, w_gft, w_gtf, w_gff, w_pt, w_pf, w_lret, w_e0, w_e1, w_e2, w_nil, w_fun, w_nt, w_nf, w_add, w_sub, w_eqt, w_eqf, w_net, w_nef, w_ltt, w_ltf, w_let, w_lef, w_gtt', w_gtf', w_get, w_gef, toNat_of, of_add, cast_add, nth_0, nth_s, Nat.zero_add, Nat.reduceAdd, Nat.reduceMul, Nat.add_zero, List.length_cons, List.length_nil, List.drop_zero, List.drop_succ_cons, List.take_succ_cons, List.take_zero, List.take_nil, true_and, and_true, Int.toNat_natCast, List.append_nil, List.nil_append, List.cons_append]
    have := hk _ _ u1
    simp only [e, Bool.false_and] at this
    exact this
  | true =>
    simp (disch := first | assumption | omega | (simp only [Int.ofNat_eq_natCast, neg_one]; done) | (simp only [Int.ofNat_eq_natCast, neg_one]; omega)) only [tysW, w_bindJ, w_logJ, w_ct, w_cf, w_gtt, w_gft, w_gtf, w_gff, w_pt, w_pf, w_lret, w_e0, w_e1, w_e2, w_nil, w_fun, w_nt, w_nf, w_add, w_sub, w_eqt, w_eqf, w_net, w_nef, w_ltt, w_ltf, w_let, w_lef, w_gtt', w_gtf', w_get, w_gef, toNat_of, of_add, cast_add, nth_0, nth_s, Nat.zero_add, Nat.reduceAdd, Nat.reduceMul, Nat.add_zero, List.length_cons, List.length_nil, List.drop_zero, List.drop_succ_cons, List.take_succ_cons, List.take_zero, List.take_nil, true_and, and_true, Int.toNat_natCast, List.append_nil, List.nil_append, List.cons_append, ldB (u1.box hb hbs), clB (u1.box hb hbs), ldBL (u1.box hb hbs), clBL (u1.box hb hbs), w_eq]
    have := hk _ _ u1
    simp only [e, Bool.true_and] at this
    exact this
include hN
theorem s103 {a b c e : Nat} (fl : Int) (k : K3) (x : SU) (base clean : Int) {p : Option Addr} {len cap : Nat} {l : List K3} (r : Row EK h p len l) (hfu : fullK x l = true → 0 < len)
    (ha : h.get a = some (.cells ⟨kv k⟩ 48 (0, 0))) (has : a < s) (hb : h.get b = some (.cells ⟨[vi fl]⟩ 3 (0, 0))) (hc : h.get c = some (.cells ⟨suv x⟩ 43 (0, 0))) (hcs : c < s) (he : h.get e = some (.cells ⟨shv base p len cap clean⟩ 46 (0, 0))) (hes : e < s) :
    ValS (D N (d + 6)) 103 [.pointer (some ⟨a, 0, none⟩), .pointer (some ⟨b, 0, none⟩), .pointer (some ⟨c, 0, none⟩), .pointer (some ⟨e, 0, none⟩)] h s (.bool (decide (k.a < fl) || (fullK x l && aheadK l k))) := by
  refine ValS.of hf fun K pw Z g hp hk => ?_
  rw [D_103]; unfold F103; rw [app4_eq]
  simp only [suv, shv, kv] at ha hb hc he
  simp (disch := first | assumption | omega | (simp only [Int.ofNat_eq_natCast, neg_one]; done) | (simp only [Int.ofNat_eq_natCast, neg_one]; omega)) only [tysW, w_bindJ, w_logJ, w_ct, w_cf, w_gtt, w_gft, w_gtf, w_gff, w_pt, w_pf, w_lret, w_e0, w_e1, w_e2, w_nil, w_fun, w_nt, w_nf, w_add, w_sub, w_eqt, w_eqf, w_net, w_nef, w_ltt, w_ltf, w_let, w_lef, w_gtt', w_gtf', w_get, w_gef, toNat_of, of_add, cast_add, nth_0, nth_s, Nat.zero_add, Nat.reduceAdd, Nat.reduceMul, Nat.add_zero, List.length_cons, List.length_nil, List.drop_zero, List.drop_succ_cons, List.take_succ_cons, List.take_zero, List.take_nil, true_and, and_true, Int.toNat_natCast, List.append_nil, List.nil_append, List.cons_append, ldB ha, clB ha, ldBL ha, clBL ha, ldB hb, clB hb, ldBL hb, clBL hb, ldB hc, clB hc, ldBL hc, clBL hc, ldB he, clB he, ldBL he, clBL he, X103_4]
  by_cases e1 : k.a < fl
  · simp (disch := first | assumption | omega | (simp only [Int.ofNat_eq_natCast, neg_one]; done) | (simp only [Int.ofNat_eq_natCast, neg_one]; omega)) only [tysW, w_bindJ, w_logJ, w_ct, w_cf, w_gtt, w_gft, w_gtf, w_gff, w_pt, w_pf, w_lret, w_e0, w_e1, w_e2, w_nil, w_fun, w_nt, w_nf, w_add, w_sub, w_eqt, w_eqf, w_net, w_nef, w_ltt, w_ltf, w_let, w_lef, w_gtt', w_gtf', w_get, w_gef, toNat_of, of_add, cast_add, nth_0, nth_s, Nat.zero_add, Nat.reduceAdd, Nat.reduceMul, Nat.add_zero, List.length_cons, List.length_nil, List.drop_zero, List.drop_succ_cons, List.take_succ_cons, List.take_zero, List.take_nil, true_and, and_true, Int.toNat_natCast, List.append_nil, List.nil_append, List.cons_append, ldB ha, clB ha, ldBL ha, clBL ha, ldB hb, clB hb, ldBL hb, clBL hb, ldB hc, clB hc, ldBL hc, clBL hc, ldB he, clB he, ldBL he, clBL he, X103_3, X103_2, X103_1]
    have := hk _ _ g
    simp only [e1, decide_true, Bool.true_or] at this
    exact this
  · simp (disch := first | assumption | omega | (simp only [Int.ofNat_eq_natCast, neg_one]; done) | (simp only [Int.ofNat_eq_natCast, neg_one]; omega)) only [tysW, w_bindJ, w_logJ, w_ct, w_cf, w_gtt, w_gft, w_gtf, w_gff, w_pt, w_pf, w_lret, w_e0, w_e1, w_e2, w_nil, w_fun, w_nt, w_nf, w_add, w_sub, w_eqt, w_eqf, w_net, w_nef, w_ltt, w_ltf, w_let, w_lef, w_gtt', w_gtf', w_get, w_gef, toNat_of, of_add, cast_add, nth_0, nth_s, Nat.zero_add, Nat.reduceAdd, Nat.reduceMul, Nat.add_zero, List.length_cons, List.length_nil, List.drop_zero, List.drop_succ_cons, List.take_succ_cons, List.take_zero, List.take_nil, true_and, and_true, Int.toNat_natCast, List.append_nil, List.nil_append, List.cons_append, ldB ha, clB ha, ldBL ha, clBL ha, ldB hb, clB hb, ldBL hb, clBL hb, ldB hc, clB hc, ldBL hc, clBL hc, ldB he, clB he, ldBL he, clBL he, X103_3]
    refine ValS.goL g hp (s104 g.fresh x base clean r) fun k1 s1 ts1 ws1 u1 _ hw1 ht1 => ?_
    cases e2 : fullK x l with
    | false =>
      simp (disch := first | assumption | omega | (simp only [Int.ofNat_eq_natCast, neg_one]; done) | (simp only [Int.ofNat_eq_natCast, neg_one]; omega)) only [tysW, w_bindJ, w_logJ, w_ct, w_cf, w_gtt, w_gft, w_gtf, w_gff, w_pt, w_pf, w_lret, w_e0, w_e1, w_e2, w_nil, w_fun, w_nt, w_nf, w_add, w_sub, w_eqt, w_eqf, w_net, w_nef, w_ltt, w_ltf, w_let, w_lef, w_gtt', w_gtf', w_get, w_gef, toNat_of, of_add, cast_add, nth_0, nth_s, Nat.zero_add, Nat.reduceAdd, Nat.reduceMul, Nat.add_zero, List.length_cons, List.length_nil, List.drop_zero, List.drop_succ_cons, List.take_succ_cons, List.take_zero, List.take_nil, true_and, and_true, Int.toNat_natCast, List.append_nil, List.nil_append, List.cons_append, X103_2, X103_1]
      have := hk _ _ u1
      simp only [e1, e2, decide_false, Bool.false_and, Bool.or_false] at this
      exact this
    | true =>
      obtain ⟨y, hy⟩ := get_some (l := l) (i := 0) (by rw [r.1]; exact hfu e2)
      simp (disch := first | assumption | omega | (simp only [Int.ofNat_eq_natCast, neg_one]; done) | (simp only [Int.ofNat_eq_natCast, neg_one]; omega)) only [tysW, w_bindJ, w_logJ, w_ct, w_cf, w_gtt, w_gft, w_gtf, w_gff, w_pt, w_pf, w_lret, w_e0, w_e1, w_e2, w_nil, w_fun, w_nt, w_nf, w_add, w_sub, w_eqt, w_eqf, w_net, w_nef, w_ltt, w_ltf, w_let, w_lef, w_gtt', w_gtf', w_get, w_gef, toNat_of, of_add, cast_add, nth_0, nth_s, Nat.zero_add, Nat.reduceAdd, Nat.reduceMul, Nat.add_zero, List.length_cons, List.length_nil, List.drop_zero, List.drop_succ_cons, List.take_succ_cons, List.take_zero, List.take_nil, true_and, and_true, Int.toNat_natCast, List.append_nil, List.nil_append, List.cons_append, ldB (u1.box ha has), clB (u1.box ha has), ldBL (u1.box ha has), clBL (u1.box ha has), ldB (u1.box he hes), clB (u1.box he hes), ldBL (u1.box he hes), clBL (u1.box he hes), X103_2, xa30 (u1.row hf r) (hfu e2), row30L (u1.row hf r) hy, X103_1]
      refine ValS.goL u1 hp (s34 (d := d + 1) hN u1.fresh k y) fun k2 s2 ts2 ws2 u2 _ hw2 ht2 => ?_
      simp (disch := first | assumption | omega | (simp only [Int.ofNat_eq_natCast, neg_one]; done) | (simp only [Int.ofNat_eq_natCast, neg_one]; omega)) only [tysW, w_bindJ, w_logJ, w_ct, w_cf, w_gtt, w_gft, w_gtf, w_gff, w_pt, w_pf, w_lret, w_e0, w_e1, w_e2, w_nil, w_fun, w_nt, w_nf, w_add, w_sub, w_eqt, w_eqf, w_net, w_nef, w_ltt, w_ltf, w_let, w_lef, w_gtt', w_gtf', w_get, w_gef, toNat_of, of_add, cast_add, nth_0, nth_s, Nat.zero_add, Nat.reduceAdd, Nat.reduceMul, Nat.add_zero, List.length_cons, List.length_nil, List.drop_zero, List.drop_succ_cons, List.take_succ_cons, List.take_zero, List.take_nil, true_and, and_true, Int.toNat_natCast, List.append_nil, List.nil_append, List.cons_append]
      have := hk _ _ u2
      simp only [e1, e2, decide_false, Bool.true_and, Bool.false_or, aheadK, hy] at this
      exact this
theorem s30 (x : SU) (base clean : Int) {p : Option Addr} {len cap : Nat} {l : List K3} (r : Sl EK h p len cap l) (hl : len ≤ 10000) (k : K3) : ValS (D N (d + 8)) 30 [suval x, shval base p len cap clean, kval k] h s (vi (judgeK x base clean l k)) := by
  refine ValS.of hf fun K pw Z g hp hk => ?_
  rw [D_30]; unfold F30; rw [app3_eq]
  unfold X30_2
  refine wp_boxA g hp fun h1 g1 c1 b1 => ?_
  refine wp_boxA g1 hp fun h2 g2 c2 b2 => ?_
  refine wp_boxA g2 hp fun h3 g3 c3 b3 => ?_
  replace hk := fun h' s' (g' : From (s + 1 + 1 + 1) h3 h' s') => hk h' s' (g3.trans g'); replace hp := fun n (hn : s + 1 + 1 + 1 ≤ n) => hp n (by omega); have g0 := From.refl g3.fresh
  replace b1 := (c2.trans c3).box b1 (by omega)
  replace b2 := c3.box b2 (by omega)
  have r0 := r.from hf g3
  have hlen := r.row.1
  have b1' := b1
  have b2' := b2
  have b3' := b3
  simp only [suv, shv, kv] at b1' b2' b3'
  simp (disch := first | assumption | omega | (simp only [Int.ofNat_eq_natCast, neg_one]; done) | (simp only [Int.ofNat_eq_natCast, neg_one]; omega)) only [tysW, w_bindJ, w_logJ, w_ct, w_cf, w_gtt, w_gft, w_gtf, w_gff, w_pt, w_pf, w_lret, w_e0, w_e1, w_e2, w_nil, w_fun, w_nt, w_nf, w_add, w_sub, w_eqt, w_eqf, w_net, w_nef, w_ltt, w_ltf, w_let, w_lef, w_gtt', w_gtf', w_get, w_gef, toNat_of, of_add, cast_add, nth_0, nth_s, Nat.zero_add, Nat.reduceAdd, Nat.reduceMul, Nat.add_zero, List.length_cons, List.length_nil, List.drop_zero, List.drop_succ_cons, List.take_succ_cons, List.take_zero, List.take_nil, true_and, and_true, Int.toNat_natCast, List.append_nil, List.nil_append, List.cons_append, ldB b1', clB b1', ldBL b1', clBL b1', ldB b2', clB b2', ldBL b2', clBL b2', ldB b3', clB b3', ldBL b3', clBL b3']
  refine ValS.go g0 hp (s33 (d := d) hN g0.fresh x base clean r0 hl) fun k1 s1 u1 _ => ?_
  obtain ⟨fl, er, hfe, hfl⟩ : ∃ fl er, (if fitsK x base clean l = true then [vi (floorK x base l), vi 0] else [vi 0, vi 2]) = [vi fl, vi er] ∧ (fitsK x base clean l = true ∧ fl = floorK x base l ∧ er = 0 ∨ fitsK x base clean l = false ∧ er = 2) := by
    cases fitsK x base clean l
    · exact ⟨0, 2, rfl, .inr ⟨rfl, rfl⟩⟩
    · exact ⟨_, 0, rfl, .inl ⟨rfl, rfl, rfl⟩⟩
  rw [hfe]
  simp (disch := first | assumption | omega | (simp only [Int.ofNat_eq_natCast, neg_one]; done) | (simp only [Int.ofNat_eq_natCast, neg_one]; omega)) only [tysW, w_bindJ, w_logJ, w_ct, w_cf, w_gtt, w_gft, w_gtf, w_gff, w_pt, w_pf, w_lret, w_e0, w_e1, w_e2, w_nil, w_fun, w_nt, w_nf, w_add, w_sub, w_eqt, w_eqf, w_net, w_nef, w_ltt, w_ltf, w_let, w_lef, w_gtt', w_gtf', w_get, w_gef, toNat_of, of_add, cast_add, nth_0, nth_s, Nat.zero_add, Nat.reduceAdd, Nat.reduceMul, Nat.add_zero, List.length_cons, List.length_nil, List.drop_zero, List.drop_succ_cons, List.take_succ_cons, List.take_zero, List.take_nil, true_and, and_true, Int.toNat_natCast, List.append_nil, List.nil_append, List.cons_append]
  refine wp_box1 (v := vi 0) rfl u1 hp fun k2 u2 v2 d2 => ?_
  simp (disch := first | assumption | omega | (simp only [Int.ofNat_eq_natCast, neg_one]; done) | (simp only [Int.ofNat_eq_natCast, neg_one]; omega)) only [tysW, w_bindJ, w_logJ, w_ct, w_cf, w_gtt, w_gft, w_gtf, w_gff, w_pt, w_pf, w_lret, w_e0, w_e1, w_e2, w_nil, w_fun, w_nt, w_nf, w_add, w_sub, w_eqt, w_eqf, w_net, w_nef, w_ltt, w_ltf, w_let, w_lef, w_gtt', w_gtf', w_get, w_gef, toNat_of, of_add, cast_add, nth_0, nth_s, Nat.zero_add, Nat.reduceAdd, Nat.reduceMul, Nat.add_zero, List.length_cons, List.length_nil, List.drop_zero, List.drop_succ_cons, List.take_succ_cons, List.take_zero, List.take_nil, true_and, and_true, Int.toNat_natCast, List.append_nil, List.nil_append, List.cons_append]
  refine wp_box1 (v := vi 0) rfl u2 hp fun k3 u3 v3 d3 => ?_
  replace d2 := v3.box d2 (by omega)
  simp (disch := first | assumption | omega | (simp only [Int.ofNat_eq_natCast, neg_one]; done) | (simp only [Int.ofNat_eq_natCast, neg_one]; omega)) only [tysW, w_bindJ, w_logJ, w_ct, w_cf, w_gtt, w_gft, w_gtf, w_gff, w_pt, w_pf, w_lret, w_e0, w_e1, w_e2, w_nil, w_fun, w_nt, w_nf, w_add, w_sub, w_eqt, w_eqf, w_net, w_nef, w_ltt, w_ltf, w_let, w_lef, w_gtt', w_gtf', w_get, w_gef, toNat_of, of_add, cast_add, nth_0, nth_s, Nat.zero_add, Nat.reduceAdd, Nat.reduceMul, Nat.add_zero, List.length_cons, List.length_nil, List.drop_zero, List.drop_succ_cons, List.take_succ_cons, List.take_zero, List.take_nil, true_and, and_true, Int.toNat_natCast, List.append_nil, List.nil_append, List.cons_append]
  refine wp_putF u3 hp d2 u1.le (by exact Nat.le_refl 1) rfl fun k4 u4 d4 e4 => ?_
  have d3' := (e4 (s1 + 1) (by omega)).trans d3
  simp (disch := first | assumption | omega | (simp only [Int.ofNat_eq_natCast, neg_one]; done) | (simp only [Int.ofNat_eq_natCast, neg_one]; omega)) only [tysW, w_bindJ, w_logJ, w_ct, w_cf, w_gtt, w_gft, w_gtf, w_gff, w_pt, w_pf, w_lret, w_e0, w_e1, w_e2, w_nil, w_fun, w_nt, w_nf, w_add, w_sub, w_eqt, w_eqf, w_net, w_nef, w_ltt, w_ltf, w_let, w_lef, w_gtt', w_gtf', w_get, w_gef, toNat_of, of_add, cast_add, nth_0, nth_s, Nat.zero_add, Nat.reduceAdd, Nat.reduceMul, Nat.add_zero, List.length_cons, List.length_nil, List.drop_zero, List.drop_succ_cons, List.take_succ_cons, List.take_zero, List.take_nil, true_and, and_true, Int.toNat_natCast, List.append_nil, List.nil_append, List.cons_append]
  refine wp_putF u4 hp d3' (by have := u1.le; omega) (by exact Nat.le_refl 1) rfl fun k5 u5 d5 e5 => ?_
  have d4 := (e5 s1 (by omega)).trans d4
  simp (disch := first | assumption | omega | (simp only [Int.ofNat_eq_natCast, neg_one]; done) | (simp only [Int.ofNat_eq_natCast, neg_one]; omega)) only [tysW, w_bindJ, w_logJ, w_ct, w_cf, w_gtt, w_gft, w_gtf, w_gff, w_pt, w_pf, w_lret, w_e0, w_e1, w_e2, w_nil, w_fun, w_nt, w_nf, w_add, w_sub, w_eqt, w_eqf, w_net, w_nef, w_ltt, w_ltf, w_let, w_lef, w_gtt', w_gtf', w_get, w_gef, toNat_of, of_add, cast_add, nth_0, nth_s, Nat.zero_add, Nat.reduceAdd, Nat.reduceMul, Nat.add_zero, List.length_cons, List.length_nil, List.drop_zero, List.drop_succ_cons, List.take_succ_cons, List.take_zero, List.take_nil, true_and, and_true, Int.toNat_natCast, List.append_nil, List.nil_append, List.cons_append]
  refine wp_newF u5 hp fun k6 u6 v6 d6 => ?_
  simp (disch := first | assumption | omega | (simp only [Int.ofNat_eq_natCast, neg_one]; done) | (simp only [Int.ofNat_eq_natCast, neg_one]; omega)) only [tysW, w_bindJ, w_logJ, w_ct, w_cf, w_gtt, w_gft, w_gtf, w_gff, w_pt, w_pf, w_lret, w_e0, w_e1, w_e2, w_nil, w_fun, w_nt, w_nf, w_add, w_sub, w_eqt, w_eqf, w_net, w_nef, w_ltt, w_ltf, w_let, w_lef, w_gtt', w_gtf', w_get, w_gef, toNat_of, of_add, cast_add, nth_0, nth_s, Nat.zero_add, Nat.reduceAdd, Nat.reduceMul, Nat.add_zero, List.length_cons, List.length_nil, List.drop_zero, List.drop_succ_cons, List.take_succ_cons, List.take_zero, List.take_nil, true_and, and_true, Int.toNat_natCast, List.append_nil, List.nil_append, List.cons_append]
  have hk6 := fun h' s' (g' : From (s1 + 1 + 1 + 1) k6 h' s') => hk h' s' (u6.trans g')
  have hp6 := fun n (hn : s1 + 1 + 1 + 1 ≤ n) => hp n (by have := u1.le; omega)
  have z0 := From.refl u6.fresh
  have hs1 := u1.le
  have B1 := u6.box b1 (by omega)
  have B2 := u6.box b2 (by omega)
  have B3 := u6.box b3 (by omega)
  have D4 : k6.get s1 = some (.cells ⟨[vi fl]⟩ 3 (0, 0)) := v6.box d4 (by omega)
  have D5 : k6.get (s1 + 1) = some (.cells ⟨[vi er]⟩ 35 (0, 0)) := v6.box d5 (by omega)
  have r6 := r0.from g0.fresh u6
  have key : ∀ (B : (Value → Value → Nat → AM) → Value → Value → Nat → AM) (hB : ∀ H u i s', B H u i s' = X30_1 N (D N (d + 7)) K (vi 4) (.slice (some ⟨s1 + 1 + 1, 0, none⟩) 4 4) (fun s => K (i64 0) s) H u i s') (m : Nat), 5 ≤ m → (loopJ m 2 (fun _ _ _ => AM.fail) B (i64 0) (i64 0) (s1 + 1 + 1 + 1)).wp pw Z k6 := by
    intro B hB m hm
    obtain ⟨m, rfl⟩ : ∃ q, m = q + 5 := ⟨m - 5, by omega⟩
    rw [loopJ_succ, hB]
    unfold X30_1
    simp (disch := first | assumption | omega | (simp only [Int.ofNat_eq_natCast, neg_one]; done) | (simp only [Int.ofNat_eq_natCast, neg_one]; omega)) only [tysW, w_bindJ, w_logJ, w_ct, w_cf, w_gtt, w_gft, w_gtf, w_gff, w_pt, w_pf, w_lret, w_e0, w_e1, w_e2, w_nil, w_fun, w_nt, w_nf, w_add, w_sub, w_eqt, w_eqf, w_net, w_nef, w_ltt, w_ltf, w_let, w_lef, w_gtt', w_gtf', w_get, w_gef, toNat_of, of_add, cast_add, nth_0, nth_s, Nat.zero_add, Nat.reduceAdd, Nat.reduceMul, Nat.add_zero, List.length_cons, List.length_nil, List.drop_zero, List.drop_succ_cons, List.take_succ_cons, List.take_zero, List.take_nil, true_and, and_true, Int.toNat_natCast, List.append_nil, List.nil_append, List.cons_append, ldB (z0.box d6 (by omega)), clB (z0.box d6 (by omega)), ldBL (z0.box d6 (by omega)), clBL (z0.box d6 (by omega))]
    refine wp_boxA z0 hp6 fun k0a y0 _ m0 => ?_
    simp (disch := first | assumption | omega | (simp only [Int.ofNat_eq_natCast, neg_one]; done) | (simp only [Int.ofNat_eq_natCast, neg_one]; omega)) only [tysW, w_bindJ, w_logJ, w_ct, w_cf, w_gtt, w_gft, w_gtf, w_gff, w_pt, w_pf, w_lret, w_e0, w_e1, w_e2, w_nil, w_fun, w_nt, w_nf, w_add, w_sub, w_eqt, w_eqf, w_net, w_nef, w_ltt, w_ltf, w_let, w_lef, w_gtt', w_gtf', w_get, w_gef, toNat_of, of_add, cast_add, nth_0, nth_s, Nat.zero_add, Nat.reduceAdd, Nat.reduceMul, Nat.add_zero, List.length_cons, List.length_nil, List.drop_zero, List.drop_succ_cons, List.take_succ_cons, List.take_zero, List.take_nil, true_and, and_true, Int.toNat_natCast, List.append_nil, List.nil_append, List.cons_append]
    refine wp_putF y0 hp6 m0 z0.le (by exact Nat.le_refl 2) rfl fun k0b x0 n0 _ => ?_
    simp only [overL] at n0
    simp (disch := first | assumption | omega | (simp only [Int.ofNat_eq_natCast, neg_one]; done) | (simp only [Int.ofNat_eq_natCast, neg_one]; omega)) only [tysW, w_bindJ, w_logJ, w_ct, w_cf, w_gtt, w_gft, w_gtf, w_gff, w_pt, w_pf, w_lret, w_e0, w_e1, w_e2, w_nil, w_fun, w_nt, w_nf, w_add, w_sub, w_eqt, w_eqf, w_net, w_nef, w_ltt, w_ltf, w_let, w_lef, w_gtt', w_gtf', w_get, w_gef, toNat_of, of_add, cast_add, nth_0, nth_s, Nat.zero_add, Nat.reduceAdd, Nat.reduceMul, Nat.add_zero, List.length_cons, List.length_nil, List.drop_zero, List.drop_succ_cons, List.take_succ_cons, List.take_zero, List.take_nil, true_and, and_true, Int.toNat_natCast, List.append_nil, List.nil_append, List.cons_append, ldB n0, clB n0, ldBL n0, clBL n0]
    refine ValS.go x0 hp6 (s99 (d := d + 5) x0.fresh er k (x0.box D5 (by omega)) (x0.box B3 (by omega))) fun k0c s0c w0 o0 => ?_
    cases e0 : (!decide (er = 0) || !wI k.a 0 maxT) with
    | true =>
      simp (disch := first | assumption | omega | (simp only [Int.ofNat_eq_natCast, neg_one]; done) | (simp only [Int.ofNat_eq_natCast, neg_one]; omega)) only [tysW, w_bindJ, w_logJ, w_ct, w_cf, w_gtt, w_gft, w_gtf, w_gff, w_pt, w_pf, w_lret, w_e0, w_e1, w_e2, w_nil, w_fun, w_nt, w_nf, w_add, w_sub, w_eqt, w_eqf, w_net, w_nef, w_ltt, w_ltf, w_let, w_lef, w_gtt', w_gtf', w_get, w_gef, toNat_of, of_add, cast_add, nth_0, nth_s, Nat.zero_add, Nat.reduceAdd, Nat.reduceMul, Nat.add_zero, List.length_cons, List.length_nil, List.drop_zero, List.drop_succ_cons, List.take_succ_cons, List.take_zero, List.take_nil, true_and, and_true, Int.toNat_natCast, List.append_nil, List.nil_append, List.cons_append, ldB (o0.box n0 (by omega)), clB (o0.box n0 (by omega)), ldBL (o0.box n0 (by omega)), clBL (o0.box n0 (by omega))]
      have := hk6 _ _ w0
      have hj : judgeK x base clean l k = 2 := by
        unfold judgeK
        rw [if_pos]
        rcases hfl with ⟨h1, h2, h3⟩ | ⟨h1, h2⟩
        · subst h3; simp at e0; exact .inr e0
        · exact .inl h1
      rw [hj] at this
      exact this
    | false =>
    simp (disch := first | assumption | omega | (simp only [Int.ofNat_eq_natCast, neg_one]; done) | (simp only [Int.ofNat_eq_natCast, neg_one]; omega)) only [tysW, w_bindJ, w_logJ, w_ct, w_cf, w_gtt, w_gft, w_gtf, w_gff, w_pt, w_pf, w_lret, w_e0, w_e1, w_e2, w_nil, w_fun, w_nt, w_nf, w_add, w_sub, w_eqt, w_eqf, w_net, w_nef, w_ltt, w_ltf, w_let, w_lef, w_gtt', w_gtf', w_get, w_gef, toNat_of, of_add, cast_add, nth_0, nth_s, Nat.zero_add, Nat.reduceAdd, Nat.reduceMul, Nat.add_zero, List.length_cons, List.length_nil, List.drop_zero, List.drop_succ_cons, List.take_succ_cons, List.take_zero, List.take_nil, true_and, and_true, Int.toNat_natCast, List.append_nil, List.nil_append, List.cons_append]
    have hfit : fitsK x base clean l = true ∧ fl = floorK x base l := by
      rcases hfl with ⟨h1, h2, h3⟩ | ⟨h1, h2⟩
      · exact ⟨h1, h2⟩
      · subst h2; simp at e0
    obtain ⟨hfit, hfl2⟩ := hfit
    have hwk : wI k.a 0 maxT = true := by
      cases e : wI k.a 0 maxT with
      | true => rfl
      | false => rw [e] at e0; simp at e0
    have hn2 : ¬ (fitsK x base clean l = false ∨ wI k.a 0 maxT = false) := by simp [hfit, hwk]
    have hfu : fullK x l = true → 0 < len := fun e => by
      have h1 : (l.length : Int) = x.keep := by simpa [fullK] using e
      have := (chk_keep (fits_iff.1 hfit).1).1
      omega
    rw [loopJ_succ, hB]
    unfold X30_1
    simp (disch := first | assumption | omega | (simp only [Int.ofNat_eq_natCast, neg_one]; done) | (simp only [Int.ofNat_eq_natCast, neg_one]; omega)) only [tysW, w_bindJ, w_logJ, w_ct, w_cf, w_gtt, w_gft, w_gtf, w_gff, w_pt, w_pf, w_lret, w_e0, w_e1, w_e2, w_nil, w_fun, w_nt, w_nf, w_add, w_sub, w_eqt, w_eqf, w_net, w_nef, w_ltt, w_ltf, w_let, w_lef, w_gtt', w_gtf', w_get, w_gef, toNat_of, of_add, cast_add, nth_0, nth_s, Nat.zero_add, Nat.reduceAdd, Nat.reduceMul, Nat.add_zero, List.length_cons, List.length_nil, List.drop_zero, List.drop_succ_cons, List.take_succ_cons, List.take_zero, List.take_nil, true_and, and_true, Int.toNat_natCast, List.append_nil, List.nil_append, List.cons_append, ldB (w0.box d6 (by omega)), clB (w0.box d6 (by omega)), ldBL (w0.box d6 (by omega)), clBL (w0.box d6 (by omega))]
    refine wp_boxA w0 hp6 fun k1a y1 _ m1 => ?_
    simp (disch := first | assumption | omega | (simp only [Int.ofNat_eq_natCast, neg_one]; done) | (simp only [Int.ofNat_eq_natCast, neg_one]; omega)) only [tysW, w_bindJ, w_logJ, w_ct, w_cf, w_gtt, w_gft, w_gtf, w_gff, w_pt, w_pf, w_lret, w_e0, w_e1, w_e2, w_nil, w_fun, w_nt, w_nf, w_add, w_sub, w_eqt, w_eqf, w_net, w_nef, w_ltt, w_ltf, w_let, w_lef, w_gtt', w_gtf', w_get, w_gef, toNat_of, of_add, cast_add, nth_0, nth_s, Nat.zero_add, Nat.reduceAdd, Nat.reduceMul, Nat.add_zero, List.length_cons, List.length_nil, List.drop_zero, List.drop_succ_cons, List.take_succ_cons, List.take_zero, List.take_nil, true_and, and_true, Int.toNat_natCast, List.append_nil, List.nil_append, List.cons_append]
    refine wp_putF y1 hp6 m1 w0.le (by exact Nat.le_refl 2) rfl fun k1b x1 n1 _ => ?_
    simp only [overL] at n1
    simp (disch := first | assumption | omega | (simp only [Int.ofNat_eq_natCast, neg_one]; done) | (simp only [Int.ofNat_eq_natCast, neg_one]; omega)) only [tysW, w_bindJ, w_logJ, w_ct, w_cf, w_gtt, w_gft, w_gtf, w_gff, w_pt, w_pf, w_lret, w_e0, w_e1, w_e2, w_nil, w_fun, w_nt, w_nf, w_add, w_sub, w_eqt, w_eqf, w_net, w_nef, w_ltt, w_ltf, w_let, w_lef, w_gtt', w_gtf', w_get, w_gef, toNat_of, of_add, cast_add, nth_0, nth_s, Nat.zero_add, Nat.reduceAdd, Nat.reduceMul, Nat.add_zero, List.length_cons, List.length_nil, List.drop_zero, List.drop_succ_cons, List.take_succ_cons, List.take_zero, List.take_nil, true_and, and_true, Int.toNat_natCast, List.append_nil, List.nil_append, List.cons_append, ldB n1, clB n1, ldBL n1, clBL n1]
    refine ValS.go x1 hp6 (s101 (d := d + 1) hN x1.fresh base clean (r6.from u6.fresh x1).row hl k (x1.box B2 (by omega)) (x1.box B3 (by omega))) fun k1c s1c w1 o1 => ?_
    cases e1 : twinAny l k with
    | true =>
      simp (disch := first | assumption | omega | (simp only [Int.ofNat_eq_natCast, neg_one]; done) | (simp only [Int.ofNat_eq_natCast, neg_one]; omega)) only [tysW, w_bindJ, w_logJ, w_ct, w_cf, w_gtt, w_gft, w_gtf, w_gff, w_pt, w_pf, w_lret, w_e0, w_e1, w_e2, w_nil, w_fun, w_nt, w_nf, w_add, w_sub, w_eqt, w_eqf, w_net, w_nef, w_ltt, w_ltf, w_let, w_lef, w_gtt', w_gtf', w_get, w_gef, toNat_of, of_add, cast_add, nth_0, nth_s, Nat.zero_add, Nat.reduceAdd, Nat.reduceMul, Nat.add_zero, List.length_cons, List.length_nil, List.drop_zero, List.drop_succ_cons, List.take_succ_cons, List.take_zero, List.take_nil, true_and, and_true, Int.toNat_natCast, List.append_nil, List.nil_append, List.cons_append, ldB (o1.box n1 (by omega)), clB (o1.box n1 (by omega)), ldBL (o1.box n1 (by omega)), clBL (o1.box n1 (by omega))]
      have := hk6 _ _ w1
      have hj : judgeK x base clean l k = 7 := by
        unfold judgeK
        rw [if_neg hn2, if_pos e1]
      rw [hj] at this
      exact this
    | false =>
    simp (disch := first | assumption | omega | (simp only [Int.ofNat_eq_natCast, neg_one]; done) | (simp only [Int.ofNat_eq_natCast, neg_one]; omega)) only [tysW, w_bindJ, w_logJ, w_ct, w_cf, w_gtt, w_gft, w_gtf, w_gff, w_pt, w_pf, w_lret, w_e0, w_e1, w_e2, w_nil, w_fun, w_nt, w_nf, w_add, w_sub, w_eqt, w_eqf, w_net, w_nef, w_ltt, w_ltf, w_let, w_lef, w_gtt', w_gtf', w_get, w_gef, toNat_of, of_add, cast_add, nth_0, nth_s, Nat.zero_add, Nat.reduceAdd, Nat.reduceMul, Nat.add_zero, List.length_cons, List.length_nil, List.drop_zero, List.drop_succ_cons, List.take_succ_cons, List.take_zero, List.take_nil, true_and, and_true, Int.toNat_natCast, List.append_nil, List.nil_append, List.cons_append]
    rw [loopJ_succ, hB]
    unfold X30_1
    simp (disch := first | assumption | omega | (simp only [Int.ofNat_eq_natCast, neg_one]; done) | (simp only [Int.ofNat_eq_natCast, neg_one]; omega)) only [tysW, w_bindJ, w_logJ, w_ct, w_cf, w_gtt, w_gft, w_gtf, w_gff, w_pt, w_pf, w_lret, w_e0, w_e1, w_e2, w_nil, w_fun, w_nt, w_nf, w_add, w_sub, w_eqt, w_eqf, w_net, w_nef, w_ltt, w_ltf, w_let, w_lef, w_gtt', w_gtf', w_get, w_gef, toNat_of, of_add, cast_add, nth_0, nth_s, Nat.zero_add, Nat.reduceAdd, Nat.reduceMul, Nat.add_zero, List.length_cons, List.length_nil, List.drop_zero, List.drop_succ_cons, List.take_succ_cons, List.take_zero, List.take_nil, true_and, and_true, Int.toNat_natCast, List.append_nil, List.nil_append, List.cons_append, ldB (w1.box d6 (by omega)), clB (w1.box d6 (by omega)), ldBL (w1.box d6 (by omega)), clBL (w1.box d6 (by omega))]
    refine wp_boxA w1 hp6 fun k2a y2 _ m2 => ?_
    simp (disch := first | assumption | omega | (simp only [Int.ofNat_eq_natCast, neg_one]; done) | (simp only [Int.ofNat_eq_natCast, neg_one]; omega)) only [tysW, w_bindJ, w_logJ, w_ct, w_cf, w_gtt, w_gft, w_gtf, w_gff, w_pt, w_pf, w_lret, w_e0, w_e1, w_e2, w_nil, w_fun, w_nt, w_nf, w_add, w_sub, w_eqt, w_eqf, w_net, w_nef, w_ltt, w_ltf, w_let, w_lef, w_gtt', w_gtf', w_get, w_gef, toNat_of, of_add, cast_add, nth_0, nth_s, Nat.zero_add, Nat.reduceAdd, Nat.reduceMul, Nat.add_zero, List.length_cons, List.length_nil, List.drop_zero, List.drop_succ_cons, List.take_succ_cons, List.take_zero, List.take_nil, true_and, and_true, Int.toNat_natCast, List.append_nil, List.nil_append, List.cons_append]
    refine wp_putF y2 hp6 m2 w1.le (by exact Nat.le_refl 2) rfl fun k2b x2 n2 _ => ?_
    simp only [overL] at n2
    simp (disch := first | assumption | omega | (simp only [Int.ofNat_eq_natCast, neg_one]; done) | (simp only [Int.ofNat_eq_natCast, neg_one]; omega)) only [tysW, w_bindJ, w_logJ, w_ct, w_cf, w_gtt, w_gft, w_gtf, w_gff, w_pt, w_pf, w_lret, w_e0, w_e1, w_e2, w_nil, w_fun, w_nt, w_nf, w_add, w_sub, w_eqt, w_eqf, w_net, w_nef, w_ltt, w_ltf, w_let, w_lef, w_gtt', w_gtf', w_get, w_gef, toNat_of, of_add, cast_add, nth_0, nth_s, Nat.zero_add, Nat.reduceAdd, Nat.reduceMul, Nat.add_zero, List.length_cons, List.length_nil, List.drop_zero, List.drop_succ_cons, List.take_succ_cons, List.take_zero, List.take_nil, true_and, and_true, Int.toNat_natCast, List.append_nil, List.nil_append, List.cons_append, ldB n2, clB n2, ldBL n2, clBL n2]
    refine ValS.go x2 hp6 (s103 (d := d + 1) hN x2.fresh fl k x base clean (r6.from u6.fresh x2).row hfu (x2.box B3 (by omega)) (by have := x2.le; omega) (x2.box D4 (by omega)) (x2.box B1 (by omega)) (by have := x2.le; omega) (x2.box B2 (by omega)) (by have := x2.le; omega)) fun k2c s2c w2 o2 => ?_
    cases e2 : (decide (k.a < fl) || (fullK x l && aheadK l k)) with
    | true =>
      simp (disch := first | assumption | omega | (simp only [Int.ofNat_eq_natCast, neg_one]; done) | (simp only [Int.ofNat_eq_natCast, neg_one]; omega)) only [tysW, w_bindJ, w_logJ, w_ct, w_cf, w_gtt, w_gft, w_gtf, w_gff, w_pt, w_pf, w_lret, w_e0, w_e1, w_e2, w_nil, w_fun, w_nt, w_nf, w_add, w_sub, w_eqt, w_eqf, w_net, w_nef, w_ltt, w_ltf, w_let, w_lef, w_gtt', w_gtf', w_get, w_gef, toNat_of, of_add, cast_add, nth_0, nth_s, Nat.zero_add, Nat.reduceAdd, Nat.reduceMul, Nat.add_zero, List.length_cons, List.length_nil, List.drop_zero, List.drop_succ_cons, List.take_succ_cons, List.take_zero, List.take_nil, true_and, and_true, Int.toNat_natCast, List.append_nil, List.nil_append, List.cons_append, ldB (o2.box n2 (by omega)), clB (o2.box n2 (by omega)), ldBL (o2.box n2 (by omega)), clBL (o2.box n2 (by omega))]
      have := hk6 _ _ w2
      have hj : judgeK x base clean l k = 6 := by
        unfold judgeK
        rw [if_neg hn2, if_neg (by simp [e1]), if_pos (by rw [← hfl2]; simpa using e2)]
      rw [hj] at this
      exact this
    | false =>
    simp (disch := first | assumption | omega | (simp only [Int.ofNat_eq_natCast, neg_one]; done) | (simp only [Int.ofNat_eq_natCast, neg_one]; omega)) only [tysW, w_bindJ, w_logJ, w_ct, w_cf, w_gtt, w_gft, w_gtf, w_gff, w_pt, w_pf, w_lret, w_e0, w_e1, w_e2, w_nil, w_fun, w_nt, w_nf, w_add, w_sub, w_eqt, w_eqf, w_net, w_nef, w_ltt, w_ltf, w_let, w_lef, w_gtt', w_gtf', w_get, w_gef, toNat_of, of_add, cast_add, nth_0, nth_s, Nat.zero_add, Nat.reduceAdd, Nat.reduceMul, Nat.add_zero, List.length_cons, List.length_nil, List.drop_zero, List.drop_succ_cons, List.take_succ_cons, List.take_zero, List.take_nil, true_and, and_true, Int.toNat_natCast, List.append_nil, List.nil_append, List.cons_append]
    rw [loopJ_succ, hB]
    unfold X30_1
    simp (disch := first | assumption | omega | (simp only [Int.ofNat_eq_natCast, neg_one]; done) | (simp only [Int.ofNat_eq_natCast, neg_one]; omega)) only [tysW, w_bindJ, w_logJ, w_ct, w_cf, w_gtt, w_gft, w_gtf, w_gff, w_pt, w_pf, w_lret, w_e0, w_e1, w_e2, w_nil, w_fun, w_nt, w_nf, w_add, w_sub, w_eqt, w_eqf, w_net, w_nef, w_ltt, w_ltf, w_let, w_lef, w_gtt', w_gtf', w_get, w_gef, toNat_of, of_add, cast_add, nth_0, nth_s, Nat.zero_add, Nat.reduceAdd, Nat.reduceMul, Nat.add_zero, List.length_cons, List.length_nil, List.drop_zero, List.drop_succ_cons, List.take_succ_cons, List.take_zero, List.take_nil, true_and, and_true, Int.toNat_natCast, List.append_nil, List.nil_append, List.cons_append, ldB (w2.box d6 (by omega)), clB (w2.box d6 (by omega)), ldBL (w2.box d6 (by omega)), clBL (w2.box d6 (by omega))]
    refine wp_boxA w2 hp6 fun k3a y3 _ m3 => ?_
    simp (disch := first | assumption | omega | (simp only [Int.ofNat_eq_natCast, neg_one]; done) | (simp only [Int.ofNat_eq_natCast, neg_one]; omega)) only [tysW, w_bindJ, w_logJ, w_ct, w_cf, w_gtt, w_gft, w_gtf, w_gff, w_pt, w_pf, w_lret, w_e0, w_e1, w_e2, w_nil, w_fun, w_nt, w_nf, w_add, w_sub, w_eqt, w_eqf, w_net, w_nef, w_ltt, w_ltf, w_let, w_lef, w_gtt', w_gtf', w_get, w_gef, toNat_of, of_add, cast_add, nth_0, nth_s, Nat.zero_add, Nat.reduceAdd, Nat.reduceMul, Nat.add_zero, List.length_cons, List.length_nil, List.drop_zero, List.drop_succ_cons, List.take_succ_cons, List.take_zero, List.take_nil, true_and, and_true, Int.toNat_natCast, List.append_nil, List.nil_append, List.cons_append]
    refine wp_putF y3 hp6 m3 w2.le (by exact Nat.le_refl 2) rfl fun k3b x3 n3 _ => ?_
    simp only [overL] at n3
    simp (disch := first | assumption | omega | (simp only [Int.ofNat_eq_natCast, neg_one]; done) | (simp only [Int.ofNat_eq_natCast, neg_one]; omega)) only [tysW, w_bindJ, w_logJ, w_ct, w_cf, w_gtt, w_gft, w_gtf, w_gff, w_pt, w_pf, w_lret, w_e0, w_e1, w_e2, w_nil, w_fun, w_nt, w_nf, w_add, w_sub, w_eqt, w_eqf, w_net, w_nef, w_ltt, w_ltf, w_let, w_lef, w_gtt', w_gtf', w_get, w_gef, toNat_of, of_add, cast_add, nth_0, nth_s, Nat.zero_add, Nat.reduceAdd, Nat.reduceMul, Nat.add_zero, List.length_cons, List.length_nil, List.drop_zero, List.drop_succ_cons, List.take_succ_cons, List.take_zero, List.take_nil, true_and, and_true, Int.toNat_natCast, List.append_nil, List.nil_append, List.cons_append, ldB n3, clB n3, ldBL n3, clBL n3]
    refine ValS.go x3 hp6 (s105 (d := d + 5) x3.fresh x base clean (r6.from u6.fresh x3).row (x3.box B1 (by omega)) (by have := x3.le; omega) (x3.box B2 (by omega)) (by have := x3.le; omega)) fun k3c s3c w3 o3 => ?_
    cases e3 : (fullK x l && decide (clean = 0)) with
    | true =>
      simp (disch := first | assumption | omega | (simp only [Int.ofNat_eq_natCast, neg_one]; done) | (simp only [Int.ofNat_eq_natCast, neg_one]; omega)) only [tysW, w_bindJ, w_logJ, w_ct, w_cf, w_gtt, w_gft, w_gtf, w_gff, w_pt, w_pf, w_lret, w_e0, w_e1, w_e2, w_nil, w_fun, w_nt, w_nf, w_add, w_sub, w_eqt, w_eqf, w_net, w_nef, w_ltt, w_ltf, w_let, w_lef, w_gtt', w_gtf', w_get, w_gef, toNat_of, of_add, cast_add, nth_0, nth_s, Nat.zero_add, Nat.reduceAdd, Nat.reduceMul, Nat.add_zero, List.length_cons, List.length_nil, List.drop_zero, List.drop_succ_cons, List.take_succ_cons, List.take_zero, List.take_nil, true_and, and_true, Int.toNat_natCast, List.append_nil, List.nil_append, List.cons_append, ldB (o3.box n3 (by omega)), clB (o3.box n3 (by omega)), ldBL (o3.box n3 (by omega)), clBL (o3.box n3 (by omega))]
      have := hk6 _ _ w3
      have hj : judgeK x base clean l k = 12 := by
        unfold judgeK
        rw [if_neg hn2, if_neg (by simp [e1]), if_neg (by rw [← hfl2]; simpa using e2), if_pos (by simpa using e3)]
      rw [hj] at this
      exact this
    | false =>
    simp (disch := first | assumption | omega | (simp only [Int.ofNat_eq_natCast, neg_one]; done) | (simp only [Int.ofNat_eq_natCast, neg_one]; omega)) only [tysW, w_bindJ, w_logJ, w_ct, w_cf, w_gtt, w_gft, w_gtf, w_gff, w_pt, w_pf, w_lret, w_e0, w_e1, w_e2, w_nil, w_fun, w_nt, w_nf, w_add, w_sub, w_eqt, w_eqf, w_net, w_nef, w_ltt, w_ltf, w_let, w_lef, w_gtt', w_gtf', w_get, w_gef, toNat_of, of_add, cast_add, nth_0, nth_s, Nat.zero_add, Nat.reduceAdd, Nat.reduceMul, Nat.add_zero, List.length_cons, List.length_nil, List.drop_zero, List.drop_succ_cons, List.take_succ_cons, List.take_zero, List.take_nil, true_and, and_true, Int.toNat_natCast, List.append_nil, List.nil_append, List.cons_append]
    rw [loopJ_succ, hB]
    unfold X30_1
    simp (disch := first | assumption | omega | (simp only [Int.ofNat_eq_natCast, neg_one]; done) | (simp only [Int.ofNat_eq_natCast, neg_one]; omega)) only [tysW, w_bindJ, w_logJ, w_ct, w_cf, w_gtt, w_gft, w_gtf, w_gff, w_pt, w_pf, w_lret, w_e0, w_e1, w_e2, w_nil, w_fun, w_nt, w_nf, w_add, w_sub, w_eqt, w_eqf, w_net, w_nef, w_ltt, w_ltf, w_let, w_lef, w_gtt', w_gtf', w_get, w_gef, toNat_of, of_add, cast_add, nth_0, nth_s, Nat.zero_add, Nat.reduceAdd, Nat.reduceMul, Nat.add_zero, List.length_cons, List.length_nil, List.drop_zero, List.drop_succ_cons, List.take_succ_cons, List.take_zero, List.take_nil, true_and, and_true, Int.toNat_natCast, List.append_nil, List.nil_append, List.cons_append]
    have := hk6 _ _ w3
    have hj : judgeK x base clean l k = 0 := by
      unfold judgeK
      rw [if_neg hn2, if_neg (by simp [e1]), if_neg (by rw [← hfl2]; simpa using e2), if_neg (by simpa using e3)]
    rw [hj] at this
    exact this
  exact key _ (fun _ _ _ _ => rfl) N (by omega)
end
end Go.Ev.R
namespace Go.Ev.R
open Go Go.RowKit
theorem D_29 (N d : Nat) (K : KV) (s : Nat) : D N (d + 1) 29 [] K s = K (.bool true) s := by kernel_rfl
theorem wI_f {n lo hi : Int} (h : ¬ (lo ≤ n ∧ n ≤ hi)) : wI n lo hi = false := by
  cases e : wI n lo hi with
  | false => rfl
  | true => exact absurd (wI_iff.1 e) h
section
variable {N d : Nat} (hN : 100000 ≤ N) {h : T} {s : Nat} (hf : ∀ n, s ≤ n → h.get n = none)
include hN hf
theorem s5 (x : SU) (base clean : Int) {p : Option Addr} {len cap : Nat} {l : List K3} (r : Sl EK h p len cap l) (k : K3) : ValS (D N (d + 9)) 5 [suval x, shval base p len cap clean, kval k] h s (.bool true) := by
  refine ValS.of hf fun K pw Z g hp hk => ?_
  rw [D_5]; unfold F5; rw [app3_eq]
  unfold X5_9
  refine wp_boxA g hp fun h1 g1 c1 b1 => ?_
  refine wp_boxA g1 hp fun h2 g2 c2 b2 => ?_
  refine wp_boxA g2 hp fun h3 g3 c3 b3 => ?_
  replace hk := fun h' s' (g' : From (s + 1 + 1 + 1) h3 h' s') => hk h' s' (g3.trans g'); replace hp := fun n (hn : s + 1 + 1 + 1 ≤ n) => hp n (by omega); have g0 := From.refl g3.fresh
  replace b1 := (c2.trans c3).box b1 (by omega)
  replace b2 := c3.box b2 (by omega)
  have r0 := r.from hf g3
  have hlen := r.row.1
  simp only [suv, shv, kv] at b1 b2 b3
  by_cases h60 : (60 : Int) < (len : Int)
  · simp (disch := first | assumption | omega | (simp only [Int.ofNat_eq_natCast, neg_one]; done) | (simp only [Int.ofNat_eq_natCast, neg_one]; omega)) only [tysW, w_bindJ, w_logJ, w_ct, w_cf, w_gtt, w_gft, w_gtf, w_gff, w_pt, w_pf, w_lret, w_e0, w_e1, w_e2, w_nil, w_fun, w_nt, w_nf, w_add, w_sub, w_eqt, w_eqf, w_net, w_nef, w_ltt, w_ltf, w_let, w_lef, w_gtt', w_gtf', w_get, w_gef, toNat_of, of_add, cast_add, nth_0, nth_s, Nat.zero_add, Nat.reduceAdd, Nat.reduceMul, Nat.add_zero, List.length_cons, List.length_nil, List.drop_zero, List.drop_succ_cons, List.take_succ_cons, List.take_zero, List.take_nil, true_and, and_true, Int.toNat_natCast, List.append_nil, List.nil_append, List.cons_append, ldB b1, clB b1, ldBL b1, clBL b1, ldB b2, clB b2, ldBL b2, clBL b2, ldB b3, clB b3, ldBL b3, clBL b3, D_29]
    exact hk _ _ g0
  simp (disch := first | assumption | omega | (simp only [Int.ofNat_eq_natCast, neg_one]; done) | (simp only [Int.ofNat_eq_natCast, neg_one]; omega)) only [tysW, w_bindJ, w_logJ, w_ct, w_cf, w_gtt, w_gft, w_gtf, w_gff, w_pt, w_pf, w_lret, w_e0, w_e1, w_e2, w_nil, w_fun, w_nt, w_nf, w_add, w_sub, w_eqt, w_eqf, w_net, w_nef, w_ltt, w_ltf, w_let, w_lef, w_gtt', w_gtf', w_get, w_gef, toNat_of, of_add, cast_add, nth_0, nth_s, Nat.zero_add, Nat.reduceAdd, Nat.reduceMul, Nat.add_zero, List.length_cons, List.length_nil, List.drop_zero, List.drop_succ_cons, List.take_succ_cons, List.take_zero, List.take_nil, true_and, and_true, Int.toNat_natCast, List.append_nil, List.nil_append, List.cons_append, ldB b1, clB b1, ldBL b1, clBL b1, ldB b2, clB b2, ldBL b2, clBL b2, ldB b3, clB b3, ldBL b3, clBL b3, D_29]
  refine ValS.go g0 hp (s30 (d := d) hN g0.fresh x base clean r0 (by omega) k) fun k1 s1 u1 _ => ?_
  simp (disch := first | assumption | omega | (simp only [Int.ofNat_eq_natCast, neg_one]; done) | (simp only [Int.ofNat_eq_natCast, neg_one]; omega)) only [tysW, w_bindJ, w_logJ, w_ct, w_cf, w_gtt, w_gft, w_gtf, w_gff, w_pt, w_pf, w_lret, w_e0, w_e1, w_e2, w_nil, w_fun, w_nt, w_nf, w_add, w_sub, w_eqt, w_eqf, w_net, w_nef, w_ltt, w_ltf, w_let, w_lef, w_gtt', w_gtf', w_get, w_gef, toNat_of, of_add, cast_add, nth_0, nth_s, Nat.zero_add, Nat.reduceAdd, Nat.reduceMul, Nat.add_zero, List.length_cons, List.length_nil, List.drop_zero, List.drop_succ_cons, List.take_succ_cons, List.take_zero, List.take_nil, true_and, and_true, Int.toNat_natCast, List.append_nil, List.nil_append, List.cons_append, ldB (u1.box b1 (by omega)), clB (u1.box b1 (by omega)), ldBL (u1.box b1 (by omega)), clBL (u1.box b1 (by omega)), ldB (u1.box b2 (by omega)), clB (u1.box b2 (by omega)), ldBL (u1.box b2 (by omega)), clBL (u1.box b2 (by omega))]
  refine ValS.go u1 hp (s31 (d := d + 2) hN u1.fresh x base clean (r0.from g0.fresh u1) (by omega)) fun k2 s2 u2 _ => ?_
  have L1 : ∀ {h' s'}, From (s + 1 + 1 + 1) h3 h' s' → h'.get s = some (.cells ⟨[vi x.keep, vi x.horizon, vi x.ahead, vi x.budget, vi x.window]⟩ 43 (0, 0)) := fun g => g.box b1 (by omega)
  have L2 : ∀ {h' s'}, From (s + 1 + 1 + 1) h3 h' s' → h'.get (s + 1) = some (.cells ⟨[vi base, .slice p len cap, vi clean]⟩ 46 (0, 0)) := fun g => g.box b2 (by omega)
  have L3 : ∀ {h' s'}, From (s + 1 + 1 + 1) h3 h' s' → h'.get (s + 1 + 1) = some (.cells ⟨[vi k.a, vi k.b, vi k.c]⟩ 48 (0, 0)) := fun g => g.box b3 (by omega)
  have done_ : ∀ h' s', From (s + 1 + 1 + 1) h3 h' s' → (K (.bool true) s').wp pw Z h' := fun h' s' g' => hk _ _ g'
  cases e1 : fitsK x base clean l with
  | false =>
    have hj : judgeK x base clean l k = 2 := by unfold judgeK; rw [if_pos (.inl e1)]
    rw [hj]
    simp (disch := first | assumption | omega | (simp only [Int.ofNat_eq_natCast, neg_one]; done) | (simp only [Int.ofNat_eq_natCast, neg_one]; omega)) only [tysW, w_bindJ, w_logJ, w_ct, w_cf, w_gtt, w_gft, w_gtf, w_gff, w_pt, w_pf, w_lret, w_e0, w_e1, w_e2, w_nil, w_fun, w_nt, w_nf, w_add, w_sub, w_eqt, w_eqf, w_net, w_nef, w_ltt, w_ltf, w_let, w_lef, w_gtt', w_gtf', w_get, w_gef, toNat_of, of_add, cast_add, nth_0, nth_s, Nat.zero_add, Nat.reduceAdd, Nat.reduceMul, Nat.add_zero, List.length_cons, List.length_nil, List.drop_zero, List.drop_succ_cons, List.take_succ_cons, List.take_zero, List.take_nil, true_and, and_true, Int.toNat_natCast, List.append_nil, List.nil_append, List.cons_append, show errI false = 2 from rfl, X5_8]
    exact done_ _ _ u2
  | true =>
  by_cases e2 : k.a < 0
  · have hj : judgeK x base clean l k = 2 := by unfold judgeK; rw [if_pos (.inr (wI_f (by omega)))]
    rw [hj]
    simp (disch := first | assumption | omega | (simp only [Int.ofNat_eq_natCast, neg_one]; done) | (simp only [Int.ofNat_eq_natCast, neg_one]; omega)) only [tysW, w_bindJ, w_logJ, w_ct, w_cf, w_gtt, w_gft, w_gtf, w_gff, w_pt, w_pf, w_lret, w_e0, w_e1, w_e2, w_nil, w_fun, w_nt, w_nf, w_add, w_sub, w_eqt, w_eqf, w_net, w_nef, w_ltt, w_ltf, w_let, w_lef, w_gtt', w_gtf', w_get, w_gef, toNat_of, of_add, cast_add, nth_0, nth_s, Nat.zero_add, Nat.reduceAdd, Nat.reduceMul, Nat.add_zero, List.length_cons, List.length_nil, List.drop_zero, List.drop_succ_cons, List.take_succ_cons, List.take_zero, List.take_nil, true_and, and_true, Int.toNat_natCast, List.append_nil, List.nil_append, List.cons_append, ldB (L3 u2), clB (L3 u2), ldBL (L3 u2), clBL (L3 u2), show errI true = 0 from rfl, X5_8]
    exact done_ _ _ u2
  by_cases e3 : 1099511627776 < k.a
  · have hj : judgeK x base clean l k = 2 := by unfold judgeK; rw [if_pos (.inr (wI_f (by unfold maxT; omega)))]
    rw [hj]
    simp (disch := first | assumption | omega | (simp only [Int.ofNat_eq_natCast, neg_one]; done) | (simp only [Int.ofNat_eq_natCast, neg_one]; omega)) only [tysW, w_bindJ, w_logJ, w_ct, w_cf, w_gtt, w_gft, w_gtf, w_gff, w_pt, w_pf, w_lret, w_e0, w_e1, w_e2, w_nil, w_fun, w_nt, w_nf, w_add, w_sub, w_eqt, w_eqf, w_net, w_nef, w_ltt, w_ltf, w_let, w_lef, w_gtt', w_gtf', w_get, w_gef, toNat_of, of_add, cast_add, nth_0, nth_s, Nat.zero_add, Nat.reduceAdd, Nat.reduceMul, Nat.add_zero, List.length_cons, List.length_nil, List.drop_zero, List.drop_succ_cons, List.take_succ_cons, List.take_zero, List.take_nil, true_and, and_true, Int.toNat_natCast, List.append_nil, List.nil_append, List.cons_append, ldB (L3 u2), clB (L3 u2), ldBL (L3 u2), clBL (L3 u2), show errI true = 0 from rfl, X5_8]
    exact done_ _ _ u2
  have hn2 : ¬ (fitsK x base clean l = false ∨ wI k.a 0 maxT = false) := by
    have : wI k.a 0 maxT = true := wI_iff.2 (by unfold maxT; omega)
    simp [e1, this]
  have hfu : fullK x l = true → 0 < len := fun e => by
    have h1 : (l.length : Int) = x.keep := by simpa [fullK] using e
    have := (chk_keep (fits_iff.1 e1).1).1
    omega
  simp (disch := first | assumption | omega | (simp only [Int.ofNat_eq_natCast, neg_one]; done) | (simp only [Int.ofNat_eq_natCast, neg_one]; omega)) only [tysW, w_bindJ, w_logJ, w_ct, w_cf, w_gtt, w_gft, w_gtf, w_gff, w_pt, w_pf, w_lret, w_e0, w_e1, w_e2, w_nil, w_fun, w_nt, w_nf, w_add, w_sub, w_eqt, w_eqf, w_net, w_nef, w_ltt, w_ltf, w_let, w_lef, w_gtt', w_gtf', w_get, w_gef, toNat_of, of_add, cast_add, nth_0, nth_s, Nat.zero_add, Nat.reduceAdd, Nat.reduceMul, Nat.add_zero, List.length_cons, List.length_nil, List.drop_zero, List.drop_succ_cons, List.take_succ_cons, List.take_zero, List.take_nil, true_and, and_true, Int.toNat_natCast, List.append_nil, List.nil_append, List.cons_append, ldB (L3 u2), clB (L3 u2), ldBL (L3 u2), clBL (L3 u2), show errI true = 0 from rfl]
  unfold X5_8
  simp (disch := first | assumption | omega | (simp only [Int.ofNat_eq_natCast, neg_one]; done) | (simp only [Int.ofNat_eq_natCast, neg_one]; omega)) only [tysW, w_bindJ, w_logJ, w_ct, w_cf, w_gtt, w_gft, w_gtf, w_gff, w_pt, w_pf, w_lret, w_e0, w_e1, w_e2, w_nil, w_fun, w_nt, w_nf, w_add, w_sub, w_eqt, w_eqf, w_net, w_nef, w_ltt, w_ltf, w_let, w_lef, w_gtt', w_gtf', w_get, w_gef, toNat_of, of_add, cast_add, nth_0, nth_s, Nat.zero_add, Nat.reduceAdd, Nat.reduceMul, Nat.add_zero, List.length_cons, List.length_nil, List.drop_zero, List.drop_succ_cons, List.take_succ_cons, List.take_zero, List.take_nil, true_and, and_true, Int.toNat_natCast, List.append_nil, List.nil_append, List.cons_append]
  have loop : ∀ (J : Value → Nat → AM) (hJ : ∀ h1 s1, From (s + 1 + 1 + 1) h3 h1 s1 → (J (.bool (twinAny l k)) s1).wp pw Z h1) (B : (Value → Value → Nat → AM) → Value → Value → Nat → AM) (hB : ∀ H u i s', B H u i s' = X5_7 N (D N (d + 8)) K (.pointer (some ⟨s + 1, 0, none⟩)) (.pointer (some ⟨s + 1 + 1, 0, none⟩)) J H u i s') (m i : Nat) (h1 : T) (s1 : Nat), len - i < m → i ≤ len → From (s + 1 + 1 + 1) h3 h1 s1 →
      (loopJ m 2 (fun _ _ _ => AM.fail) B (.bool (twinAny (l.take i) k)) (vi i) s1).wp pw Z h1 := by
    intro J hJ B hB m
    induction m with
    | zero => intro i h1 s1 hm; omega
    | succ m ih =>
      intro i h1 s1 hm hil g1
      have r1 := (r0.from g0.fresh g1).row
      rw [loopJ_succ, hB]
      unfold X5_7
      by_cases hlt : i < len
      · obtain ⟨y, hy⟩ := get_some (l := l) (i := i) (by omega)
        cases e4 : twinAny (l.take i) k with
        | true =>
          have e5 : twinAny (l.take (i + 1)) k = true := by
            unfold twinAny at *
            rw [List.take_add_one, List.any_append, e4, Bool.true_or]
          simp (disch := first | assumption | omega | (simp only [Int.ofNat_eq_natCast, neg_one]; done) | (simp only [Int.ofNat_eq_natCast, neg_one]; omega)) only [tysW, w_bindJ, w_logJ, w_ct, w_cf, w_gtt, w_gft, w_gtf, w_gff, w_pt, w_pf, w_lret, w_e0, w_e1, w_e2, w_nil, w_fun, w_nt, w_nf, w_add, w_sub, w_eqt, w_eqf, w_net, w_nef, w_ltt, w_ltf, w_let, w_lef, w_gtt', w_gtf', w_get, w_gef, toNat_of, of_add, cast_add, nth_0, nth_s, Nat.zero_add, Nat.reduceAdd, Nat.reduceMul, Nat.add_zero, List.length_cons, List.length_nil, List.drop_zero, List.drop_succ_cons, List.take_succ_cons, List.take_zero, List.take_nil, true_and, and_true, Int.toNat_natCast, List.append_nil, List.nil_append, List.cons_append, ldB (L2 g1), clB (L2 g1), ldBL (L2 g1), clBL (L2 g1), X5_6, X5_5]
          rw [← e5]
          exact ih (i + 1) _ _ (by omega) (by omega) g1
        | false =>
          simp (disch := first | assumption | omega | (simp only [Int.ofNat_eq_natCast, neg_one]; done) | (simp only [Int.ofNat_eq_natCast, neg_one]; omega)) only [tysW, w_bindJ, w_logJ, w_ct, w_cf, w_gtt, w_gft, w_gtf, w_gff, w_pt, w_pf, w_lret, w_e0, w_e1, w_e2, w_nil, w_fun, w_nt, w_nf, w_add, w_sub, w_eqt, w_eqf, w_net, w_nef, w_ltt, w_ltf, w_let, w_lef, w_gtt', w_gtf', w_get, w_gef, toNat_of, of_add, cast_add, nth_0, nth_s, Nat.zero_add, Nat.reduceAdd, Nat.reduceMul, Nat.add_zero, List.length_cons, List.length_nil, List.drop_zero, List.drop_succ_cons, List.take_succ_cons, List.take_zero, List.take_nil, true_and, and_true, Int.toNat_natCast, List.append_nil, List.nil_append, List.cons_append, ldB (L2 g1), clB (L2 g1), ldBL (L2 g1), clBL (L2 g1), ldB (L3 g1), clB (L3 g1), ldBL (L3 g1), clBL (L3 g1), X5_6, xa3 r1 (j := (i : Int)) (by omega) (by omega), row3L r1 hy, X5_5]
          refine ValS.goL g1 hp (s32 (d := d + 7) g1.fresh y k) fun h4 s4 ts4 ws4 g4 _ hw4 ht4 => ?_
          have e5 : twinK y k = twinAny (l.take (i + 1)) k := by
            unfold twinAny at *
            rw [List.take_add_one, List.any_append, e4, hy]
            simp
          simp (disch := first | assumption | omega | (simp only [Int.ofNat_eq_natCast, neg_one]; done) | (simp only [Int.ofNat_eq_natCast, neg_one]; omega)) only [tysW, w_bindJ, w_logJ, w_ct, w_cf, w_gtt, w_gft, w_gtf, w_gff, w_pt, w_pf, w_lret, w_e0, w_e1, w_e2, w_nil, w_fun, w_nt, w_nf, w_add, w_sub, w_eqt, w_eqf, w_net, w_nef, w_ltt, w_ltf, w_let, w_lef, w_gtt', w_gtf', w_get, w_gef, toNat_of, of_add, cast_add, nth_0, nth_s, Nat.zero_add, Nat.reduceAdd, Nat.reduceMul, Nat.add_zero, List.length_cons, List.length_nil, List.drop_zero, List.drop_succ_cons, List.take_succ_cons, List.take_zero, List.take_nil, true_and, and_true, Int.toNat_natCast, List.append_nil, List.nil_append, List.cons_append]
          rw [e5]
          exact ih (i + 1) _ _ (by omega) (by omega) g4
      · obtain rfl : i = len := by omega
        simp (disch := first | assumption | omega | (simp only [Int.ofNat_eq_natCast, neg_one]; done) | (simp only [Int.ofNat_eq_natCast, neg_one]; omega)) only [tysW, w_bindJ, w_logJ, w_ct, w_cf, w_gtt, w_gft, w_gtf, w_gff, w_pt, w_pf, w_lret, w_e0, w_e1, w_e2, w_nil, w_fun, w_nt, w_nf, w_add, w_sub, w_eqt, w_eqf, w_net, w_nef, w_ltt, w_ltf, w_let, w_lef, w_gtt', w_gtf', w_get, w_gef, toNat_of, of_add, cast_add, nth_0, nth_s, Nat.zero_add, Nat.reduceAdd, Nat.reduceMul, Nat.add_zero, List.length_cons, List.length_nil, List.drop_zero, List.drop_succ_cons, List.take_succ_cons, List.take_zero, List.take_nil, true_and, and_true, Int.toNat_natCast, List.append_nil, List.nil_append, List.cons_append, ldB (L2 g1), clB (L2 g1), ldBL (L2 g1), clBL (L2 g1)]
        rw [List.take_of_length_le (by omega)]
        exact hJ _ _ g1
  refine loop _ (fun h1 s1 g1 => ?_) _ (fun _ _ _ _ => rfl) N 0 _ _ (by omega) (by omega) u2
  unfold X5_4
  simp (disch := first | assumption | omega | (simp only [Int.ofNat_eq_natCast, neg_one]; done) | (simp only [Int.ofNat_eq_natCast, neg_one]; omega)) only [tysW, w_bindJ, w_logJ, w_ct, w_cf, w_gtt, w_gft, w_gtf, w_gff, w_pt, w_pf, w_lret, w_e0, w_e1, w_e2, w_nil, w_fun, w_nt, w_nf, w_add, w_sub, w_eqt, w_eqf, w_net, w_nef, w_ltt, w_ltf, w_let, w_lef, w_gtt', w_gtf', w_get, w_gef, toNat_of, of_add, cast_add, nth_0, nth_s, Nat.zero_add, Nat.reduceAdd, Nat.reduceMul, Nat.add_zero, List.length_cons, List.length_nil, List.drop_zero, List.drop_succ_cons, List.take_succ_cons, List.take_zero, List.take_nil, true_and, and_true, Int.toNat_natCast, List.append_nil, List.nil_append, List.cons_append, ldB (L1 g1), clB (L1 g1), ldBL (L1 g1), clBL (L1 g1), ldB (L2 g1), clB (L2 g1), ldBL (L2 g1), clBL (L2 g1)]
  refine ValS.go g1 hp (s33 (d := d + 1) hN g1.fresh x base clean (r0.from g0.fresh g1) (by omega)) fun h4 s4 g4 _ => ?_
  rw [if_pos e1]
  have fin : ∀ (n m : Int) h' s', n = m → From (s + 1 + 1 + 1) h3 h' s' → (K (.bool (decide (n = m))) s').wp pw Z h' := fun n m h' s' e g' => by rw [decide_eq_true e]; exact done_ _ _ g'
  by_cases e6 : (len : Int) = x.keep
  · have e7 : fullK x l = true := by unfold fullK; rw [hlen]; exact decide_eq_true e6
    obtain ⟨y, hy⟩ := get_some (l := l) (i := 0) (by have := hfu e7; omega)
    have r4 := (r0.from g0.fresh g4).row
    cases e8 : twinAny l k with
    | true =>
      have hj : judgeK x base clean l k = 7 := by unfold judgeK; rw [if_neg hn2, if_pos e8]
      rw [hj]
      simp (disch := first | assumption | omega | (simp only [Int.ofNat_eq_natCast, neg_one]; done) | (simp only [Int.ofNat_eq_natCast, neg_one]; omega)) only [tysW, w_bindJ, w_logJ, w_ct, w_cf, w_gtt, w_gft, w_gtf, w_gff, w_pt, w_pf, w_lret, w_e0, w_e1, w_e2, w_nil, w_fun, w_nt, w_nf, w_add, w_sub, w_eqt, w_eqf, w_net, w_nef, w_ltt, w_ltf, w_let, w_lef, w_gtt', w_gtf', w_get, w_gef, toNat_of, of_add, cast_add, nth_0, nth_s, Nat.zero_add, Nat.reduceAdd, Nat.reduceMul, Nat.add_zero, List.length_cons, List.length_nil, List.drop_zero, List.drop_succ_cons, List.take_succ_cons, List.take_zero, List.take_nil, true_and, and_true, Int.toNat_natCast, List.append_nil, List.nil_append, List.cons_append, ldB (L1 g4), clB (L1 g4), ldBL (L1 g4), clBL (L1 g4), ldB (L2 g4), clB (L2 g4), ldBL (L2 g4), clBL (L2 g4)]
      exact done_ _ _ g4
    | false =>
    by_cases e9 : k.a < floorK x base l
    · have hj : judgeK x base clean l k = 6 := by unfold judgeK; rw [if_neg hn2, if_neg (by simp [e8]), if_pos (.inl e9)]
      rw [hj]
      simp (disch := first | assumption | omega | (simp only [Int.ofNat_eq_natCast, neg_one]; done) | (simp only [Int.ofNat_eq_natCast, neg_one]; omega)) only [tysW, w_bindJ, w_logJ, w_ct, w_cf, w_gtt, w_gft, w_gtf, w_gff, w_pt, w_pf, w_lret, w_e0, w_e1, w_e2, w_nil, w_fun, w_nt, w_nf, w_add, w_sub, w_eqt, w_eqf, w_net, w_nef, w_ltt, w_ltf, w_let, w_lef, w_gtt', w_gtf', w_get, w_gef, toNat_of, of_add, cast_add, nth_0, nth_s, Nat.zero_add, Nat.reduceAdd, Nat.reduceMul, Nat.add_zero, List.length_cons, List.length_nil, List.drop_zero, List.drop_succ_cons, List.take_succ_cons, List.take_zero, List.take_nil, true_and, and_true, Int.toNat_natCast, List.append_nil, List.nil_append, List.cons_append, ldB (L1 g4), clB (L1 g4), ldBL (L1 g4), clBL (L1 g4), ldB (L2 g4), clB (L2 g4), ldBL (L2 g4), clBL (L2 g4), ldB (L3 g4), clB (L3 g4), ldBL (L3 g4), clBL (L3 g4)]
      unfold X5_3 X5_2 X5_1
      simp (disch := first | assumption | omega | (simp only [Int.ofNat_eq_natCast, neg_one]; done) | (simp only [Int.ofNat_eq_natCast, neg_one]; omega)) only [tysW, w_bindJ, w_logJ, w_ct, w_cf, w_gtt, w_gft, w_gtf, w_gff, w_pt, w_pf, w_lret, w_e0, w_e1, w_e2, w_nil, w_fun, w_nt, w_nf, w_add, w_sub, w_eqt, w_eqf, w_net, w_nef, w_ltt, w_ltf, w_let, w_lef, w_gtt', w_gtf', w_get, w_gef, toNat_of, of_add, cast_add, nth_0, nth_s, Nat.zero_add, Nat.reduceAdd, Nat.reduceMul, Nat.add_zero, List.length_cons, List.length_nil, List.drop_zero, List.drop_succ_cons, List.take_succ_cons, List.take_zero, List.take_nil, true_and, and_true, Int.toNat_natCast, List.append_nil, List.nil_append, List.cons_append]
      exact done_ _ _ g4
    · simp (disch := first | assumption | omega | (simp only [Int.ofNat_eq_natCast, neg_one]; done) | (simp only [Int.ofNat_eq_natCast, neg_one]; omega)) only [tysW, w_bindJ, w_logJ, w_ct, w_cf, w_gtt, w_gft, w_gtf, w_gff, w_pt, w_pf, w_lret, w_e0, w_e1, w_e2, w_nil, w_fun, w_nt, w_nf, w_add, w_sub, w_eqt, w_eqf, w_net, w_nef, w_ltt, w_ltf, w_let, w_lef, w_gtt', w_gtf', w_get, w_gef, toNat_of, of_add, cast_add, nth_0, nth_s, Nat.zero_add, Nat.reduceAdd, Nat.reduceMul, Nat.add_zero, List.length_cons, List.length_nil, List.drop_zero, List.drop_succ_cons, List.take_succ_cons, List.take_zero, List.take_nil, true_and, and_true, Int.toNat_natCast, List.append_nil, List.nil_append, List.cons_append, ldB (L1 g4), clB (L1 g4), ldBL (L1 g4), clBL (L1 g4), ldB (L2 g4), clB (L2 g4), ldBL (L2 g4), clBL (L2 g4), ldB (L3 g4), clB (L3 g4), ldBL (L3 g4), clBL (L3 g4)]
      unfold X5_3
      simp (disch := first | assumption | omega | (simp only [Int.ofNat_eq_natCast, neg_one]; done) | (simp only [Int.ofNat_eq_natCast, neg_one]; omega)) only [tysW, w_bindJ, w_logJ, w_ct, w_cf, w_gtt, w_gft, w_gtf, w_gff, w_pt, w_pf, w_lret, w_e0, w_e1, w_e2, w_nil, w_fun, w_nt, w_nf, w_add, w_sub, w_eqt, w_eqf, w_net, w_nef, w_ltt, w_ltf, w_let, w_lef, w_gtt', w_gtf', w_get, w_gef, toNat_of, of_add, cast_add, nth_0, nth_s, Nat.zero_add, Nat.reduceAdd, Nat.reduceMul, Nat.add_zero, List.length_cons, List.length_nil, List.drop_zero, List.drop_succ_cons, List.take_succ_cons, List.take_zero, List.take_nil, true_and, and_true, Int.toNat_natCast, List.append_nil, List.nil_append, List.cons_append, ldB (L1 g4), clB (L1 g4), ldBL (L1 g4), clBL (L1 g4), ldB (L2 g4), clB (L2 g4), ldBL (L2 g4), clBL (L2 g4), ldB (L3 g4), clB (L3 g4), ldBL (L3 g4), clBL (L3 g4)]
      unfold X5_2
      simp (disch := first | assumption | omega | (simp only [Int.ofNat_eq_natCast, neg_one]; done) | (simp only [Int.ofNat_eq_natCast, neg_one]; omega)) only [tysW, w_bindJ, w_logJ, w_ct, w_cf, w_gtt, w_gft, w_gtf, w_gff, w_pt, w_pf, w_lret, w_e0, w_e1, w_e2, w_nil, w_fun, w_nt, w_nf, w_add, w_sub, w_eqt, w_eqf, w_net, w_nef, w_ltt, w_ltf, w_let, w_lef, w_gtt', w_gtf', w_get, w_gef, toNat_of, of_add, cast_add, nth_0, nth_s, Nat.zero_add, Nat.reduceAdd, Nat.reduceMul, Nat.add_zero, List.length_cons, List.length_nil, List.drop_zero, List.drop_succ_cons, List.take_succ_cons, List.take_zero, List.take_nil, true_and, and_true, Int.toNat_natCast, List.append_nil, List.nil_append, List.cons_append, xa30 r4 (hfu e7), row30L r4 hy]
      refine ValS.goL g4 hp (s34 (d := d + 4) hN g4.fresh k y) fun h5 s5 ts5 ws5 g5 _ hw5 ht5 => ?_
      unfold X5_1
      cases e10 : lessK k y with
      | true =>
        have hj : judgeK x base clean l k = 6 := by unfold judgeK; rw [if_neg hn2, if_neg (by simp [e8]), if_pos (.inr ⟨e7, by unfold aheadK; rw [hy]; exact e10⟩)]
        rw [hj]
        simp (disch := first | assumption | omega | (simp only [Int.ofNat_eq_natCast, neg_one]; done) | (simp only [Int.ofNat_eq_natCast, neg_one]; omega)) only [tysW, w_bindJ, w_logJ, w_ct, w_cf, w_gtt, w_gft, w_gtf, w_gff, w_pt, w_pf, w_lret, w_e0, w_e1, w_e2, w_nil, w_fun, w_nt, w_nf, w_add, w_sub, w_eqt, w_eqf, w_net, w_nef, w_ltt, w_ltf, w_let, w_lef, w_gtt', w_gtf', w_get, w_gef, toNat_of, of_add, cast_add, nth_0, nth_s, Nat.zero_add, Nat.reduceAdd, Nat.reduceMul, Nat.add_zero, List.length_cons, List.length_nil, List.drop_zero, List.drop_succ_cons, List.take_succ_cons, List.take_zero, List.take_nil, true_and, and_true, Int.toNat_natCast, List.append_nil, List.nil_append, List.cons_append]
        exact done_ _ _ g5
      | false =>
        have hn6 : ¬ (k.a < floorK x base l ∨ (fullK x l = true ∧ aheadK l k = true)) := by
          rintro (h1 | ⟨h1, h2⟩)
          · exact e9 h1
          · unfold aheadK at h2; rw [hy] at h2; rw [show lessK k y = true from h2] at e10; cases e10
        by_cases e11 : clean = 0
        · have hj : judgeK x base clean l k = 12 := by unfold judgeK; rw [if_neg hn2, if_neg (by simp [e8]), if_neg hn6, if_pos ⟨e7, e11⟩]
          rw [hj]
          simp (disch := first | assumption | omega | (simp only [Int.ofNat_eq_natCast, neg_one]; done) | (simp only [Int.ofNat_eq_natCast, neg_one]; omega)) only [tysW, w_bindJ, w_logJ, w_ct, w_cf, w_gtt, w_gft, w_gtf, w_gff, w_pt, w_pf, w_lret, w_e0, w_e1, w_e2, w_nil, w_fun, w_nt, w_nf, w_add, w_sub, w_eqt, w_eqf, w_net, w_nef, w_ltt, w_ltf, w_let, w_lef, w_gtt', w_gtf', w_get, w_gef, toNat_of, of_add, cast_add, nth_0, nth_s, Nat.zero_add, Nat.reduceAdd, Nat.reduceMul, Nat.add_zero, List.length_cons, List.length_nil, List.drop_zero, List.drop_succ_cons, List.take_succ_cons, List.take_zero, List.take_nil, true_and, and_true, Int.toNat_natCast, List.append_nil, List.nil_append, List.cons_append, ldB (L2 g5), clB (L2 g5), ldBL (L2 g5), clBL (L2 g5)]
          exact done_ _ _ g5
        · have hj : judgeK x base clean l k = 0 := by unfold judgeK; rw [if_neg hn2, if_neg (by simp [e8]), if_neg hn6, if_neg (fun h => e11 h.2)]
          rw [hj]
          simp (disch := first | assumption | omega | (simp only [Int.ofNat_eq_natCast, neg_one]; done) | (simp only [Int.ofNat_eq_natCast, neg_one]; omega)) only [tysW, w_bindJ, w_logJ, w_ct, w_cf, w_gtt, w_gft, w_gtf, w_gff, w_pt, w_pf, w_lret, w_e0, w_e1, w_e2, w_nil, w_fun, w_nt, w_nf, w_add, w_sub, w_eqt, w_eqf, w_net, w_nef, w_ltt, w_ltf, w_let, w_lef, w_gtt', w_gtf', w_get, w_gef, toNat_of, of_add, cast_add, nth_0, nth_s, Nat.zero_add, Nat.reduceAdd, Nat.reduceMul, Nat.add_zero, List.length_cons, List.length_nil, List.drop_zero, List.drop_succ_cons, List.take_succ_cons, List.take_zero, List.take_nil, true_and, and_true, Int.toNat_natCast, List.append_nil, List.nil_append, List.cons_append, ldB (L2 g5), clB (L2 g5), ldBL (L2 g5), clBL (L2 g5)]
          exact done_ _ _ g5
  · have e7 : fullK x l = false := by unfold fullK; rw [hlen]; exact decide_eq_false e6
    cases e8 : twinAny l k with
    | true =>
      have hj : judgeK x base clean l k = 7 := by unfold judgeK; rw [if_neg hn2, if_pos e8]
      rw [hj]
      simp (disch := first | assumption | omega | (simp only [Int.ofNat_eq_natCast, neg_one]; done) | (simp only [Int.ofNat_eq_natCast, neg_one]; omega)) only [tysW, w_bindJ, w_logJ, w_ct, w_cf, w_gtt, w_gft, w_gtf, w_gff, w_pt, w_pf, w_lret, w_e0, w_e1, w_e2, w_nil, w_fun, w_nt, w_nf, w_add, w_sub, w_eqt, w_eqf, w_net, w_nef, w_ltt, w_ltf, w_let, w_lef, w_gtt', w_gtf', w_get, w_gef, toNat_of, of_add, cast_add, nth_0, nth_s, Nat.zero_add, Nat.reduceAdd, Nat.reduceMul, Nat.add_zero, List.length_cons, List.length_nil, List.drop_zero, List.drop_succ_cons, List.take_succ_cons, List.take_zero, List.take_nil, true_and, and_true, Int.toNat_natCast, List.append_nil, List.nil_append, List.cons_append, ldB (L1 g4), clB (L1 g4), ldBL (L1 g4), clBL (L1 g4), ldB (L2 g4), clB (L2 g4), ldBL (L2 g4), clBL (L2 g4)]
      exact done_ _ _ g4
    | false =>
    by_cases e9 : k.a < floorK x base l
    · have hj : judgeK x base clean l k = 6 := by unfold judgeK; rw [if_neg hn2, if_neg (by simp [e8]), if_pos (.inl e9)]
      rw [hj]
      simp (disch := first | assumption | omega | (simp only [Int.ofNat_eq_natCast, neg_one]; done) | (simp only [Int.ofNat_eq_natCast, neg_one]; omega)) only [tysW, w_bindJ, w_logJ, w_ct, w_cf, w_gtt, w_gft, w_gtf, w_gff, w_pt, w_pf, w_lret, w_e0, w_e1, w_e2, w_nil, w_fun, w_nt, w_nf, w_add, w_sub, w_eqt, w_eqf, w_net, w_nef, w_ltt, w_ltf, w_let, w_lef, w_gtt', w_gtf', w_get, w_gef, toNat_of, of_add, cast_add, nth_0, nth_s, Nat.zero_add, Nat.reduceAdd, Nat.reduceMul, Nat.add_zero, List.length_cons, List.length_nil, List.drop_zero, List.drop_succ_cons, List.take_succ_cons, List.take_zero, List.take_nil, true_and, and_true, Int.toNat_natCast, List.append_nil, List.nil_append, List.cons_append, ldB (L1 g4), clB (L1 g4), ldBL (L1 g4), clBL (L1 g4), ldB (L2 g4), clB (L2 g4), ldBL (L2 g4), clBL (L2 g4), ldB (L3 g4), clB (L3 g4), ldBL (L3 g4), clBL (L3 g4)]
      unfold X5_3 X5_2 X5_1
      simp (disch := first | assumption | omega | (simp only [Int.ofNat_eq_natCast, neg_one]; done) | (simp only [Int.ofNat_eq_natCast, neg_one]; omega)) only [tysW, w_bindJ, w_logJ, w_ct, w_cf, w_gtt, w_gft, w_gtf, w_gff, w_pt, w_pf, w_lret, w_e0, w_e1, w_e2, w_nil, w_fun, w_nt, w_nf, w_add, w_sub, w_eqt, w_eqf, w_net, w_nef, w_ltt, w_ltf, w_let, w_lef, w_gtt', w_gtf', w_get, w_gef, toNat_of, of_add, cast_add, nth_0, nth_s, Nat.zero_add, Nat.reduceAdd, Nat.reduceMul, Nat.add_zero, List.length_cons, List.length_nil, List.drop_zero, List.drop_succ_cons, List.take_succ_cons, List.take_zero, List.take_nil, true_and, and_true, Int.toNat_natCast, List.append_nil, List.nil_append, List.cons_append]
      exact done_ _ _ g4
    · have hj : judgeK x base clean l k = 0 := by unfold judgeK; rw [if_neg hn2, if_neg (by simp [e8]), if_neg (by simp [e9, e7]), if_neg (by simp [e7])]
      rw [hj]
      simp (disch := first | assumption | omega | (simp only [Int.ofNat_eq_natCast, neg_one]; done) | (simp only [Int.ofNat_eq_natCast, neg_one]; omega)) only [tysW, w_bindJ, w_logJ, w_ct, w_cf, w_gtt, w_gft, w_gtf, w_gff, w_pt, w_pf, w_lret, w_e0, w_e1, w_e2, w_nil, w_fun, w_nt, w_nf, w_add, w_sub, w_eqt, w_eqf, w_net, w_nef, w_ltt, w_ltf, w_let, w_lef, w_gtt', w_gtf', w_get, w_gef, toNat_of, of_add, cast_add, nth_0, nth_s, Nat.zero_add, Nat.reduceAdd, Nat.reduceMul, Nat.add_zero, List.length_cons, List.length_nil, List.drop_zero, List.drop_succ_cons, List.take_succ_cons, List.take_zero, List.take_nil, true_and, and_true, Int.toNat_natCast, List.append_nil, List.nil_append, List.cons_append, ldB (L1 g4), clB (L1 g4), ldBL (L1 g4), clBL (L1 g4), ldB (L2 g4), clB (L2 g4), ldBL (L2 g4), clBL (L2 g4), ldB (L3 g4), clB (L3 g4), ldBL (L3 g4), clBL (L3 g4)]
      unfold X5_3 X5_2 X5_1
      simp (disch := first | assumption | omega | (simp only [Int.ofNat_eq_natCast, neg_one]; done) | (simp only [Int.ofNat_eq_natCast, neg_one]; omega)) only [tysW, w_bindJ, w_logJ, w_ct, w_cf, w_gtt, w_gft, w_gtf, w_gff, w_pt, w_pf, w_lret, w_e0, w_e1, w_e2, w_nil, w_fun, w_nt, w_nf, w_add, w_sub, w_eqt, w_eqf, w_net, w_nef, w_ltt, w_ltf, w_let, w_lef, w_gtt', w_gtf', w_get, w_gef, toNat_of, of_add, cast_add, nth_0, nth_s, Nat.zero_add, Nat.reduceAdd, Nat.reduceMul, Nat.add_zero, List.length_cons, List.length_nil, List.drop_zero, List.drop_succ_cons, List.take_succ_cons, List.take_zero, List.take_nil, true_and, and_true, Int.toNat_natCast, List.append_nil, List.nil_append, List.cons_append]
      exact done_ _ _ g4
end
end Go.Ev.R
